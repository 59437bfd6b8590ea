/- What bound.Valid answers on any protocol: the same as the reference. -/
import Derived.Test.YtpfbommaddaijaaZePa
namespace Go.Proofs.Ytpfbommaddaijaa
open Go.RowKit Go.Proofs.YtpfbommaddaijaaW.PrintWords Go.Proofs.YtpfbommaddaijaaW.PrintLast PBoundTo
set_option linter.unusedVariables false
set_option linter.unusedSimpArgs false

/-- what valid answers: r, and the count that is left -/
def VR (W : World) (gn : Nat) (r : Bool) (left : Int) (e : Ending) (W' : World) : Prop := e = .returned (.bool r) ∧ W.grownBy W' (some gn) ∧ (r = true → W'.heap[gn]? = some (.cells #[I left] 3 (0, 0)))
theorem grown_drewN {w W : World} {r : Option Nat} (h : w.grownBy W r) (m : Nat) : w.grownBy (W.drewN m) r := ⟨h.os, h.tape, h.output, h.size, h.block⟩
set_option maxHeartbeats 8000000 in
set_option maxRecDepth 100000 in
theorem v98_stop {lf b0 b1 : Bool} {W : World} {gn n : Nat} {v pl N M D : Int} {ask : List Bool} {kids : List S32} {A3 A4 : Option Addr} {c3 c4 : Nat} (hcell : W.heap[gn]? = some (.cells #[I N] 3 (0, 0))) (hw : wrap64 (N - 1) = M) (h0 : decide (M < 0) = b0) (h1 : decide (D < 0) = b1) (hb : (b0 || b1) = true) (left : Int) :
    Calls Try.prog 98 #[.agg #[.bool lf, I v, I pl, .slice A3 ask.length c3, .slice A4 kids.length c4], I n, I D, .pointer (some ⟨gn, 0, none⟩)] W (VR W gn false left) := by
  unfold VR
  have hgn : gn < W.heap.size := blk_lt hcell
  obtain ⟨W1, hW1⟩ : ∃ W1, W1 = W.alloc (.cells #[.bool lf, I v, I pl, .slice A3 ask.length c3, .slice A4 kids.length c4] 32) := ⟨_, rfl⟩
  have HG1 : Hid (W.grownBy W1 (some gn)) := Lib.hid (by rw [hW1]; exact World.grownBy_alloc _ _ _)
  have BK : W1.heap[W.heap.size]? = some (.cells #[.bool lf, I v, I pl, .slice A3 ask.length c3, .slice A4 kids.length c4] 32 (0, 0)) := by rw [hW1]; exact blk_new _ _
  have hcell1 : W1.heap[gn]? = some (.cells #[I N] 3 (0, 0)) := by rw [hW1]; exact blk_alloc hcell _
  have d0 : W1.cell? ⟨gn, 0, none⟩ = some (I N) := (blk_cell hcell1 0).trans rfl
  have f0 := blk_frozen hcell1 0
  have HBK2 : Hid ((W1.setCell ⟨gn, 0, none⟩ (.int .i64 M)).heap[W.heap.size]? = some (.cells #[.bool lf, I v, I pl, .slice A3 ask.length c3, .slice A4 kids.length c4] 32 (0, 0))) := Lib.hid ((blk_far BK (show W.heap.size ≠ gn from Nat.ne_of_gt hgn) _))
  have HC2 : Hid ((W1.setCell ⟨gn, 0, none⟩ (.int .i64 M)).heap[gn]? = some (.cells #[I M] 3 (0, 0))) := Lib.hid (blk_set hcell1 0 (I M))
  have HG2 : Hid (W.grownBy (W1.setCell ⟨gn, 0, none⟩ (.int .i64 M)) (some gn)) := Lib.hid (grown_set HG1.out (.inl rfl) _ _)
  have HGN := Lib.hid hgn
  clear BK hcell hcell1 hgn HG1
  have hc : b0 = true ∨ (b0 = false ∧ b1 = true) := by revert hb; cases b0 <;> cases b1 <;> simp
  clear hb
  generalize ask.length = la at *
  generalize kids.length = lk at *
  rcases hc with rfl | ⟨rfl, rfl⟩
  all_goals
    go_enter Try.func98, Try.ntmps98
    go_upto_region 1 with fail
    rw [← hW1]
    clear hW1
    go_upto_region 2 with fail
    clear d0 f0 hw
    generalize W1.setCell ⟨gn, 0, none⟩ (.int .i64 M) = W2 at *
    have d0 : W2.cell? ⟨gn, 0, none⟩ = some (I M) := (blk_cell HC2.out 0).trans rfl
    have k0 : W2.cell? ⟨W.heap.size, 0, none⟩ = some (.bool lf) := (blk_cell HBK2.out 0).trans rfl
    have k1 : W2.cell? ⟨W.heap.size, 1, none⟩ = some (I v) := (blk_cell HBK2.out 1).trans rfl
    have k2 : W2.cell? ⟨W.heap.size, 2, none⟩ = some (I pl) := (blk_cell HBK2.out 2).trans rfl
    have k3 : W2.cell? ⟨W.heap.size, 3, none⟩ = some (.slice A3 la c3) := (blk_cell HBK2.out 3).trans rfl
    have k4 : W2.cell? ⟨W.heap.size, 4, none⟩ = some (.slice A4 lk c4) := (blk_cell HBK2.out 4).trans rfl
    go_wp2
    go_ret
    exact ⟨rfl, HG2.out, fun h => by cases h⟩
set_option maxHeartbeats 8000000 in
set_option maxRecDepth 100000 in
theorem v98_leaf {b1 b2 b3 b4 b5 : Bool} {W : World} {gn n : Nat} {v pl N M D : Int} {ask : List Bool} {kids : List S32} {A3 A4 : Option Addr} {c3 c4 : Nat} (hcell : W.heap[gn]? = some (.cells #[I N] 3 (0, 0))) (hw : wrap64 (N - 1) = M) (g0 : decide (M < 0) = false) (g1 : decide (D < 0) = false) (h1 : decide (0 ≤ v) = b1) (h2 : decide (v < n) = b2) (h3 : (pl == 0) = b3) (h4 : ((ask.length : Int) == 0) = b4) (h5 : ((kids.length : Int) == 0) = b5) :
    Calls Try.prog 98 #[.agg #[.bool true, I v, I pl, .slice A3 ask.length c3, .slice A4 kids.length c4], I n, I D, .pointer (some ⟨gn, 0, none⟩)] W (VR W gn (b1 && b2 && b3 && b4 && b5) M) := by
  unfold VR
  have hgn : gn < W.heap.size := blk_lt hcell
  obtain ⟨W1, hW1⟩ : ∃ W1, W1 = W.alloc (.cells #[.bool true, I v, I pl, .slice A3 ask.length c3, .slice A4 kids.length c4] 32) := ⟨_, rfl⟩
  have HG1 : Hid (W.grownBy W1 (some gn)) := Lib.hid (by rw [hW1]; exact World.grownBy_alloc _ _ _)
  have BK : W1.heap[W.heap.size]? = some (.cells #[.bool true, I v, I pl, .slice A3 ask.length c3, .slice A4 kids.length c4] 32 (0, 0)) := by rw [hW1]; exact blk_new _ _
  have hcell1 : W1.heap[gn]? = some (.cells #[I N] 3 (0, 0)) := by rw [hW1]; exact blk_alloc hcell _
  have d0 : W1.cell? ⟨gn, 0, none⟩ = some (I N) := (blk_cell hcell1 0).trans rfl
  have f0 := blk_frozen hcell1 0
  have HBK2 : Hid ((W1.setCell ⟨gn, 0, none⟩ (.int .i64 M)).heap[W.heap.size]? = some (.cells #[.bool true, I v, I pl, .slice A3 ask.length c3, .slice A4 kids.length c4] 32 (0, 0))) := Lib.hid ((blk_far BK (show W.heap.size ≠ gn from Nat.ne_of_gt hgn) _))
  have HC2 : Hid ((W1.setCell ⟨gn, 0, none⟩ (.int .i64 M)).heap[gn]? = some (.cells #[I M] 3 (0, 0))) := Lib.hid (blk_set hcell1 0 (I M))
  have HG2 : Hid (W.grownBy (W1.setCell ⟨gn, 0, none⟩ (.int .i64 M)) (some gn)) := Lib.hid (grown_set HG1.out (.inl rfl) _ _)
  have HGN := Lib.hid hgn
  clear BK hcell hcell1 hgn HG1
  have hc : b1 = false ∨ (b1 = true ∧ b2 = false) ∨ (b1 = true ∧ b2 = true ∧ b3 = false) ∨ (b1 = true ∧ b2 = true ∧ b3 = true ∧ b4 = false) ∨ (b1 = true ∧ b2 = true ∧ b3 = true ∧ b4 = true) := by
    cases b1 <;> cases b2 <;> cases b3 <;> cases b4 <;> simp
  generalize ask.length = la at *
  generalize kids.length = lk at *
  rcases hc with rfl | ⟨rfl, rfl⟩ | ⟨rfl, rfl, rfl⟩ | ⟨rfl, rfl, rfl, rfl⟩ | ⟨rfl, rfl, rfl, rfl⟩
  all_goals
    go_enter Try.func98, Try.ntmps98
    go_upto_region 1 with fail
    rw [← hW1]
    clear hW1
    go_upto_region 2 with fail
    clear d0 f0 hw
    generalize W1.setCell ⟨gn, 0, none⟩ (.int .i64 M) = W2 at *
    have d0 : W2.cell? ⟨gn, 0, none⟩ = some (I M) := (blk_cell HC2.out 0).trans rfl
    have k0 : W2.cell? ⟨W.heap.size, 0, none⟩ = some (.bool true) := (blk_cell HBK2.out 0).trans rfl
    have k1 : W2.cell? ⟨W.heap.size, 1, none⟩ = some (I v) := (blk_cell HBK2.out 1).trans rfl
    have k2 : W2.cell? ⟨W.heap.size, 2, none⟩ = some (I pl) := (blk_cell HBK2.out 2).trans rfl
    have k3 : W2.cell? ⟨W.heap.size, 3, none⟩ = some (.slice A3 la c3) := (blk_cell HBK2.out 3).trans rfl
    have k4 : W2.cell? ⟨W.heap.size, 4, none⟩ = some (.slice A4 lk c4) := (blk_cell HBK2.out 4).trans rfl
    go_wp2
    go_ret
    exact ⟨by simp only [h1, h2, h3, h4, h5] <;> rfl, HG2.out, fun _ => HC2.out⟩
set_option maxHeartbeats 8000000 in
set_option maxRecDepth 100000 in
theorem v98_short {b1 b2 b3 b4 b5 : Bool} {P : Nat} {W : World} {gn n : Nat} {v pl N M D : Int} {ask : List Bool} {kids : List S32} {A3 A4 : Option Addr} {c3 c4 : Nat} (hcell : W.heap[gn]? = some (.cells #[I N] 3 (0, 0))) (hw : wrap64 (N - 1) = M) (hn : (n : Int) ≤ 12) (hw2 : wrap64 ((2 : Int) ^ n) = (P : Int)) (g0 : decide (M < 0) = false) (g1 : decide (D < 0) = false) (h1 : (v == 0) = b1) (h2 : decide (pl < 0) = b2) (h3 : decide (1 < pl) = b3) (h4 : ((ask.length : Int) == (P : Int)) = b4) (h5 : ((kids.length : Int) == 2) = b5) (hx : (b1 && !b2 && !b3 && b4 && b5) = false) (left : Int) :
    Calls Try.prog 98 #[.agg #[.bool false, I v, I pl, .slice A3 ask.length c3, .slice A4 kids.length c4], I n, I D, .pointer (some ⟨gn, 0, none⟩)] W (VR W gn false left) := by
  unfold VR
  have hgn : gn < W.heap.size := blk_lt hcell
  obtain ⟨W1, hW1⟩ : ∃ W1, W1 = W.alloc (.cells #[.bool false, I v, I pl, .slice A3 ask.length c3, .slice A4 kids.length c4] 32) := ⟨_, rfl⟩
  have HG1 : Hid (W.grownBy W1 (some gn)) := Lib.hid (by rw [hW1]; exact World.grownBy_alloc _ _ _)
  have BK : W1.heap[W.heap.size]? = some (.cells #[.bool false, I v, I pl, .slice A3 ask.length c3, .slice A4 kids.length c4] 32 (0, 0)) := by rw [hW1]; exact blk_new _ _
  have hcell1 : W1.heap[gn]? = some (.cells #[I N] 3 (0, 0)) := by rw [hW1]; exact blk_alloc hcell _
  have d0 : W1.cell? ⟨gn, 0, none⟩ = some (I N) := (blk_cell hcell1 0).trans rfl
  have f0 := blk_frozen hcell1 0
  have HBK2 : Hid ((W1.setCell ⟨gn, 0, none⟩ (.int .i64 M)).heap[W.heap.size]? = some (.cells #[.bool false, I v, I pl, .slice A3 ask.length c3, .slice A4 kids.length c4] 32 (0, 0))) := Lib.hid ((blk_far BK (show W.heap.size ≠ gn from Nat.ne_of_gt hgn) _))
  have HC2 : Hid ((W1.setCell ⟨gn, 0, none⟩ (.int .i64 M)).heap[gn]? = some (.cells #[I M] 3 (0, 0))) := Lib.hid (blk_set hcell1 0 (I M))
  have HG2 : Hid (W.grownBy (W1.setCell ⟨gn, 0, none⟩ (.int .i64 M)) (some gn)) := Lib.hid (grown_set HG1.out (.inl rfl) _ _)
  have HGN := Lib.hid hgn
  clear BK hcell hcell1 hgn HG1
  have h1' : (v != 0) = !b1 := by rw [← h1]; rfl
  have h4' : ((ask.length : Int) != (P : Int)) = !b4 := by rw [← h4]; rfl
  have h5' : ((kids.length : Int) != 2) = !b5 := by rw [← h5]; rfl
  have hn0 : (0 : Int) ≤ n := Int.natCast_nonneg n
  have hc : b1 = false ∨ (b1 = true ∧ b2 = true) ∨ (b1 = true ∧ b2 = false ∧ b3 = true) ∨ (b1 = true ∧ b2 = false ∧ b3 = false ∧ b4 = false) ∨ (b1 = true ∧ b2 = false ∧ b3 = false ∧ b4 = true ∧ b5 = false) := by
    revert hx; cases b1 <;> cases b2 <;> cases b3 <;> cases b4 <;> cases b5 <;> simp
  clear hx
  generalize ask.length = la at *
  generalize kids.length = lk at *
  rcases hc with rfl | ⟨rfl, rfl⟩ | ⟨rfl, rfl, rfl⟩ | ⟨rfl, rfl, rfl, rfl⟩ | ⟨rfl, rfl, rfl, rfl, rfl⟩
  all_goals
    simp only [Bool.not_true, Bool.not_false] at h1' h4' h5'
    go_enter Try.func98, Try.ntmps98
    go_upto_region 1 with fail
    rw [← hW1]
    clear hW1
    go_upto_region 2 with fail
    clear d0 f0 hw
    generalize W1.setCell ⟨gn, 0, none⟩ (.int .i64 M) = W2 at *
    have d0 : W2.cell? ⟨gn, 0, none⟩ = some (I M) := (blk_cell HC2.out 0).trans rfl
    have k0 : W2.cell? ⟨W.heap.size, 0, none⟩ = some (.bool false) := (blk_cell HBK2.out 0).trans rfl
    have k1 : W2.cell? ⟨W.heap.size, 1, none⟩ = some (I v) := (blk_cell HBK2.out 1).trans rfl
    have k2 : W2.cell? ⟨W.heap.size, 2, none⟩ = some (I pl) := (blk_cell HBK2.out 2).trans rfl
    have k3 : W2.cell? ⟨W.heap.size, 3, none⟩ = some (.slice A3 la c3) := (blk_cell HBK2.out 3).trans rfl
    have k4 : W2.cell? ⟨W.heap.size, 4, none⟩ = some (.slice A4 lk c4) := (blk_cell HBK2.out 4).trans rfl
    go_upto_region 6 with fail
    go_quiet (fail)
    go_wp2
    go_ret
    exact ⟨rfl, grown_drewN HG2.out _, fun h => by cases h⟩
set_option maxHeartbeats 8000000 in
set_option maxRecDepth 100000 in
theorem v98_full {r0 r1 : Bool} {P : Nat} {w0 : World} {ad : Addr} {M1 M2 : Int} {x0 x1 x2 x3 x4 y0 y1 y2 y3 y4 : Value} {W : World} {gn n : Nat} {v pl N M D : Int} {ask : List Bool} {A3 : Option Addr} {c3 c4 : Nat} (hcell : W.heap[gn]? = some (.cells #[I N] 3 (0, 0))) (hw : wrap64 (N - 1) = M) (hn : (n : Int) ≤ 12) (hw2 : wrap64 ((2 : Int) ^ n) = (P : Int)) (g0 : decide (M < 0) = false) (g1 : decide (D < 0) = false) (hD0 : 0 ≤ D) (hD6 : D ≤ 60) (h1 : (v == 0) = true) (h2 : decide (pl < 0) = false) (h3 : decide (1 < pl) = false) (h4 : ((ask.length : Int) == (P : Int)) = true)
    (hB : Below w0.heap.size w0 W) (hg0 : w0.heap.size ≤ gn)
    (p0 : w0.cell? (ad.add 0) = some x0) (p1 : w0.cell? (ad.add 1) = some x1) (p2 : w0.cell? (ad.add 2) = some x2) (p3 : w0.cell? (ad.add 3) = some x3) (p4 : w0.cell? (ad.add 4) = some x4)
    (q0 : w0.cell? (ad.add 5) = some y0) (q1 : w0.cell? (ad.add 6) = some y1) (q2 : w0.cell? (ad.add 7) = some y2) (q3 : w0.cell? (ad.add 8) = some y3) (q4 : w0.cell? (ad.add 9) = some y4)
    (HX : ∀ W' : World, Below w0.heap.size w0 W' → W'.heap[gn]? = some (.cells #[I M] 3 (0, 0)) → Calls Try.prog 98 #[.agg #[x0, x1, x2, x3, x4], I n, I (D - 1), .pointer (some ⟨gn, 0, none⟩)] W' (VR W' gn r0 M1))
    (HY : r0 = true → ∀ W' : World, Below w0.heap.size w0 W' → W'.heap[gn]? = some (.cells #[I M1] 3 (0, 0)) → Calls Try.prog 98 #[.agg #[y0, y1, y2, y3, y4], I n, I (D - 1), .pointer (some ⟨gn, 0, none⟩)] W' (VR W' gn r1 M2)) :
    Calls Try.prog 98 #[.agg #[.bool false, I v, I pl, .slice A3 ask.length c3, .slice (some ad) 2 c4], I n, I D, .pointer (some ⟨gn, 0, none⟩)] W (VR W gn (r0 && r1) M2) := by
  unfold VR at HX HY
  replace HX := Lib.hid HX
  have HB := Lib.hid hB
  have Hg0 := Lib.hid hg0
  rw [Addr.add_zero'] at p0
  replace p0 := Lib.hid p0
  replace p1 := Lib.hid p1
  replace p2 := Lib.hid p2
  replace p3 := Lib.hid p3
  replace p4 := Lib.hid p4
  replace q0 := Lib.hid q0
  replace q1 := Lib.hid q1
  replace q2 := Lib.hid q2
  replace q3 := Lib.hid q3
  replace q4 := Lib.hid q4
  clear hB hg0
  unfold VR
  have hgn : gn < W.heap.size := blk_lt hcell
  obtain ⟨W1, hW1⟩ : ∃ W1, W1 = W.alloc (.cells #[.bool false, I v, I pl, .slice A3 ask.length c3, .slice (some ad) 2 c4] 32) := ⟨_, rfl⟩
  have HG1 : Hid (W.grownBy W1 (some gn)) := Lib.hid (by rw [hW1]; exact World.grownBy_alloc _ _ _)
  have BK : W1.heap[W.heap.size]? = some (.cells #[.bool false, I v, I pl, .slice A3 ask.length c3, .slice (some ad) 2 c4] 32 (0, 0)) := by rw [hW1]; exact blk_new _ _
  have hcell1 : W1.heap[gn]? = some (.cells #[I N] 3 (0, 0)) := by rw [hW1]; exact blk_alloc hcell _
  have d0 : W1.cell? ⟨gn, 0, none⟩ = some (I N) := (blk_cell hcell1 0).trans rfl
  have f0 := blk_frozen hcell1 0
  have HBK2 : Hid ((W1.setCell ⟨gn, 0, none⟩ (.int .i64 M)).heap[W.heap.size]? = some (.cells #[.bool false, I v, I pl, .slice A3 ask.length c3, .slice (some ad) 2 c4] 32 (0, 0))) := Lib.hid ((blk_far BK (show W.heap.size ≠ gn from Nat.ne_of_gt hgn) _))
  have HC2 : Hid ((W1.setCell ⟨gn, 0, none⟩ (.int .i64 M)).heap[gn]? = some (.cells #[I M] 3 (0, 0))) := Lib.hid (blk_set hcell1 0 (I M))
  have HG2 : Hid (W.grownBy (W1.setCell ⟨gn, 0, none⟩ (.int .i64 M)) (some gn)) := Lib.hid (grown_set HG1.out (.inl rfl) _ _)
  have HGN := Lib.hid hgn
  clear BK hcell hcell1 hgn HG1
  have h1' : (v != 0) = false := by show (!(v == 0)) = false; rw [h1]; rfl
  have h4' : ((ask.length : Int) != (P : Int)) = false := by show (!((ask.length : Int) == (P : Int))) = false; rw [h4]; rfl
  have hn0 : (0 : Int) ≤ n := Int.natCast_nonneg n
  generalize ask.length = la at *
  cases r0 with
  | false =>
    clear HY
    go_enter Try.func98, Try.ntmps98
    go_upto_region 1 with fail
    rw [← hW1]
    clear hW1
    go_upto_region 2 with fail
    clear d0 f0 hw
    generalize W1.setCell ⟨gn, 0, none⟩ (.int .i64 M) = W2 at *
    have d0 : W2.cell? ⟨gn, 0, none⟩ = some (I M) := (blk_cell HC2.out 0).trans rfl
    have k0 : W2.cell? ⟨W.heap.size, 0, none⟩ = some (.bool false) := (blk_cell HBK2.out 0).trans rfl
    have k1 : W2.cell? ⟨W.heap.size, 1, none⟩ = some (I v) := (blk_cell HBK2.out 1).trans rfl
    have k2 : W2.cell? ⟨W.heap.size, 2, none⟩ = some (I pl) := (blk_cell HBK2.out 2).trans rfl
    have k3 : W2.cell? ⟨W.heap.size, 3, none⟩ = some (.slice A3 la c3) := (blk_cell HBK2.out 3).trans rfl
    have k4 : W2.cell? ⟨W.heap.size, 4, none⟩ = some (.slice (some ad) 2 c4) := (blk_cell HBK2.out 4).trans rfl
    go_upto_region 6 with fail
    go_quiet (fail)
    have HG3 : Hid (W.grownBy (W2.drewN nq) (some gn)) := Lib.hid (grown_drewN HG2.out nq)
    have HC3 : Hid ((W2.drewN nq).heap[gn]? = some (.cells #[I M] 3 (0, 0))) := Lib.hid HC2.out
    have HBK3 : Hid ((W2.drewN nq).heap[W.heap.size]? = some (.cells #[.bool false, I v, I pl, .slice A3 la c3, .slice (some ad) 2 c4] 32 (0, 0))) := Lib.hid HBK2.out
    clear HG2 HC2 HBK2 d0 k0 k1 k2 k3 k4
    generalize W2.drewN nq = W3 at *
    have k4 : W3.cell? ⟨W.heap.size, 4, none⟩ = some (.slice (some ad) 2 c4) := (blk_cell HBK3.out 4).trans rfl
    have HBW3 : Hid (Below w0.heap.size w0 W3) := Lib.hid (pw_below_grown HB.out (some gn) HB.out.size HG3.out (fun k hk => by cases hk; exact Hg0.out))
    have s0 : W3.cell? ad = some x0 := cell_keep' HBW3.out p0.out
    have s1 : W3.cell? ⟨ad.block, ad.off + 1, none⟩ = some x1 := cell_keep' HBW3.out p1.out
    have s2 : W3.cell? ⟨ad.block, ad.off + 2, none⟩ = some x2 := cell_keep' HBW3.out p2.out
    have s3 : W3.cell? ⟨ad.block, ad.off + 3, none⟩ = some x3 := cell_keep' HBW3.out p3.out
    have s4 : W3.cell? ⟨ad.block, ad.off + 4, none⟩ = some x4 := cell_keep' HBW3.out p4.out
    go_wp2_with (go_at_call 98; (with_reducible refine (HX.out _ HBW3.out HC3.out).mono ?_); rintro e w4 ⟨rfl, hg4, hc4'⟩; have HG4 := Lib.hid (HG3.out.trans hg4))
    go_ret
    exact ⟨rfl, HG4.out, fun h => by cases h⟩
  | true =>
    replace HY := Lib.hid (HY rfl)
    go_enter Try.func98, Try.ntmps98
    go_upto_region 1 with fail
    rw [← hW1]
    clear hW1
    go_upto_region 2 with fail
    clear d0 f0 hw
    generalize W1.setCell ⟨gn, 0, none⟩ (.int .i64 M) = W2 at *
    have d0 : W2.cell? ⟨gn, 0, none⟩ = some (I M) := (blk_cell HC2.out 0).trans rfl
    have k0 : W2.cell? ⟨W.heap.size, 0, none⟩ = some (.bool false) := (blk_cell HBK2.out 0).trans rfl
    have k1 : W2.cell? ⟨W.heap.size, 1, none⟩ = some (I v) := (blk_cell HBK2.out 1).trans rfl
    have k2 : W2.cell? ⟨W.heap.size, 2, none⟩ = some (I pl) := (blk_cell HBK2.out 2).trans rfl
    have k3 : W2.cell? ⟨W.heap.size, 3, none⟩ = some (.slice A3 la c3) := (blk_cell HBK2.out 3).trans rfl
    have k4 : W2.cell? ⟨W.heap.size, 4, none⟩ = some (.slice (some ad) 2 c4) := (blk_cell HBK2.out 4).trans rfl
    go_upto_region 6 with fail
    go_quiet (fail)
    have HG3 : Hid (W.grownBy (W2.drewN nq) (some gn)) := Lib.hid (grown_drewN HG2.out nq)
    have HC3 : Hid ((W2.drewN nq).heap[gn]? = some (.cells #[I M] 3 (0, 0))) := Lib.hid HC2.out
    have HBK3 : Hid ((W2.drewN nq).heap[W.heap.size]? = some (.cells #[.bool false, I v, I pl, .slice A3 la c3, .slice (some ad) 2 c4] 32 (0, 0))) := Lib.hid HBK2.out
    clear HG2 HC2 HBK2 d0 k0 k1 k2 k3 k4
    generalize W2.drewN nq = W3 at *
    have k4 : W3.cell? ⟨W.heap.size, 4, none⟩ = some (.slice (some ad) 2 c4) := (blk_cell HBK3.out 4).trans rfl
    have HBW3 : Hid (Below w0.heap.size w0 W3) := Lib.hid (pw_below_grown HB.out (some gn) HB.out.size HG3.out (fun k hk => by cases hk; exact Hg0.out))
    have s0 : W3.cell? ad = some x0 := cell_keep' HBW3.out p0.out
    have s1 : W3.cell? ⟨ad.block, ad.off + 1, none⟩ = some x1 := cell_keep' HBW3.out p1.out
    have s2 : W3.cell? ⟨ad.block, ad.off + 2, none⟩ = some x2 := cell_keep' HBW3.out p2.out
    have s3 : W3.cell? ⟨ad.block, ad.off + 3, none⟩ = some x3 := cell_keep' HBW3.out p3.out
    have s4 : W3.cell? ⟨ad.block, ad.off + 4, none⟩ = some x4 := cell_keep' HBW3.out p4.out
    go_wp2_with (first | (go_at_call 98; (with_reducible refine (HY.out _ HBW4.out HC4.out).mono ?_); rintro e w5 ⟨rfl, hg5, hc5⟩; have HG5 := Lib.hid (HG4.out.trans hg5); have HC5 := Lib.hid hc5; clear hg5 hc5) | (go_at_call 98; (with_reducible refine (HX.out _ HBW3.out HC3.out).mono ?_); rintro e w4 ⟨rfl, hg4, hc4'⟩; have HG4 := Lib.hid (HG3.out.trans hg4); have HC4 := Lib.hid (hc4' rfl); have HBW4 : Hid (Below w0.heap.size w0 w4) := Lib.hid (pw_below_grown HB.out (some gn) HB.out.size HG4.out (fun k hk => by cases hk; exact Hg0.out)); have m4 : w4.cell? ⟨W.heap.size, 4, none⟩ = some (.slice (some ad) 2 c4) := (blk_cell (blk_grown HBK3.out hg4 (fun e => by cases e; exact absurd HGN.out (Nat.lt_irrefl _))) 4).trans rfl; clear hg4 hc4' k4 s0 s1 s2 s3 s4; have s0 : w4.cell? ⟨ad.block, ad.off + 5, none⟩ = some y0 := cell_keep' HBW4.out q0.out; have s1 : w4.cell? ⟨ad.block, ad.off + 5 + 1, none⟩ = some y1 := cell_keep' HBW4.out q1.out; have s2 : w4.cell? ⟨ad.block, ad.off + 5 + 2, none⟩ = some y2 := cell_keep' HBW4.out q2.out; have s3 : w4.cell? ⟨ad.block, ad.off + 5 + 3, none⟩ = some y3 := cell_keep' HBW4.out q3.out; have s4 : w4.cell? ⟨ad.block, ad.off + 5 + 4, none⟩ = some y4 := cell_keep' HBW4.out q4.out))
    go_ret
    exact ⟨rfl, HG5.out, fun h => HC5.out (by simpa using h)⟩
/-- what valid answers -/
def vb (n : Nat) (D : Int) (N : Nat) (x : S32) : Bool := decide (nd x ≤ N) && decide ((hg x : Int) ≤ D) && shp n x
theorem VR.left {W W' : World} {gn : Nat} {r r' : Bool} {a b : Int} {e : Ending} (h : VR W gn r a e W') (hr : r = r') (hl : r = true → a = b) : VR W gn r' b e W' := by
  subst hr
  obtain ⟨h1, h2, h3⟩ := h
  exact ⟨h1, h2, fun hr => by rw [← hl hr]; exact h3 hr⟩
theorem nd_node (v pl : Int) (ask : List Bool) (k0 k1 : S32) : nd ⟨false, v, pl, ask, [k0, k1]⟩ = 1 + (nd k0 + nd k1) := by rw [nd_eq, ndL_cons, ndL_cons, ndL_nil]; rfl
theorem hg_node (v pl : Int) (ask : List Bool) (k0 k1 : S32) : hg ⟨false, v, pl, ask, [k0, k1]⟩ = max (1 + hg k0) (max (1 + hg k1) 0) := by rw [hg_eq, hgL_cons, hgL_cons, hgL_nil]
theorem pl01 (pl : Int) : (pl == 0 || pl == 1) = (!decide (pl < 0) && !decide (1 < pl)) := by
  rw [Bool.eq_iff_iff]
  simp
  omega
theorem wr_down {N : Nat} (h : N ≤ 20000) : wrap64 ((N : Int) - 1) = (N : Int) - 1 := by unfold wrap64; omega
theorem v98_any {n : Nat} (hn : n ≤ 12) : ∀ (m : Nat) (x : S32) {w0 W : World} {A3 A4 : Option Addr} {c3 c4 gn N : Nat} {D : Int}, hg x < m → Kd.C Kd.bool w0 A3 x.f3.length x.f3 → Kd.C k32 w0 A4 x.f4.length x.f4 → Below w0.heap.size w0 W → w0.heap.size ≤ gn → N ≤ 20000 → D ≤ 60 → W.heap[gn]? = some (.cells #[I N] 3 (0, 0)) →
    Calls Try.prog 98 #[.agg #[.bool x.f0, I x.f1, I x.f2, .slice A3 x.f3.length c3, .slice A4 x.f4.length c4], I n, I D, .pointer (some ⟨gn, 0, none⟩)] W (VR W gn (vb n D N x) ((N - nd x : Nat) : Int)) := by
  intro m
  induction m with
  | zero => intro x _ _ _ _ _ _ _ _ _ h; exact absurd h (by omega)
  | succ m ih =>
    intro x w0 W A3 A4 c3 c4 gn N D hm h3 h4 hB hg0 hN hD hcell
    have hnd := (nd_le x).1
    by_cases hs : N = 0 ∨ D < 0
    · have e : vb n D N x = false := by
        unfold vb
        rcases hs with h | h
        · rw [decide_eq_false (by omega)]; rfl
        · rw [decide_eq_false (show ¬ ((hg x : Int) ≤ D) by omega), Bool.and_false]; rfl
      rw [e]
      refine v98_stop hcell (wr_down hN) rfl rfl ?_ _
      rcases hs with h | h
      · rw [decide_eq_true (show (N : Int) - 1 < 0 by omega)]; rfl
      · rw [decide_eq_true h, Bool.or_true]
    · have hN1 : 1 ≤ N := by omega
      have g0 : decide ((N : Int) - 1 < 0) = false := decide_eq_false (by omega)
      have g1 : decide (D < 0) = false := decide_eq_false (by omega)
      obtain ⟨lf, v, pl, ask, kids⟩ := x
      simp only at h3 h4 ⊢
      cases lf with
      | true =>
        refine (v98_leaf (kids := kids) (ask := ask) (A3 := A3) (A4 := A4) hcell (wr_down hN) g0 g1 rfl rfl rfl rfl rfl).mono fun e W' h => h.left ?_ ?_
        · rw [← shp_leaf]
          cases hsh : shp n ⟨true, v, pl, ask, kids⟩ with
          | false => unfold vb; rw [hsh, Bool.and_false]
          | true =>
            unfold vb
            rw [hsh, Bool.and_true]
            rw [shp_leaf] at hsh
            simp only [Bool.and_eq_true, beq_iff_eq] at hsh
            have hk : kids = [] := List.eq_nil_of_length_eq_zero (by omega)
            subst hk
            rw [hg_eq, hgL_nil, nd_eq, ndL_nil, decide_eq_true (by omega), decide_eq_true (by omega)]; rfl
        · rw [← shp_leaf]
          intro hsh
          rw [shp_leaf] at hsh
          simp only [Bool.and_eq_true, beq_iff_eq] at hsh
          have hk : kids = [] := List.eq_nil_of_length_eq_zero (by omega)
          subst hk
          rw [nd_eq, ndL_nil]
          omega
      | false =>
        have hw := w2 n hn
        by_cases hx : (v == 0 && !decide (pl < 0) && !decide (1 < pl) && (ask.length : Int) == ((2 ^ n : Nat) : Int) && (kids.length : Int) == 2) = true
        · simp only [Bool.and_eq_true, Bool.not_eq_true'] at hx
          obtain ⟨⟨⟨⟨e1, e2⟩, e3⟩, e4⟩, e5⟩ := hx
          have hk2 : kids.length = 2 := by have := eq_of_beq e5; omega
          obtain ⟨k0, k1, rfl⟩ : ∃ a b, kids = [a, b] := by
            match kids, hk2 with
            | [a, b], _ => exact ⟨a, b, rfl⟩
          obtain ⟨ad, B3, d3, B4, d4, rfl, x0, x1, x2, x3, x4, l3, i3, l4, i4⟩ := at_T32 h4 (0 : Int) (by omega) (by simp)
          obtain ⟨ad', C3, f3, C4, f4, he, y0, y1, y2, y3, y4, l3', i3', l4', i4'⟩ := at_T32 h4 (1 : Int) (by omega) (by simp)
          cases he
          rw [hg_eq, hgL_cons, hgL_cons, hgL_nil] at hm
          have hM : ((N : Int) - 1) = ((N - 1 : Nat) : Int) := by omega
          have hfull := v98_full (r0 := vb n (D - 1) (N - 1) k0) (r1 := vb n (D - 1) (N - 1 - nd k0) k1) (M1 := ((N - 1 - nd k0 : Nat) : Int)) (M2 := ((N - 1 - nd k0 - nd k1 : Nat) : Int)) (W := W) (n := n) (A3 := A3) (c3 := c3) (c4 := c4) (v := v) (pl := pl) (ask := ask) (ad := ad) (D := D) hcell (wr_down hN) (by omega) hw g0 g1 (by omega) hD e1 e2 e3 e4 hB hg0 x0 x1 x2 x3 x4 y0 y1 y2 y3 y4
            (fun W' hW hc => ih k0 (by omega) (Kd.C_below i3 (Below.refl _ _)) i4 hW hg0 (by omega) (by omega) (by rw [hM] at hc; exact hc))
            (fun _ W' hW hc => ih k1 (by omega) i3' i4' hW hg0 (by omega) (by omega) hc)
          refine hfull.mono fun e W' h => h.left ?_ ?_
          · unfold vb
            rw [shp_node, e1, pl01, e2, e3, e4, e5, shpL_two, nd_node, hg_node, Bool.eq_iff_iff]
            have := (nd_le k1).1
            simp only [Bool.and_eq_true, decide_eq_true_eq, Bool.not_false, Bool.true_and]
            constructor
            · rintro ⟨⟨⟨a1, a2⟩, a3⟩, ⟨b1, b2⟩, b3⟩
              exact ⟨⟨by omega, by omega⟩, a3, b3⟩
            · rintro ⟨⟨a1, a2⟩, a3, b3⟩
              exact ⟨⟨⟨by omega, by omega⟩, a3⟩, ⟨by omega, by omega⟩, b3⟩
          · intro _
            rw [nd_node]
            omega
        · have hx' := Bool.eq_false_iff.2 hx
          have e : vb n D N ⟨false, v, pl, ask, kids⟩ = false := by
            unfold vb
            rw [shp_node, pl01, ← Bool.and_assoc (v == 0), hx', Bool.false_and, Bool.and_false]
          rw [e]
          exact v98_short hcell (wr_down hN) (by omega) hw g0 g1 rfl rfl rfl rfl rfl hx' _
set_option maxHeartbeats 8000000 in
set_option maxRecDepth 100000 in
theorem v53_walk {W : World} {n : Int} {b1 b2 b3 lf : Bool} {left v pl : Int} {ask : List Bool} {kids : List S32} {A3 A4 : Option Addr} {c3 c4 : Nat} (h1 : decide (1 ≤ n) = b1) (h2 : decide (n ≤ 12) = b2)
    (HC : b1 = true → b2 = true → ∀ (W' : World) (gn : Nat), Below W.heap.size W W' → W.heap.size ≤ gn → W'.heap[gn]? = some (.cells #[I 20000] 3 (0, 0)) → Calls Try.prog 98 #[.agg #[.bool lf, I v, I pl, .slice A3 ask.length c3, .slice A4 kids.length c4], I n, I 60, .pointer (some ⟨gn, 0, none⟩)] W' (VR W' gn b3 left)) :
    Calls Try.prog 53 #[.agg #[.bool lf, I v, I pl, .slice A3 ask.length c3, .slice A4 kids.length c4], I n] W fun e W' => e = .returned (.bool (b1 && b2 && b3)) ∧ Below W.heap.size W W' := by
  unfold VR at HC
  obtain ⟨W1, hW1⟩ : ∃ W1, W1 = W.alloc (.cells #[.bool lf, I v, I pl, .slice A3 ask.length c3, .slice A4 kids.length c4] 32) := ⟨_, rfl⟩
  have hB1 : Below W.heap.size W W1 := by rw [hW1]; exact below_alloc (Below.refl _ _) _
  have BK : W1.heap[W.heap.size]? = some (.cells #[.bool lf, I v, I pl, .slice A3 ask.length c3, .slice A4 kids.length c4] 32 (0, 0)) := by rw [hW1]; exact blk_new _ _
  have HB2 : Hid (Below W.heap.size W (W1.alloc (.cells #[.int .i64 20000] 3))) := Lib.hid (below_alloc hB1 _)
  have HS : Hid (W.heap.size ≤ W1.heap.size) := Lib.hid hB1.size
  have HN : Hid ((W1.alloc (.cells #[.int .i64 20000] 3)).heap[W1.heap.size]? = some (.cells #[I 20000] 3 (0, 0))) := Lib.hid (blk_new _ _)
  have BK2 : (W1.alloc (.cells #[.int .i64 20000] 3)).heap[W.heap.size]? = some (.cells #[.bool lf, I v, I pl, .slice A3 ask.length c3, .slice A4 kids.length c4] 32 (0, 0)) := blk_alloc BK _
  have k0 : (W1.alloc (.cells #[.int .i64 20000] 3)).cell? ⟨W.heap.size, 0, none⟩ = some (.bool lf) := (blk_cell BK2 0).trans rfl
  have k1 : (W1.alloc (.cells #[.int .i64 20000] 3)).cell? ⟨W.heap.size, 1, none⟩ = some (I v) := (blk_cell BK2 1).trans rfl
  have k2 : (W1.alloc (.cells #[.int .i64 20000] 3)).cell? ⟨W.heap.size, 2, none⟩ = some (I pl) := (blk_cell BK2 2).trans rfl
  have k3 : (W1.alloc (.cells #[.int .i64 20000] 3)).cell? ⟨W.heap.size, 3, none⟩ = some (.slice A3 ask.length c3) := (blk_cell BK2 3).trans rfl
  have k4 : (W1.alloc (.cells #[.int .i64 20000] 3)).cell? ⟨W.heap.size, 4, none⟩ = some (.slice A4 kids.length c4) := (blk_cell BK2 4).trans rfl
  have HC2 := Lib.hid (fun (h1 : b1 = true) (h2 : b2 = true) => HC h1 h2 _ _ HB2.out HS.out HN.out)
  clear HC BK BK2 hB1
  generalize ask.length = la at *
  generalize kids.length = lk at *
  have hc : b1 = false ∨ (b1 = true ∧ b2 = false) ∨ (b1 = true ∧ b2 = true) := by cases b1 <;> cases b2 <;> simp
  rcases hc with rfl | ⟨rfl, rfl⟩ | ⟨rfl, rfl⟩
  · clear HC2
    go_enter Try.func53, Try.ntmps53
    go_upto_region 1 with fail
    rw [← hW1]
    clear hW1
    go_wp2
    go_ret
    exact ⟨rfl, HB2.out⟩
  · clear HC2
    go_enter Try.func53, Try.ntmps53
    go_upto_region 1 with fail
    rw [← hW1]
    clear hW1
    go_wp2
    go_ret
    exact ⟨rfl, HB2.out⟩
  · have HD := Lib.hid (HC2.out rfl rfl)
    clear HC2
    go_enter Try.func53, Try.ntmps53
    go_upto_region 1 with fail
    rw [← hW1]
    clear hW1
    go_wp2_with (go_at_call 98; (with_reducible refine HD.out.mono ?_); rintro e w5 ⟨rfl, hg5, hc5⟩; have HG5 := Lib.hid hg5; clear hg5 hc5)
    go_ret
    exact ⟨rfl, pw_below_grown HB2.out _ HB2.out.size HG5.out (fun k hk => by cases hk; exact HS.out)⟩
/-- bound's Valid -/
theorem bValid_any {W : World} {x : S32} {n : Int} {A3 A4 : Option Addr} {c3 c4 : Nat} (h3 : Kd.C Kd.bool W A3 x.f3.length x.f3) (h4 : Kd.C k32 W A4 x.f4.length x.f4) :
    Calls Try.prog 53 #[.agg #[.bool x.f0, I x.f1, I x.f2, .slice A3 x.f3.length c3, .slice A4 x.f4.length c4], I n] W fun e W' => e = .returned (.bool (vld n x)) ∧ Below W.heap.size W W' := by
  have h := v53_walk (W := W) (n := n) (lf := x.f0) (v := x.f1) (pl := x.f2) (ask := x.f3) (kids := x.f4) (A3 := A3) (A4 := A4) (c3 := c3) (c4 := c4) (b3 := vb n.toNat 60 20000 x) (left := ((20000 - nd x : Nat) : Int)) rfl rfl (fun b1 b2 W' gn hW hgn hc => by
    have hn1 := of_decide_eq_true b1
    have hn2 := of_decide_eq_true b2
    obtain ⟨m, rfl⟩ : ∃ m : Nat, n = m := ⟨n.toNat, by omega⟩
    exact v98_any (n := m) (by omega) (hg x + 1) x (N := 20000) (by omega) h3 h4 hW hgn (by decide) (by decide) hc)
  have e : (decide (1 ≤ n) && decide (n ≤ 12) && vb n.toNat 60 20000 x) = vld n x := by
    unfold vb vld
    rw [Bool.eq_iff_iff]
    simp only [Bool.and_eq_true, decide_eq_true_eq]
    constructor
    · rintro ⟨⟨a1, a2⟩, ⟨b1, b2⟩, b3⟩
      exact ⟨⟨⟨⟨a1, a2⟩, by omega⟩, by omega⟩, b3⟩
    · rintro ⟨⟨⟨⟨a1, a2⟩, b1⟩, b2⟩, b3⟩
      exact ⟨⟨a1, a2⟩, ⟨by omega, by omega⟩, b3⟩
  rw [e] at h
  exact h
end Go.Proofs.Ytpfbommaddaijaa

