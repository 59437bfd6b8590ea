/- The law BoundProtocols: the walk. -/
import Derived.Test.YtpfbommaddaijaaZax12
import Derived.Test.YtpfbommaddaijaaZax20
namespace Go.Proofs.Ytpfbommaddaijaa
open Go.RowKit Go.Proofs.YtpfbommaddaijaaW.PrintWords Go.Proofs.YtpfbommaddaijaaW.PrintLast PBoundTo
set_option linter.unusedVariables false
set_option linter.unusedSimpArgs false

set_option maxHeartbeats 4000000 in
set_option maxRecDepth 100000 in
theorem pr_heavy {W : World} {lf : Bool} {v pl qn qx qy : Int} {la lk : Nat} {A3 A4 ta : Option Addr} {c3 c4 len tc : Nat} (HHV : ∀ W', Below W.heap.size W W' → Calls Try.prog 18 #[.agg #[.bool lf, I v, I pl, .slice A3 la c3, .slice A4 lk c4]] W' fun e W'' => e = .returned (.bool true) ∧ Below W'.heap.size W' W'') : Calls Try.prog 9 #[.agg #[.bool lf, I v, I pl, .slice A3 la c3, .slice A4 lk c4], .slice ta len tc, .agg #[I qn, I qx, I qy]] W fun e W' => e = .returned (.bool true) ∧ Below W.heap.size W W' := by
  replace HHV := Lib.hid HHV
  obtain ⟨W0, hW0⟩ : ∃ W0, W0 = W.alloc (.cells #[.bool lf, I v, I pl, .slice A3 la c3, .slice A4 lk c4] 32) := ⟨_, rfl⟩
  obtain ⟨W1, hW1⟩ : ∃ W1, W1 = W0.alloc (.cells #[I qn, I qx, I qy] 71) := ⟨_, rfl⟩
  have hs0 : W0.heap.size = W.heap.size + 1 := by rw [hW0]; exact World.size_alloc _ _
  have HB1 : Hid (Below W.heap.size W W1) := Lib.hid (by rw [hW1]; exact below_alloc (by rw [hW0]; exact below_alloc (Below.refl _ _) _) _)
  have BK : W1.heap[W.heap.size]? = some (.cells #[.bool lf, I v, I pl, .slice A3 la c3, .slice A4 lk c4] 32 (0, 0)) := by rw [hW1]; exact blk_alloc (by rw [hW0]; exact blk_new _ _) _
  have BQ : W1.heap[W.heap.size + 1]? = some (.cells #[I qn, I qx, I qy] 71 (0, 0)) := by rw [hW1, ← hs0]; exact blk_new _ _
  have k0 : W1.cell? ⟨W.heap.size, 0, none⟩ = some (.bool lf) := (blk_cell BK 0).trans rfl
  have k1 : W1.cell? ⟨W.heap.size, 1, none⟩ = some (I v) := (blk_cell BK 1).trans rfl
  have k2 : W1.cell? ⟨W.heap.size, 2, none⟩ = some (I pl) := (blk_cell BK 2).trans rfl
  have k3 : W1.cell? ⟨W.heap.size, 3, none⟩ = some (.slice A3 la c3) := (blk_cell BK 3).trans rfl
  have k4 : W1.cell? ⟨W.heap.size, 4, none⟩ = some (.slice A4 lk c4) := (blk_cell BK 4).trans rfl
  have kq0 : W1.cell? ⟨W.heap.size + 1, 0, none⟩ = some (I qn) := (blk_cell BQ 0).trans rfl
  have kq1 : W1.cell? ⟨W.heap.size + 1, 1, none⟩ = some (I qx) := (blk_cell BQ 1).trans rfl
  have kq2 : W1.cell? ⟨W.heap.size + 1, 2, none⟩ = some (I qy) := (blk_cell BQ 2).trans rfl
  clear BK BQ
  have HAW := Lib.hid awake_any
  go_enter Try.func9, Try.ntmps9
  go_upto_region 1 with fail
  rw [← hW0, ← hW1]
  clear hW0 hW1 hs0
  go_wp2_with (first | (go_at_call 18; (with_reducible refine (HHV.out _ HB1.out).mono ?_); rintro e w2 ⟨rfl, hb⟩; have m0 := cell_keep' hb k0; have m1 := cell_keep' hb k1; have m2 := cell_keep' hb k2; have m3 := cell_keep' hb k3; have m4 := cell_keep' hb k4; have mq0 := cell_keep' hb kq0; have mq1 := cell_keep' hb kq1; have mq2 := cell_keep' hb kq2; clear k0 k1 k2 k3 k4 kq0 kq1 kq2; have HB2 := Lib.hid (HB1.out.trans (hb.mono HB1.out.size)); clear hb) | (go_at_call 21; (with_reducible refine (HAW.out _).mono ?_); rintro e w3 ⟨rfl, hb⟩; have HB3 := Lib.hid (HB2.out.trans (hb.mono HB2.out.size)); clear hb))
  go_ret
  exact ⟨rfl, HB3.out⟩
set_option maxHeartbeats 4000000 in
set_option maxRecDepth 100000 in
theorem pr_long {W : World} {lf : Bool} {v pl qn qx qy : Int} {la lk : Nat} {A3 A4 ta : Option Addr} {c3 c4 len tc : Nat} (HHV : ∀ W', Below W.heap.size W W' → Calls Try.prog 18 #[.agg #[.bool lf, I v, I pl, .slice A3 la c3, .slice A4 lk c4]] W' fun e W'' => e = .returned (.bool false) ∧ Below W'.heap.size W' W'') (h1 : (5000 : Int) < (len : Int)) : Calls Try.prog 9 #[.agg #[.bool lf, I v, I pl, .slice A3 la c3, .slice A4 lk c4], .slice ta len tc, .agg #[I qn, I qx, I qy]] W fun e W' => e = .returned (.bool true) ∧ Below W.heap.size W W' := by
  replace HHV := Lib.hid HHV
  obtain ⟨W0, hW0⟩ : ∃ W0, W0 = W.alloc (.cells #[.bool lf, I v, I pl, .slice A3 la c3, .slice A4 lk c4] 32) := ⟨_, rfl⟩
  obtain ⟨W1, hW1⟩ : ∃ W1, W1 = W0.alloc (.cells #[I qn, I qx, I qy] 71) := ⟨_, rfl⟩
  have hs0 : W0.heap.size = W.heap.size + 1 := by rw [hW0]; exact World.size_alloc _ _
  have HB1 : Hid (Below W.heap.size W W1) := Lib.hid (by rw [hW1]; exact below_alloc (by rw [hW0]; exact below_alloc (Below.refl _ _) _) _)
  have BK : W1.heap[W.heap.size]? = some (.cells #[.bool lf, I v, I pl, .slice A3 la c3, .slice A4 lk c4] 32 (0, 0)) := by rw [hW1]; exact blk_alloc (by rw [hW0]; exact blk_new _ _) _
  have BQ : W1.heap[W.heap.size + 1]? = some (.cells #[I qn, I qx, I qy] 71 (0, 0)) := by rw [hW1, ← hs0]; exact blk_new _ _
  have k0 : W1.cell? ⟨W.heap.size, 0, none⟩ = some (.bool lf) := (blk_cell BK 0).trans rfl
  have k1 : W1.cell? ⟨W.heap.size, 1, none⟩ = some (I v) := (blk_cell BK 1).trans rfl
  have k2 : W1.cell? ⟨W.heap.size, 2, none⟩ = some (I pl) := (blk_cell BK 2).trans rfl
  have k3 : W1.cell? ⟨W.heap.size, 3, none⟩ = some (.slice A3 la c3) := (blk_cell BK 3).trans rfl
  have k4 : W1.cell? ⟨W.heap.size, 4, none⟩ = some (.slice A4 lk c4) := (blk_cell BK 4).trans rfl
  have kq0 : W1.cell? ⟨W.heap.size + 1, 0, none⟩ = some (I qn) := (blk_cell BQ 0).trans rfl
  have kq1 : W1.cell? ⟨W.heap.size + 1, 1, none⟩ = some (I qx) := (blk_cell BQ 1).trans rfl
  have kq2 : W1.cell? ⟨W.heap.size + 1, 2, none⟩ = some (I qy) := (blk_cell BQ 2).trans rfl
  clear BK BQ
  have HAW := Lib.hid awake_any
  go_enter Try.func9, Try.ntmps9
  go_upto_region 1 with fail
  rw [← hW0, ← hW1]
  clear hW0 hW1 hs0
  go_wp2_with (first | (go_at_call 18; (with_reducible refine (HHV.out _ HB1.out).mono ?_); rintro e w2 ⟨rfl, hb⟩; have m0 := cell_keep' hb k0; have m1 := cell_keep' hb k1; have m2 := cell_keep' hb k2; have m3 := cell_keep' hb k3; have m4 := cell_keep' hb k4; have mq0 := cell_keep' hb kq0; have mq1 := cell_keep' hb kq1; have mq2 := cell_keep' hb kq2; clear k0 k1 k2 k3 k4 kq0 kq1 kq2; have HB2 := Lib.hid (HB1.out.trans (hb.mono HB1.out.size)); clear hb) | (go_at_call 21; (with_reducible refine (HAW.out _).mono ?_); rintro e w3 ⟨rfl, hb⟩; have HB3 := Lib.hid (HB2.out.trans (hb.mono HB2.out.size)); clear hb))
  go_ret
  exact ⟨rfl, HB3.out⟩
/-- what the first switch lays -/
def Dw (W : World) (p : Value) (ok : Bool) (qn qx qy V DUE : Int) : Prop :=
  (ok = false ∧ V = 0 ∧ DUE = 1) ∨
  (∃ n N : Nat, ∃ b1 b2 b3 b4 : Bool, qn = n ∧ n ≤ 12 ∧ wrap64 ((2 : Int) ^ n) = (N : Int) ∧ ok = true ∧ V = 0 ∧ DUE = 2 ∧ decide (qx < 0) = b1 ∧ decide ((N : Int) ≤ qx) = b2 ∧ decide (qy < 0) = b3 ∧ decide ((N : Int) ≤ qy) = b4 ∧ (b1 || b2 || b3 || b4) = true) ∨
  (∃ n N : Nat, qn = n ∧ n ≤ 12 ∧ wrap64 ((2 : Int) ^ n) = (N : Int) ∧ ok = true ∧ DUE = 0 ∧ decide (qx < 0) = false ∧ decide ((N : Int) ≤ qx) = false ∧ decide (qy < 0) = false ∧ decide ((N : Int) ≤ qy) = false ∧ ∀ W', Below W.heap.size W W' → Calls Try.prog 52 #[p, I qx, I qy] W' fun e W'' => e = .returned (I V) ∧ Below W'.heap.size W' W'')
/-- what the second lays -/
def Lw (W : World) (p tb : Value) (len : Nat) (ni LATE : Int) (WANT : Bool) : Prop :=
  (decide (ni < 1) = true ∧ LATE = 1 ∧ WANT = false) ∨
  (decide (ni < 1) = false ∧ LATE = 1 ∧ WANT = false ∧ ∀ W', Below W.heap.size W W' → Calls Try.prog 19 #[p, I ni] W' fun e W'' => e = .returned (.bool false) ∧ Below W'.heap.size W' W'') ∨
  (decide (ni < 1) = false ∧ LATE = 0 ∧ (len : Int) * len ≤ 300000 ∧ (∀ W', Below W.heap.size W W' → Calls Try.prog 19 #[p, I ni] W' fun e W'' => e = .returned (.bool true) ∧ Below W'.heap.size W' W'') ∧ ∀ W', Below W.heap.size W W' → Calls Try.prog 20 #[p, tb] W' fun e W'' => e = .returned (.bool WANT) ∧ Below W'.heap.size W' W'') ∨
  (decide (ni < 1) = false ∧ ¬ (len : Int) * len ≤ 300000 ∧ ∀ W', Below W.heap.size W W' → Calls Try.prog 19 #[p, I ni] W' fun e W'' => e = .returned (.bool true) ∧ Below W'.heap.size W' W'')
/-- what a copy serves for -/
structure Cop (w : World) (c : Value) (ok : Bool) (qn qx qy D V DUE : Int) (TB : World → Value → Prop) (WANT : Bool) (LATE : Int) : Prop where
  vl : ∀ w', Below w.heap.size w w' → Calls Try.prog 53 #[c, I qn] w' fun e w'' => e = .returned (.bool ok) ∧ Below w'.heap.size w' w''
  dp : ∀ w', Below w.heap.size w w' → Calls Try.prog 55 #[c] w' fun e w'' => e = .returned (I D) ∧ Below w'.heap.size w' w''
  ex : ∀ w', Below w.heap.size w w' → Calls Try.prog 56 #[c, I qn, I qx, I qy] w' fun e w'' => e = .returned (.tuple #[I V, I DUE]) ∧ Below w'.heap.size w' w''
  sl : ∀ w' tb, Below w.heap.size w w' → TB w' tb → Calls Try.prog 57 #[c, tb] w' fun e w'' => e = .returned (.tuple #[.bool WANT, I LATE]) ∧ Below w'.heap.size w' w''
set_option maxHeartbeats 8000000 in
set_option maxRecDepth 100000 in
theorem pr_main {W : World} {lf : Bool} {v pl qn qx qy : Int} {la lk : Nat} {A3 A4 ta : Option Addr} {c3 c4 len tc : Nat} {ok WANT : Bool} {ni D V DUE LATE : Int} {TB : World → Value → Prop} (HHV : ∀ W', Below W.heap.size W W' → Calls Try.prog 18 #[.agg #[.bool lf, I v, I pl, .slice A3 la c3, .slice A4 lk c4]] W' fun e W'' => e = .returned (.bool false) ∧ Below W'.heap.size W' W'') (h1 : ¬ (5000 : Int) < (len : Int)) (HOK : ∀ W', Below W.heap.size W W' → Calls Try.prog 19 #[.agg #[.bool lf, I v, I pl, .slice A3 la c3, .slice A4 lk c4], I qn] W' fun e W'' => e = .returned (.bool ok) ∧ Below W'.heap.size W' W'') (HD : Dw W (.agg #[.bool lf, I v, I pl, .slice A3 la c3, .slice A4 lk c4]) ok qn qx qy V DUE) (HRI : ∀ W', Below W.heap.size W W' → Calls Try.prog 17 #[.slice ta len tc] W' fun e W'' => e = .returned (I ni) ∧ Below W'.heap.size W' W'') (HL : Lw W (.agg #[.bool lf, I v, I pl, .slice A3 la c3, .slice A4 lk c4]) (.slice ta len tc) len ni LATE WANT) (HCP : ∀ W', Below W.heap.size W W' → Calls Try.prog 54 #[.agg #[.bool lf, I v, I pl, .slice A3 la c3, .slice A4 lk c4]] W' fun e W'' => ∃ c, e = .returned c ∧ Cop W'' c ok qn qx qy D V DUE TB WANT LATE ∧ Below W'.heap.size W' W'') (HTB : ∀ W', Below W.heap.size W W' → Calls Try.prog 23 #[.slice ta len tc] W' fun e W'' => ∃ tb, e = .returned tb ∧ TB W'' tb ∧ Below W'.heap.size W' W'') (HRD : ∀ W', Below W.heap.size W W' → Calls Try.prog 24 #[.agg #[.bool lf, I v, I pl, .slice A3 la c3, .slice A4 lk c4]] W' fun e W'' => e = .returned (I D) ∧ Below W'.heap.size W' W'') : Calls Try.prog 9 #[.agg #[.bool lf, I v, I pl, .slice A3 la c3, .slice A4 lk c4], .slice ta len tc, .agg #[I qn, I qx, I qy]] W fun e W' => e = .returned (.bool true) ∧ Below W.heap.size W W' := by
  have hlen : (len : Int) ≤ 5000 := by omega
  replace HHV := Lib.hid HHV
  replace HOK := Lib.hid HOK
  replace HD := Lib.hid HD
  replace HRI := Lib.hid HRI
  replace HL := Lib.hid HL
  replace HCP := Lib.hid HCP
  replace HTB := Lib.hid HTB
  replace HRD := Lib.hid HRD
  obtain ⟨W0, hW0⟩ : ∃ W0, W0 = W.alloc (.cells #[.bool lf, I v, I pl, .slice A3 la c3, .slice A4 lk c4] 32) := ⟨_, rfl⟩
  obtain ⟨W1, hW1⟩ : ∃ W1, W1 = W0.alloc (.cells #[I qn, I qx, I qy] 71) := ⟨_, rfl⟩
  have hs0 : W0.heap.size = W.heap.size + 1 := by rw [hW0]; exact World.size_alloc _ _
  have HB1 : Hid (Below W.heap.size W W1) := Lib.hid (by rw [hW1]; exact below_alloc (by rw [hW0]; exact below_alloc (Below.refl _ _) _) _)
  have BK : W1.heap[W.heap.size]? = some (.cells #[.bool lf, I v, I pl, .slice A3 la c3, .slice A4 lk c4] 32 (0, 0)) := by rw [hW1]; exact blk_alloc (by rw [hW0]; exact blk_new _ _) _
  have BQ : W1.heap[W.heap.size + 1]? = some (.cells #[I qn, I qx, I qy] 71 (0, 0)) := by rw [hW1, ← hs0]; exact blk_new _ _
  have k0 : W1.cell? ⟨W.heap.size, 0, none⟩ = some (.bool lf) := (blk_cell BK 0).trans rfl
  have k1 : W1.cell? ⟨W.heap.size, 1, none⟩ = some (I v) := (blk_cell BK 1).trans rfl
  have k2 : W1.cell? ⟨W.heap.size, 2, none⟩ = some (I pl) := (blk_cell BK 2).trans rfl
  have k3 : W1.cell? ⟨W.heap.size, 3, none⟩ = some (.slice A3 la c3) := (blk_cell BK 3).trans rfl
  have k4 : W1.cell? ⟨W.heap.size, 4, none⟩ = some (.slice A4 lk c4) := (blk_cell BK 4).trans rfl
  have kq0 : W1.cell? ⟨W.heap.size + 1, 0, none⟩ = some (I qn) := (blk_cell BQ 0).trans rfl
  have kq1 : W1.cell? ⟨W.heap.size + 1, 1, none⟩ = some (I qx) := (blk_cell BQ 1).trans rfl
  have kq2 : W1.cell? ⟨W.heap.size + 1, 2, none⟩ = some (I qy) := (blk_cell BQ 2).trans rfl
  clear BK BQ
  have HAW := Lib.hid awake_any
  go_enter Try.func9, Try.ntmps9
  go_upto_region 1 with fail
  rw [← hW0, ← hW1]
  clear hW0 hW1 hs0
  go_upto_block 0 with (first | (go_at_call 18; (with_reducible refine (HHV.out _ HB1.out).mono ?_); rintro e w2 ⟨rfl, hb⟩; have m0 := cell_keep' hb k0; have m1 := cell_keep' hb k1; have m2 := cell_keep' hb k2; have m3 := cell_keep' hb k3; have m4 := cell_keep' hb k4; have mq0 := cell_keep' hb kq0; have mq1 := cell_keep' hb kq1; have mq2 := cell_keep' hb kq2; clear k0 k1 k2 k3 k4 kq0 kq1 kq2; have HB2 := Lib.hid (HB1.out.trans (hb.mono HB1.out.size)); clear hb) | (go_at_call 19; (with_reducible refine (HOK.out _ HB2.out).mono ?_); rintro e w3 ⟨rfl, hb⟩; have n0 := cell_keep' hb m0; have n1 := cell_keep' hb m1; have n2 := cell_keep' hb m2; have n3 := cell_keep' hb m3; have n4 := cell_keep' hb m4; have nq0 := cell_keep' hb mq0; have nq1 := cell_keep' hb mq1; have nq2 := cell_keep' hb mq2; clear m0 m1 m2 m3 m4 mq0 mq1 mq2; have HB3 := Lib.hid (HB2.out.trans (hb.mono HB2.out.size)); clear hb))
  have HN := Lib.hid (⟨n0, n1, n2, n3, n4, nq0, nq1, nq2⟩ : w3.cell? ⟨W.heap.size, 0, none⟩ = some (.bool lf) ∧ w3.cell? ⟨W.heap.size, 1, none⟩ = some (I v) ∧ w3.cell? ⟨W.heap.size, 2, none⟩ = some (I pl) ∧ w3.cell? ⟨W.heap.size, 3, none⟩ = some (.slice A3 la c3) ∧ w3.cell? ⟨W.heap.size, 4, none⟩ = some (.slice A4 lk c4) ∧ w3.cell? ⟨W.heap.size + 1, 0, none⟩ = some (I qn) ∧ w3.cell? ⟨W.heap.size + 1, 1, none⟩ = some (I qx) ∧ w3.cell? ⟨W.heap.size + 1, 2, none⟩ = some (I qy))
  clear h1
  go_cut [8, 9] from 31 to 64 (fun x y wr => x = I V ∧ y = I DUE ∧ Hid (Below w3.heap.size w3 wr))
  case first =>
    rcases HD.out with ⟨rfl, rfl, rfl⟩ | ⟨n, N, b1, b2, b3, b4, rfl, hn, hw, rfl, rfl, rfl, d1, d2, d3, d4, hb⟩ | ⟨n, N, rfl, hn, hw, rfl, rfl, d1, d2, d3, d4, HX⟩
    · go_wp2
      go_meet
      exact ⟨rfl, rfl, Lib.hid (Below.refl _ _)⟩
    · have hn0 : (0 : Int) ≤ n := by omega
      have hn12 : (n : Int) ≤ 12 := by omega
      have hc : b1 = true ∨ (b1 = false ∧ b2 = true) ∨ (b1 = false ∧ b2 = false ∧ b3 = true) ∨ (b1 = false ∧ b2 = false ∧ b3 = false ∧ b4 = true) := by
        revert hb; cases b1 <;> cases b2 <;> cases b3 <;> cases b4 <;> simp
      clear hb hn
      rcases hc with rfl | ⟨rfl, rfl⟩ | ⟨rfl, rfl, rfl⟩ | ⟨rfl, rfl, rfl, rfl⟩
      all_goals
        go_upto_region 8 with fail
        go_quiet (fail)
        go_wp2
        go_meet
        exact ⟨rfl, rfl, Lib.hid (below_drewN (Below.refl _ _) _)⟩
    · have hn0 : (0 : Int) ≤ n := by omega
      have hn12 : (n : Int) ≤ 12 := by omega
      have HX := Lib.hid HX
      clear hn
      go_upto_region 8 with fail
      go_quiet (fail)
      go_wp2_with (go_at_call 52; (with_reducible refine (HX.out _ (below_drewN HB3.out _)).mono ?_); rintro e w4 ⟨rfl, hb⟩; have HB4 : Hid (Below w3.heap.size w3 w4) := Lib.hid ((below_drewN (Below.refl _ _) _).trans hb); clear hb)
      go_meet
      exact ⟨rfl, rfl, HB4⟩
  case rest =>
    clear HD
    obtain ⟨rfl, rfl, HB4⟩ := hcut
    have p0 := cell_keep' HB4.out n0; have p1 := cell_keep' HB4.out n1; have p2 := cell_keep' HB4.out n2; have p3 := cell_keep' HB4.out n3; have p4 := cell_keep' HB4.out n4; have pq0 := cell_keep' HB4.out nq0; have pq1 := cell_keep' HB4.out nq1; have pq2 := cell_keep' HB4.out nq2; clear n0 n1 n2 n3 n4 nq0 nq1 nq2
    replace HB4 := Lib.hid (HB3.out.trans (HB4.out.mono HB3.out.size))
    go_upto_region 11 with (go_at_call 17; (with_reducible refine (HRI.out _ HB4.out).mono ?_); rintro e w5 ⟨rfl, hb⟩; have q0 := cell_keep' hb p0; have q1 := cell_keep' hb p1; have q2 := cell_keep' hb p2; have q3 := cell_keep' hb p3; have q4 := cell_keep' hb p4; have qq0 := cell_keep' hb pq0; have qq1 := cell_keep' hb pq1; have qq2 := cell_keep' hb pq2; clear p0 p1 p2 p3 p4 pq0 pq1 pq2; have HB5 := Lib.hid (HB4.out.trans (hb.mono HB4.out.size)); clear hb)
    obtain ⟨lb, hlb⟩ : ∃ lb : Bool, (lb = true ∧ ((decide (ni < 1) = true ∧ LATE = 1 ∧ WANT = false) ∨ (decide (ni < 1) = false ∧ LATE = 1 ∧ WANT = false ∧ ∀ W', Below W.heap.size W W' → Calls Try.prog 19 #[.agg #[.bool lf, I v, I pl, .slice A3 la c3, .slice A4 lk c4], I ni] W' fun e W'' => e = .returned (.bool false) ∧ Below W'.heap.size W' W''))) ∨ (lb = false ∧ decide (ni < 1) = false ∧ (∀ W', Below W.heap.size W W' → Calls Try.prog 19 #[.agg #[.bool lf, I v, I pl, .slice A3 la c3, .slice A4 lk c4], I ni] W' fun e W'' => e = .returned (.bool true) ∧ Below W'.heap.size W' W'') ∧ ((LATE = 0 ∧ (len : Int) * len ≤ 300000 ∧ ∀ W', Below W.heap.size W W' → Calls Try.prog 20 #[.agg #[.bool lf, I v, I pl, .slice A3 la c3, .slice A4 lk c4], .slice ta len tc] W' fun e W'' => e = .returned (.bool WANT) ∧ Below W'.heap.size W' W'') ∨ ¬ (len : Int) * len ≤ 300000)) := by
      rcases HL.out with h | h | ⟨h1, h2, h3, h4, h5⟩ | ⟨h1, h2, h3⟩
      · exact ⟨true, .inl ⟨rfl, .inl h⟩⟩
      · exact ⟨true, .inl ⟨rfl, .inr h⟩⟩
      · exact ⟨false, .inr ⟨rfl, h1, h4, .inl ⟨h2, h3, h5⟩⟩⟩
      · exact ⟨false, .inr ⟨rfl, h1, h3, .inr h2⟩⟩
    have HLB := Lib.hid hlb
    clear hlb HL
    go_cut [74] from 67 to 74 (fun x wx => x = .bool lb ∧ Hid (Below w5.heap.size w5 wx))
    case first =>
      rcases HLB.out with ⟨rfl, ⟨d, _, _⟩ | ⟨d, _, _, HF⟩⟩ | ⟨rfl, d, HF, _⟩
      · go_wp2
        go_meet
        exact ⟨rfl, Lib.hid (Below.refl _ _)⟩
      · have HF := Lib.hid HF
        go_wp2_with (go_at_call 19; (with_reducible refine (HF.out _ HB5.out).mono ?_); rintro e w6 ⟨rfl, hb⟩; have HB6 := Lib.hid hb; clear hb)
        go_meet
        exact ⟨rfl, HB6⟩
      · have HF := Lib.hid HF
        go_wp2_with (go_at_call 19; (with_reducible refine (HF.out _ HB5.out).mono ?_); rintro e w6 ⟨rfl, hb⟩; have HB6 := Lib.hid hb; clear hb)
        go_meet
        exact ⟨rfl, HB6⟩
    case rest =>
      obtain ⟨rfl, HB6⟩ := hcut
      have r0 := cell_keep' HB6.out q0; have r1 := cell_keep' HB6.out q1; have r2 := cell_keep' HB6.out q2; have r3 := cell_keep' HB6.out q3; have r4 := cell_keep' HB6.out q4; have rq0 := cell_keep' HB6.out qq0; have rq1 := cell_keep' HB6.out qq1; have rq2 := cell_keep' HB6.out qq2; clear q0 q1 q2 q3 q4 qq0 qq1 qq2
      replace HB6 := Lib.hid (HB5.out.trans (HB6.out.mono HB5.out.size))
      go_upto_if 74 with fail
      go_cut [10, 11] from 75 to 84 (fun x y wr => x = I LATE ∧ y = .bool WANT ∧ Hid (Below wc.heap.size wc wr))
      case first =>
        rcases HLB.out with ⟨rfl, h⟩ | ⟨rfl, d, HF, h⟩
        · obtain ⟨rfl, rfl⟩ : LATE = 1 ∧ WANT = false := by rcases h with ⟨_, h1, h2⟩ | ⟨_, h1, h2, _⟩ <;> exact ⟨h1, h2⟩
          clear h
          go_wp2
          go_meet
          exact ⟨rfl, rfl, Lib.hid (Below.refl _ _)⟩
        · obtain ⟨P, hP⟩ : ∃ P : Int, (len : Int) * len = P := ⟨_, rfl⟩
          have hPb : (len : Int) * len ≤ 5000 * 5000 := Int.mul_le_mul hlen hlen (by omega) (by decide)
          have hP0 : (0 : Int) ≤ (len : Int) * len := Int.mul_nonneg (by omega) (by omega)
          have hPw : wrap64 ((len : Int) * len) = P := by rw [wr_ok hP0 (by omega), hP]
          rw [hP] at hPb hP0 h
          clear HF
          rcases h with ⟨rfl, hle, HS⟩ | hgt
          · have HS := Lib.hid HS
            have hle' : ¬ (300000 : Int) < P := by omega
            clear hle
            go_wp2_with (go_at_call 20; (with_reducible refine (HS.out _ HB6.out).mono ?_); rintro e w7 ⟨rfl, hb⟩; have HB7 := Lib.hid hb; clear hb)
            go_meet
            exact ⟨rfl, rfl, HB7⟩
          · have hgt'  : (300000 : Int) < P := by omega
            clear hgt
            go_wp2_with (go_at_call 21; (with_reducible refine (HAW.out _).mono ?_); rintro e w7 ⟨rfl, hb⟩; have HB7 := Lib.hid (HB6.out.trans (hb.mono HB6.out.size)); clear hb)
            go_ret
            exact ⟨rfl, HB7.out⟩
      case rest =>
        clear HLB
        obtain ⟨rfl, rfl, HB7⟩ := hcut
        have s0 := cell_keep' HB7.out r0; have s1 := cell_keep' HB7.out r1; have s2 := cell_keep' HB7.out r2; have s3 := cell_keep' HB7.out r3; have s4 := cell_keep' HB7.out r4; have sq0 := cell_keep' HB7.out rq0; have sq1 := cell_keep' HB7.out rq1; have sq2 := cell_keep' HB7.out rq2; clear r0 r1 r2 r3 r4 rq0 rq1 rq2
        replace HB7 := Lib.hid (HB6.out.trans (HB7.out.mono HB6.out.size))
        go_upto_region 16 with fail
        go_region_held3 (fun wh => wh.cell? ⟨W.heap.size, 0, none⟩ = some (.bool lf) ∧ wh.cell? ⟨W.heap.size, 1, none⟩ = some (I v) ∧ wh.cell? ⟨W.heap.size, 2, none⟩ = some (I pl) ∧ wh.cell? ⟨W.heap.size, 3, none⟩ = some (.slice A3 la c3) ∧ wh.cell? ⟨W.heap.size, 4, none⟩ = some (.slice A4 lk c4) ∧ wh.cell? ⟨W.heap.size + 1, 0, none⟩ = some (I qn) ∧ wh.cell? ⟨W.heap.size + 1, 1, none⟩ = some (I qx) ∧ wh.cell? ⟨W.heap.size + 1, 2, none⟩ = some (I qy)) (first | exact ⟨s0, s1, s2, s3, s4, sq0, sq1, sq2⟩ | exact ⟨t0, t1, t2, t3, t4, tq0, tq1, tq2⟩ | exact ⟨v0, v1, v2, v3, v4, vq0, vq1, vq2⟩ | go_keep) (first | (go_at_call 53; (with_reducible refine (HC8.out.vl _ (Below.refl _ _)).mono ?_); rintro e w9 ⟨rfl, hb⟩; have v0 := cell_keep' hb t0; have v1 := cell_keep' hb t1; have v2 := cell_keep' hb t2; have v3 := cell_keep' hb t3; have v4 := cell_keep' hb t4; have vq0 := cell_keep' hb tq0; have vq1 := cell_keep' hb tq1; have vq2 := cell_keep' hb tq2; have HB9 := Lib.hid (HB8.out.trans (hb.mono HB8.out.size)); clear hb) | (go_at_call 54; (with_reducible refine (HCP.out _ HB7.out.drew).mono ?_); rintro e w8 ⟨c8, rfl, hc8, hb⟩; have HC8 := Lib.hid hc8; have t0 := cell_keep' hb s0; have t1 := cell_keep' hb s1; have t2 := cell_keep' hb s2; have t3 := cell_keep' hb s3; have t4 := cell_keep' hb s4; have tq0 := cell_keep' hb sq0; have tq1 := cell_keep' hb sq1; have tq2 := cell_keep' hb sq2; have HB8 := Lib.hid (HB7.out.drew.trans (hb.mono HB7.out.size)); clear hb hc8))
        clear HC8
        go_upto_region 18 with (first | (go_at_call 54; (with_reducible refine (HCP.out _ HB9.out).mono ?_); rintro e w10 ⟨c10, rfl, hc, hb⟩; have HC10 := Lib.hid hc; have x0 := cell_keep' hb v0; have x1 := cell_keep' hb v1; have x2 := cell_keep' hb v2; have x3 := cell_keep' hb v3; have x4 := cell_keep' hb v4; have xq0 := cell_keep' hb vq0; have xq1 := cell_keep' hb vq1; have xq2 := cell_keep' hb vq2; clear v0 v1 v2 v3 v4 vq0 vq1 vq2; have HB10 := Lib.hid (HB9.out.trans (hb.mono HB9.out.size)); clear hb hc) | (go_at_call 55; (with_reducible refine (HC10.out.dp _ (Below.refl _ _)).mono ?_); rintro e w11 ⟨rfl, hb⟩; have y0 := cell_keep' hb x0; have y1 := cell_keep' hb x1; have y2 := cell_keep' hb x2; have y3 := cell_keep' hb x3; have y4 := cell_keep' hb x4; have yq0 := cell_keep' hb xq0; have yq1 := cell_keep' hb xq1; have yq2 := cell_keep' hb xq2; clear x0 x1 x2 x3 x4 xq0 xq1 xq2; have HB11 := Lib.hid (HB10.out.trans (hb.mono HB10.out.size)); clear hb))
        clear HC10
        go_region_held3 (fun wh => wh.cell? ⟨W.heap.size, 0, none⟩ = some (.bool lf) ∧ wh.cell? ⟨W.heap.size, 1, none⟩ = some (I v) ∧ wh.cell? ⟨W.heap.size, 2, none⟩ = some (I pl) ∧ wh.cell? ⟨W.heap.size, 3, none⟩ = some (.slice A3 la c3) ∧ wh.cell? ⟨W.heap.size, 4, none⟩ = some (.slice A4 lk c4) ∧ wh.cell? ⟨W.heap.size + 1, 0, none⟩ = some (I qn) ∧ wh.cell? ⟨W.heap.size + 1, 1, none⟩ = some (I qx) ∧ wh.cell? ⟨W.heap.size + 1, 2, none⟩ = some (I qy)) (first | exact ⟨y0, y1, y2, y3, y4, yq0, yq1, yq2⟩ | exact ⟨z0, z1, z2, z3, z4, zq0, zq1, zq2⟩ | exact ⟨za0, za1, za2, za3, za4, zaq0, zaq1, zaq2⟩ | go_keep) (first | (go_at_call 56; (with_reducible refine (HC12.out.ex _ (Below.refl _ _)).mono ?_); rintro e w13 ⟨rfl, hb⟩; have za0 := cell_keep' hb z0; have za1 := cell_keep' hb z1; have za2 := cell_keep' hb z2; have za3 := cell_keep' hb z3; have za4 := cell_keep' hb z4; have zaq0 := cell_keep' hb zq0; have zaq1 := cell_keep' hb zq1; have zaq2 := cell_keep' hb zq2; have HB13 := Lib.hid (HB12.out.trans (hb.mono HB12.out.size)); clear hb) | (go_at_call 54; (with_reducible refine (HCP.out _ HB11.out.drew).mono ?_); rintro e w12 ⟨c12, rfl, hc, hb⟩; have HC12 := Lib.hid hc; have z0 := cell_keep' hb y0; have z1 := cell_keep' hb y1; have z2 := cell_keep' hb y2; have z3 := cell_keep' hb y3; have z4 := cell_keep' hb y4; have zq0 := cell_keep' hb yq0; have zq1 := cell_keep' hb yq1; have zq2 := cell_keep' hb yq2; have HB12 := Lib.hid (HB11.out.drew.trans (hb.mono HB11.out.size)); clear hb hc))
        clear HC12
        go_upto_region 20 with (first | (go_at_call 54; (with_reducible refine (HCP.out _ HB13.out).mono ?_); rintro e w14 ⟨c14, rfl, hc, hb⟩; have HC14 := Lib.hid hc; have zb0 := cell_keep' hb za0; have zb1 := cell_keep' hb za1; have zb2 := cell_keep' hb za2; have zb3 := cell_keep' hb za3; have zb4 := cell_keep' hb za4; have zbq0 := cell_keep' hb zaq0; have zbq1 := cell_keep' hb zaq1; have zbq2 := cell_keep' hb zaq2; clear za0 za1 za2 za3 za4 zaq0 zaq1 zaq2; have HB14 := Lib.hid (HB13.out.trans (hb.mono HB13.out.size)); clear hb hc) | (go_at_call 23; (with_reducible refine (HTB.out _ HB14.out).mono ?_); rintro e w15 ⟨tb, rfl, ht, hb⟩; have HT := Lib.hid ht; have HB15' := Lib.hid hb; have zc0 := cell_keep' hb zb0; have zc1 := cell_keep' hb zb1; have zc2 := cell_keep' hb zb2; have zc3 := cell_keep' hb zb3; have zc4 := cell_keep' hb zb4; have zcq0 := cell_keep' hb zbq0; have zcq1 := cell_keep' hb zbq1; have zcq2 := cell_keep' hb zbq2; clear zb0 zb1 zb2 zb3 zb4 zbq0 zbq1 zbq2; have HB15 := Lib.hid (HB14.out.trans (hb.mono HB14.out.size)); clear hb ht) | (go_at_call 57; (with_reducible refine (HC14.out.sl _ _ HB15'.out HT.out).mono ?_); rintro e w16 ⟨rfl, hb⟩; have zd0 := cell_keep' hb zc0; have zd1 := cell_keep' hb zc1; have zd2 := cell_keep' hb zc2; have zd3 := cell_keep' hb zc3; have zd4 := cell_keep' hb zc4; have zdq0 := cell_keep' hb zcq0; have zdq1 := cell_keep' hb zcq1; have zdq2 := cell_keep' hb zcq2; clear zc0 zc1 zc2 zc3 zc4 zcq0 zcq1 zcq2; have HB16 := Lib.hid (HB15.out.trans (hb.mono HB15.out.size)); clear hb))
        clear HC14
        go_wp2_with (first | (go_at_call 24; (with_reducible refine (HRD.out _ HB16.out).mono ?_); rintro e w17 ⟨rfl, hb⟩; have ze0 := cell_keep' hb zd0; have ze1 := cell_keep' hb zd1; have ze2 := cell_keep' hb zd2; have ze3 := cell_keep' hb zd3; have ze4 := cell_keep' hb zd4; have zeq0 := cell_keep' hb zdq0; have zeq1 := cell_keep' hb zdq1; have zeq2 := cell_keep' hb zdq2; clear zd0 zd1 zd2 zd3 zd4 zdq0 zdq1 zdq2; have HB17 := Lib.hid (HB16.out.trans (hb.mono HB16.out.size)); clear hb) | (go_at_call 21; (with_reducible refine (HAW.out _).mono ?_); rintro e w18 ⟨rfl, hb⟩; have HB18 := Lib.hid (HB17.out.trans (hb.mono HB17.out.size)); clear hb))
        go_ret
        exact ⟨rfl, HB18.out⟩
end Go.Proofs.Ytpfbommaddaijaa

