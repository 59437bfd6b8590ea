/- What solved and Solves answer. -/
import Derived.Test.YtpfbommaddaijaaZeQ6
import Derived.Test.YtpfbommaddaijaaZex22
namespace Go.Proofs.Ytpfbommaddaijaa
open Go.RowKit Go.Proofs.YtpfbommaddaijaaW.PrintWords Go.Proofs.YtpfbommaddaijaaW.PrintLast PBoundTo
set_option linter.unusedVariables false
set_option linter.unusedSimpArgs false

/-- solved's answer on a protocol and table that fit -/
def SR (W : World) (q : Fx × Bool) (e : Ending) (w' : World) : Prop := ∃ k n A l c, e = .returned (.tuple #[.agg #[I k, I n, .slice A l c], .bool q.2, I 0]) ∧ FmS W.heap.size w'.heap.size w' q.1 [I k, I n, .slice A l c] ∧ Below W.heap.size W w'
set_option maxHeartbeats 8000000 in
set_option maxRecDepth 100000 in
theorem sol_ok {W : World} {lf ok : Bool} {v pl n : Int} {la lk c3 c4 len tc : Nat} {A3 A4 ta : Option Addr} {aa bb : List Int} {q : Fx × Bool} (HIN : ∀ w' : World, Calls Try.prog 84 #[.slice ta len tc] w' fun e w'' => e = .returned (.tuple #[I n, .bool ok]) ∧ Below w'.heap.size w' w'') (h1 : ok = true) (h2 : decide (n < 1) = false) (HV : ∀ w' : World, Below W.heap.size W w' → Calls Try.prog 53 #[.agg #[.bool lf, I v, I pl, .slice A3 la c3, .slice A4 lk c4], I n] w' fun e w'' => e = .returned (.bool true) ∧ Below w'.heap.size w' w'') (HL : ∀ w' : World, Below W.heap.size W w' → Calls Try.prog 134 #[.slice ta len tc] w' (Two w' aa bb)) (HM : ∀ (w' : World) (A B : Option Addr) (c d : Nat), Below W.heap.size W w' → aa.length ≤ c → bb.length ≤ d → Kd.C (Kd.int .i64) w' A aa.length aa → Kd.C (Kd.int .i64) w' B bb.length bb → Calls Try.prog 135 #[.agg #[.bool lf, I v, I pl, .slice A3 la c3, .slice A4 lk c4], .slice A aa.length c, .slice B bb.length d] w' (MR w' q)) : Calls Try.prog 100 #[.agg #[.bool lf, I v, I pl, .slice A3 la c3, .slice A4 lk c4], .slice ta len tc] W (SR W q) := by
  subst h1
  unfold SR
  unfold MR at HM
  unfold Two at HL
  replace HIN := Lib.hid HIN
  replace HV := Lib.hid HV
  replace HL := Lib.hid HL
  replace HM := Lib.hid HM
  obtain ⟨W1, hW1⟩ : ∃ W1, W1 = W.alloc (.cells #[.bool lf, I v, I pl, .slice A3 la c3, .slice A4 lk c4] 32) := ⟨_, rfl⟩
  obtain ⟨W2, hW2⟩ : ∃ W2, W2 = W1.alloc (.cells #[I 0, I 0, .slice none 0 0] 24) := ⟨_, rfl⟩
  have hs1 : W1.heap.size = W.heap.size + 1 := by rw [hW1]; exact World.size_alloc _ _
  have BK1 : W1.heap[W.heap.size]? = some (.cells #[.bool lf, I v, I pl, .slice A3 la c3, .slice A4 lk c4] 32 (0, 0)) := by rw [hW1]; exact blk_new _ _
  have HBK : Hid (W2.heap[W.heap.size]? = some (.cells #[.bool lf, I v, I pl, .slice A3 la c3, .slice A4 lk c4] 32 (0, 0))) := Lib.hid (by rw [hW2]; exact blk_alloc BK1 _)
  have HRB : Hid (W2.heap[W.heap.size + 1]? = some (.cells #[I 0, I 0, .slice none 0 0] 24 (0, 0))) := Lib.hid (by rw [hW2, ← hs1]; exact blk_new _ _)
  have HB2 : Hid (Below W.heap.size W W2) := Lib.hid (by rw [hW2]; exact below_alloc (by rw [hW1]; exact below_alloc (Below.refl _ _) _) _)
  clear BK1
  go_enter Try.func100, Try.ntmps100
  go_upto_region 1 with fail
  rw [← hW1, ← hW2]
  clear hW1 hW2 hs1
  go_wp2_with (first | (go_at_call 135; (with_reducible refine HM5.out.mono ?_); rintro e w6 ⟨kk, nn, ka, kl, kc, rfl, hf, hb⟩; have HF6 := Lib.hid hf; have HB56 := Lib.hid hb; have HRB6 := Lib.hid (blk_alloc (blk_below HRB5.out hb) (.cells #[I kk, I nn, .slice ka kl kc] 24)); have HB6 : Hid (Below W.heap.size W (w6.alloc (.cells #[I kk, I nn, .slice ka kl kc] 24))) := Lib.hid (below_alloc (HB5.out.trans (hb.mono HB5.out.size)) _); have u0 : (w6.alloc (.cells #[I kk, I nn, .slice ka kl kc] 24)).cell? ⟨w6.heap.size, 0, none⟩ = some (I kk) := (blk_cell (blk_new w6 (.cells #[I kk, I nn, .slice ka kl kc] 24)) 0).trans rfl; have u1 : (w6.alloc (.cells #[I kk, I nn, .slice ka kl kc] 24)).cell? ⟨w6.heap.size, 1, none⟩ = some (I nn) := (blk_cell (blk_new w6 (.cells #[I kk, I nn, .slice ka kl kc] 24)) 1).trans rfl; have u2 : (w6.alloc (.cells #[I kk, I nn, .slice ka kl kc] 24)).cell? ⟨w6.heap.size, 2, none⟩ = some (.slice ka kl kc) := (blk_cell (blk_new w6 (.cells #[I kk, I nn, .slice ka kl kc] 24)) 2).trans rfl; have x0 : (w6.alloc (.cells #[I kk, I nn, .slice ka kl kc] 24)).cell? ⟨W.heap.size + 1, 0, none⟩ = some (I 0) := (blk_cell HRB6.out 0).trans rfl; have frx0 := blk_frozen HRB6.out 0; have x1 : (w6.alloc (.cells #[I kk, I nn, .slice ka kl kc] 24)).cell? ⟨W.heap.size + 1, 1, none⟩ = some (I 0) := (blk_cell HRB6.out 1).trans rfl; have frx1 := blk_frozen HRB6.out 1; have x2 : (w6.alloc (.cells #[I kk, I nn, .slice ka kl kc] 24)).cell? ⟨W.heap.size + 1, 2, none⟩ = some (.slice none 0 0) := (blk_cell HRB6.out 2).trans rfl; have frx2 := blk_frozen HRB6.out 2; clear hf hb) | (go_at_call 134; (with_reducible refine (HL.out _ HB4.out).mono ?_); rintro e w5 ⟨ZA, OA, zc, oc, rfl, hz, ho, lz, lo, hb⟩; have HBK5 := Lib.hid (blk_below HBK4.out hb); have HRB5 := Lib.hid (blk_below HRB4.out hb); have HB5 := Lib.hid (HB4.out.trans (hb.mono HB4.out.size)); have HM5 := Lib.hid (HM.out _ _ _ _ _ HB5.out lz lo hz ho); have n0 : w5.cell? ⟨W.heap.size, 0, none⟩ = some (.bool lf) := (blk_cell HBK5.out 0).trans rfl; have n1 : w5.cell? ⟨W.heap.size, 1, none⟩ = some (I v) := (blk_cell HBK5.out 1).trans rfl; have n2 : w5.cell? ⟨W.heap.size, 2, none⟩ = some (I pl) := (blk_cell HBK5.out 2).trans rfl; have n3 : w5.cell? ⟨W.heap.size, 3, none⟩ = some (.slice A3 la c3) := (blk_cell HBK5.out 3).trans rfl; have n4 : w5.cell? ⟨W.heap.size, 4, none⟩ = some (.slice A4 lk c4) := (blk_cell HBK5.out 4).trans rfl; clear hb hz ho lz lo) | (go_at_call 84; (with_reducible refine (HIN.out _).mono ?_); rintro e w3 ⟨rfl, hb⟩; have HBK3 := Lib.hid (blk_below HBK.out hb); have HRB3 := Lib.hid (blk_below HRB.out hb); have HB3 := Lib.hid (HB2.out.trans (hb.mono HB2.out.size)); have k0 : w3.cell? ⟨W.heap.size, 0, none⟩ = some (.bool lf) := (blk_cell HBK3.out 0).trans rfl; have k1 : w3.cell? ⟨W.heap.size, 1, none⟩ = some (I v) := (blk_cell HBK3.out 1).trans rfl; have k2 : w3.cell? ⟨W.heap.size, 2, none⟩ = some (I pl) := (blk_cell HBK3.out 2).trans rfl; have k3 : w3.cell? ⟨W.heap.size, 3, none⟩ = some (.slice A3 la c3) := (blk_cell HBK3.out 3).trans rfl; have k4 : w3.cell? ⟨W.heap.size, 4, none⟩ = some (.slice A4 lk c4) := (blk_cell HBK3.out 4).trans rfl; have r0 : w3.cell? ⟨W.heap.size + 1, 0, none⟩ = some (I 0) := (blk_cell HRB3.out 0).trans rfl; have frr0 := blk_frozen HRB3.out 0; have r1 : w3.cell? ⟨W.heap.size + 1, 1, none⟩ = some (I 0) := (blk_cell HRB3.out 1).trans rfl; have frr1 := blk_frozen HRB3.out 1; have r2 : w3.cell? ⟨W.heap.size + 1, 2, none⟩ = some (.slice none 0 0) := (blk_cell HRB3.out 2).trans rfl; have frr2 := blk_frozen HRB3.out 2; clear hb) | (go_at_call 53; (with_reducible refine (HV.out _ HB3.out).mono ?_); rintro e w4 ⟨rfl, hb⟩; have HBK4 := Lib.hid (blk_below HBK3.out hb); have HRB4 := Lib.hid (blk_below HRB3.out hb); have HB4 := Lib.hid (HB3.out.trans (hb.mono HB3.out.size)); have m0 : w4.cell? ⟨W.heap.size, 0, none⟩ = some (.bool lf) := (blk_cell HBK4.out 0).trans rfl; have m1 : w4.cell? ⟨W.heap.size, 1, none⟩ = some (I v) := (blk_cell HBK4.out 1).trans rfl; have m2 : w4.cell? ⟨W.heap.size, 2, none⟩ = some (I pl) := (blk_cell HBK4.out 2).trans rfl; have m3 : w4.cell? ⟨W.heap.size, 3, none⟩ = some (.slice A3 la c3) := (blk_cell HBK4.out 3).trans rfl; have m4 : w4.cell? ⟨W.heap.size, 4, none⟩ = some (.slice A4 lk c4) := (blk_cell HBK4.out 4).trans rfl; have s0 : w4.cell? ⟨W.heap.size + 1, 0, none⟩ = some (I 0) := (blk_cell HRB4.out 0).trans rfl; have frs0 := blk_frozen HRB4.out 0; have s1 : w4.cell? ⟨W.heap.size + 1, 1, none⟩ = some (I 0) := (blk_cell HRB4.out 1).trans rfl; have frs1 := blk_frozen HRB4.out 1; have s2 : w4.cell? ⟨W.heap.size + 1, 2, none⟩ = some (.slice none 0 0) := (blk_cell HRB4.out 2).trans rfl; have frs2 := blk_frozen HRB4.out 2; clear hb))
  have HFIN : Hid ((pt3 (w6.alloc (.cells #[I kk, I nn, .slice ka kl kc] 24)) (W.heap.size + 1) (I kk) (I nn) (.slice ka kl kc)).heap[W.heap.size + 1]? = some (.cells #[I kk, I nn, .slice ka kl kc] 24 (0, 0))) := Lib.hid (blk_pt3 HRB6.out)
  have HBF : Hid (Below W.heap.size W (pt3 (w6.alloc (.cells #[I kk, I nn, .slice ka kl kc] 24)) (W.heap.size + 1) (I kk) (I nn) (.slice ka kl kc))) := Lib.hid (below_pt3 HB6.out (Nat.le_succ _))
  have hlt5 : W.heap.size + 1 < w5.heap.size := blk_lt HRB5.out
  have hle : w6.heap.size ≤ (pt3 (w6.alloc (.cells #[I kk, I nn, .slice ka kl kc] 24)) (W.heap.size + 1) (I kk) (I nn) (.slice ka kl kc)).heap.size := by
    show _ ≤ ((((w6.alloc _).setCell _ _).setCell _ _).setCell _ _).heap.size
    rw [World.size_setCell, World.size_setCell, World.size_setCell, World.size_alloc]
    exact Nat.le_succ _
  have HFF : Hid (FmS W.heap.size (pt3 (w6.alloc (.cells #[I kk, I nn, .slice ka kl kc] 24)) (W.heap.size + 1) (I kk) (I nn) (.slice ka kl kc)).heap.size (pt3 (w6.alloc (.cells #[I kk, I nn, .slice ka kl kc] 24)) (W.heap.size + 1) (I kk) (I nn) (.slice ka kl kc)) q.1 [I kk, I nn, .slice ka kl kc]) := Lib.hid ((HF6.out.on fun k h1 h2 => by
    have hne : k ≠ W.heap.size + 1 := by omega
    show ((((w6.alloc (.cells #[I kk, I nn, .slice ka kl kc] 24)).setCell ⟨W.heap.size + 1, 0, none⟩ (I kk)).setCell ⟨W.heap.size + 1, 1, none⟩ (I nn)).setCell ⟨W.heap.size + 1, 2, none⟩ (.slice ka kl kc)).heap[k]? = _
    rw [one_other hne, one_other hne, one_other hne]
    exact Below.heap_alloc w6 _ k h2).wide HB5.out.size hle)
  refine bodyPost_ret (results_ctt (by rfl) _ _ (W.heap.size + 1) 24 #[I kk, I nn, .slice ka kl kc] (0, 0) _ (by rfl) HFIN.out Try.underlying24 (by rfl) (by kernel_rfl)) rfl ?_
  exact ⟨_, _, _, _, _, rfl, HFF.out, HBF.out⟩
end Go.Proofs.Ytpfbommaddaijaa

