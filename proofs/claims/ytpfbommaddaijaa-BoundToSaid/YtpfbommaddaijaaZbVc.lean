/- The law BoundTo: the walk. -/
import Derived.Test.YtpfbommaddaijaaZbVa
import Derived.Test.YtpfbommaddaijaaZbVb
import Derived.Test.YtpfbommaddaijaaZbV8c
import Derived.Deep.RegionHeld3
namespace Go.Proofs.Ytpfbommaddaijaa
open Go.RowKit Go.Proofs.YtpfbommaddaijaaW.PrintWords Go.Proofs.YtpfbommaddaijaaW.PrintLast PBoundTo
set_option linter.unusedVariables false
set_option linter.unusedSimpArgs false

set_option maxHeartbeats 4000000 in
set_option maxRecDepth 100000 in
theorem to_heavy {W : World} {lf : Bool} {v pl : Int} {la lk : Nat} {A3 A4 ta : Option Addr} {c3 c4 len tc : Nat} (HHV : ∀ W', Below W.heap.size W W' → Calls Try.prog 18 #[.agg #[.bool lf, I v, I pl, .slice A3 la c3, .slice A4 lk c4]] W' fun e W'' => e = .returned (.bool true) ∧ Below W'.heap.size W' W'') : Calls Try.prog 10 #[.agg #[.bool lf, I v, I pl, .slice A3 la c3, .slice A4 lk c4], .slice ta len tc] W fun e W' => e = .returned (.bool true) ∧ Below W.heap.size W W' := by
  replace HHV := Lib.hid HHV
  obtain ⟨W1, hW1⟩ : ∃ W1, W1 = W.alloc (.cells #[.bool lf, I v, I pl, .slice A3 la c3, .slice A4 lk c4] 32) := ⟨_, rfl⟩
  have HB1 : Hid (Below W.heap.size W W1) := Lib.hid (by rw [hW1]; exact below_alloc (Below.refl _ _) _)
  have BK : W1.heap[W.heap.size]? = some (.cells #[.bool lf, I v, I pl, .slice A3 la c3, .slice A4 lk c4] 32 (0, 0)) := by rw [hW1]; exact blk_new _ _
  have k0 : W1.cell? ⟨W.heap.size, 0, none⟩ = some (.bool lf) := (blk_cell BK 0).trans rfl
  have k1 : W1.cell? ⟨W.heap.size, 1, none⟩ = some (I v) := (blk_cell BK 1).trans rfl
  have k2 : W1.cell? ⟨W.heap.size, 2, none⟩ = some (I pl) := (blk_cell BK 2).trans rfl
  have k3 : W1.cell? ⟨W.heap.size, 3, none⟩ = some (.slice A3 la c3) := (blk_cell BK 3).trans rfl
  have k4 : W1.cell? ⟨W.heap.size, 4, none⟩ = some (.slice A4 lk c4) := (blk_cell BK 4).trans rfl
  clear BK
  have HAW := Lib.hid awake_any
  go_enter Try.func10, Try.ntmps10
  go_upto_region 1 with fail
  rw [← hW1]
  clear hW1
  go_wp2_with (first | (go_at_call 18; (with_reducible refine (HHV.out _ HB1.out).mono ?_); rintro e w2 ⟨rfl, hb⟩; have m0 := cell_keep' hb k0; have m1 := cell_keep' hb k1; have m2 := cell_keep' hb k2; have m3 := cell_keep' hb k3; have m4 := cell_keep' hb k4; clear k0 k1 k2 k3 k4; have HB2 := Lib.hid (HB1.out.trans (hb.mono HB1.out.size)); clear hb) | (go_at_call 21; (with_reducible refine (HAW.out _).mono ?_); rintro e w3 ⟨rfl, hb⟩; have HB3 := Lib.hid (HB2.out.trans (hb.mono HB2.out.size)); clear hb))
  go_ret
  exact ⟨rfl, HB3.out⟩
set_option maxHeartbeats 4000000 in
set_option maxRecDepth 100000 in
theorem to_long {W : World} {lf : Bool} {v pl : Int} {la lk : Nat} {A3 A4 ta : Option Addr} {c3 c4 len tc : Nat} (HHV : ∀ W', Below W.heap.size W W' → Calls Try.prog 18 #[.agg #[.bool lf, I v, I pl, .slice A3 la c3, .slice A4 lk c4]] W' fun e W'' => e = .returned (.bool false) ∧ Below W'.heap.size W' W'') {P : Int} (hP : wrap64 ((len : Int) * (len : Int)) = P) (h1 : (300000 : Int) < P) : Calls Try.prog 10 #[.agg #[.bool lf, I v, I pl, .slice A3 la c3, .slice A4 lk c4], .slice ta len tc] W fun e W' => e = .returned (.bool true) ∧ Below W.heap.size W W' := by
  replace HHV := Lib.hid HHV
  obtain ⟨W1, hW1⟩ : ∃ W1, W1 = W.alloc (.cells #[.bool lf, I v, I pl, .slice A3 la c3, .slice A4 lk c4] 32) := ⟨_, rfl⟩
  have HB1 : Hid (Below W.heap.size W W1) := Lib.hid (by rw [hW1]; exact below_alloc (Below.refl _ _) _)
  have BK : W1.heap[W.heap.size]? = some (.cells #[.bool lf, I v, I pl, .slice A3 la c3, .slice A4 lk c4] 32 (0, 0)) := by rw [hW1]; exact blk_new _ _
  have k0 : W1.cell? ⟨W.heap.size, 0, none⟩ = some (.bool lf) := (blk_cell BK 0).trans rfl
  have k1 : W1.cell? ⟨W.heap.size, 1, none⟩ = some (I v) := (blk_cell BK 1).trans rfl
  have k2 : W1.cell? ⟨W.heap.size, 2, none⟩ = some (I pl) := (blk_cell BK 2).trans rfl
  have k3 : W1.cell? ⟨W.heap.size, 3, none⟩ = some (.slice A3 la c3) := (blk_cell BK 3).trans rfl
  have k4 : W1.cell? ⟨W.heap.size, 4, none⟩ = some (.slice A4 lk c4) := (blk_cell BK 4).trans rfl
  clear BK
  have HAW := Lib.hid awake_any
  go_enter Try.func10, Try.ntmps10
  go_upto_region 1 with fail
  rw [← hW1]
  clear hW1
  go_wp2_with (first | (go_at_call 18; (with_reducible refine (HHV.out _ HB1.out).mono ?_); rintro e w2 ⟨rfl, hb⟩; have m0 := cell_keep' hb k0; have m1 := cell_keep' hb k1; have m2 := cell_keep' hb k2; have m3 := cell_keep' hb k3; have m4 := cell_keep' hb k4; clear k0 k1 k2 k3 k4; have HB2 := Lib.hid (HB1.out.trans (hb.mono HB1.out.size)); clear hb) | (go_at_call 21; (with_reducible refine (HAW.out _).mono ?_); rintro e w3 ⟨rfl, hb⟩; have HB3 := Lib.hid (HB2.out.trans (hb.mono HB2.out.size)); clear hb))
  go_ret
  exact ⟨rfl, HB3.out⟩
/-- what a copy of the protocol and of the table serve for -/
def Cp2 (w : World) (c : Value) (TB : World → Value → Prop) (TF : World → Ending → World → Prop) : Prop := ∀ w' tb, Below w.heap.size w w' → TB w' tb → Calls Try.prog 58 #[c, tb] w' (TF w')
def TfZ (er : Int) (W : World) (e : Ending) (w' : World) : Prop := e = .returned (.tuple #[.agg #[I 0, I 0, .slice none 0 0], I er]) ∧ Below W.heap.size W w'
set_option maxHeartbeats 8000000 in
set_option maxRecDepth 100000 in
theorem to_low {W : World} {lf : Bool} {v pl : Int} {la lk : Nat} {A3 A4 ta : Option Addr} {c3 c4 len tc : Nat} {ni : Int} {TB : World → Value → Prop} (HHV : ∀ W', Below W.heap.size W W' → Calls Try.prog 18 #[.agg #[.bool lf, I v, I pl, .slice A3 la c3, .slice A4 lk c4]] W' fun e W'' => e = .returned (.bool false) ∧ Below W'.heap.size W' W'') {P : Int} (hP : wrap64 ((len : Int) * (len : Int)) = P) (h1 : ¬ (300000 : Int) < P) (HRI : ∀ W', Below W.heap.size W W' → Calls Try.prog 17 #[.slice ta len tc] W' fun e W'' => e = .returned (I ni) ∧ Below W'.heap.size W' W'') (h2 : decide (ni < 1) = true) (HCP : ∀ W', Below W.heap.size W W' → Calls Try.prog 54 #[.agg #[.bool lf, I v, I pl, .slice A3 la c3, .slice A4 lk c4]] W' fun e W'' => ∃ c, e = .returned c ∧ Cp2 W'' c TB (TfZ 1) ∧ Below W'.heap.size W' W'') (HTB : ∀ W', Below W.heap.size W W' → Calls Try.prog 23 #[.slice ta len tc] W' fun e W'' => ∃ tb, e = .returned tb ∧ TB W'' tb ∧ Below W'.heap.size W' W'') : Calls Try.prog 10 #[.agg #[.bool lf, I v, I pl, .slice A3 la c3, .slice A4 lk c4], .slice ta len tc] W fun e W' => e = .returned (.bool true) ∧ Below W.heap.size W W' := by
  unfold TfZ at HCP
  unfold Cp2 at HCP
  replace HHV := Lib.hid HHV
  replace HRI := Lib.hid HRI
  replace HCP := Lib.hid HCP
  replace HTB := Lib.hid HTB
  obtain ⟨W1, hW1⟩ : ∃ W1, W1 = W.alloc (.cells #[.bool lf, I v, I pl, .slice A3 la c3, .slice A4 lk c4] 32) := ⟨_, rfl⟩
  have HB1 : Hid (Below W.heap.size W W1) := Lib.hid (by rw [hW1]; exact below_alloc (Below.refl _ _) _)
  have BK : W1.heap[W.heap.size]? = some (.cells #[.bool lf, I v, I pl, .slice A3 la c3, .slice A4 lk c4] 32 (0, 0)) := by rw [hW1]; exact blk_new _ _
  have k0 : W1.cell? ⟨W.heap.size, 0, none⟩ = some (.bool lf) := (blk_cell BK 0).trans rfl
  have k1 : W1.cell? ⟨W.heap.size, 1, none⟩ = some (I v) := (blk_cell BK 1).trans rfl
  have k2 : W1.cell? ⟨W.heap.size, 2, none⟩ = some (I pl) := (blk_cell BK 2).trans rfl
  have k3 : W1.cell? ⟨W.heap.size, 3, none⟩ = some (.slice A3 la c3) := (blk_cell BK 3).trans rfl
  have k4 : W1.cell? ⟨W.heap.size, 4, none⟩ = some (.slice A4 lk c4) := (blk_cell BK 4).trans rfl
  clear BK
  have HAW := Lib.hid awake_any
  go_enter Try.func10, Try.ntmps10
  go_upto_region 1 with fail
  rw [← hW1]
  clear hW1
  go_upto_region 9 with (first | (go_at_call 18; (with_reducible refine (HHV.out _ HB1.out).mono ?_); rintro e w2 ⟨rfl, hb⟩; have m0 := cell_keep' hb k0; have m1 := cell_keep' hb k1; have m2 := cell_keep' hb k2; have m3 := cell_keep' hb k3; have m4 := cell_keep' hb k4; clear k0 k1 k2 k3 k4; have HB2 := Lib.hid (HB1.out.trans (hb.mono HB1.out.size)); clear hb) | (go_at_call 17; (with_reducible refine (HRI.out _ HB2.out).mono ?_); rintro e w3 ⟨rfl, hb⟩; have n0 := cell_keep' hb m0; have n1 := cell_keep' hb m1; have n2 := cell_keep' hb m2; have n3 := cell_keep' hb m3; have n4 := cell_keep' hb m4; clear m0 m1 m2 m3 m4; have HB3 := Lib.hid (HB2.out.trans (hb.mono HB2.out.size)); clear hb))
  go_upto_region 10 with (first | (go_at_call 54; (with_reducible refine (HCP.out _ HB3.out).mono ?_); rintro e w4 ⟨c4, rfl, hc, hb⟩; have HC4 := Lib.hid hc; have x0 := cell_keep' hb n0; have x1 := cell_keep' hb n1; have x2 := cell_keep' hb n2; have x3 := cell_keep' hb n3; have x4 := cell_keep' hb n4; clear n0 n1 n2 n3 n4; have HB4 := Lib.hid (HB3.out.trans (hb.mono HB3.out.size)); clear hb hc) | (go_at_call 23; (with_reducible refine (HTB.out _ HB4.out).mono ?_); rintro e w5 ⟨tb, rfl, ht, hb⟩; have HT := Lib.hid ht; have HBt := Lib.hid hb; have y0 := cell_keep' hb x0; have y1 := cell_keep' hb x1; have y2 := cell_keep' hb x2; have y3 := cell_keep' hb x3; have y4 := cell_keep' hb x4; clear x0 x1 x2 x3 x4; have HB5 := Lib.hid (HB4.out.trans (hb.mono HB4.out.size)); clear hb ht) | (go_at_call 58; (with_reducible refine (HC4.out _ _ HBt.out HT.out).mono ?_); rintro e w6 ⟨rfl, hb⟩; have z0 := cell_keep' hb y0; have z1 := cell_keep' hb y1; have z2 := cell_keep' hb y2; have z3 := cell_keep' hb y3; have z4 := cell_keep' hb y4; clear y0 y1 y2 y3 y4; have HB6 := Lib.hid (HB5.out.trans (hb.mono HB5.out.size)); clear hb))
  have HB7 := Lib.hid (below_alloc HB6.out (.cells #[I 0, I 0, .slice none 0 0] 24))
  have HF0 : Hid ((w6.alloc (.cells #[I 0, I 0, .slice none 0 0] 24)).heap[w6.heap.size]? = some (.cells #[I 0, I 0, .slice none 0 0] 24 (0, 0))) := Lib.hid (blk_new _ _)
  have u0 := cell_alloc z0 (.cells #[I 0, I 0, .slice none 0 0] 24)
  have u1 := cell_alloc z1 (.cells #[I 0, I 0, .slice none 0 0] 24)
  have u2 := cell_alloc z2 (.cells #[I 0, I 0, .slice none 0 0] 24)
  have u3 := cell_alloc z3 (.cells #[I 0, I 0, .slice none 0 0] 24)
  have u4 := cell_alloc z4 (.cells #[I 0, I 0, .slice none 0 0] 24)
  clear z0 z1 z2 z3 z4
  generalize w6.alloc (.cells #[I 0, I 0, .slice none 0 0] 24) = w7 at *
  generalize w6.heap.size = gb at *
  have f0 : w7.cell? ⟨gb, 0, none⟩ = some (I 0) := (blk_cell HF0.out 0).trans rfl
  have f1 : w7.cell? ⟨gb, 1, none⟩ = some (I 0) := (blk_cell HF0.out 1).trans rfl
  have f2 : w7.cell? ⟨gb, 2, none⟩ = some (.slice none 0 0) := (blk_cell HF0.out 2).trans rfl
  go_wp2_with (first | (go_at_call 30; (with_reducible refine (same_none _).mono ?_); rintro e w8 ⟨rfl, hb⟩; have HB8 := Lib.hid (HB7.out.trans (hb.mono HB7.out.size)); clear hb) | (go_at_call 21; (with_reducible refine (HAW.out _).mono ?_); rintro e w9 ⟨rfl, hb⟩; have HB9 := Lib.hid (HB8.out.trans (hb.mono HB8.out.size)); clear hb))
  go_ret
  exact ⟨rfl, HB9.out⟩
set_option maxHeartbeats 8000000 in
set_option maxRecDepth 100000 in
theorem to_inv {W : World} {lf : Bool} {v pl : Int} {la lk : Nat} {A3 A4 ta : Option Addr} {c3 c4 len tc : Nat} {ni : Int} {TB : World → Value → Prop} (HHV : ∀ W', Below W.heap.size W W' → Calls Try.prog 18 #[.agg #[.bool lf, I v, I pl, .slice A3 la c3, .slice A4 lk c4]] W' fun e W'' => e = .returned (.bool false) ∧ Below W'.heap.size W' W'') {P : Int} (hP : wrap64 ((len : Int) * (len : Int)) = P) (h1 : ¬ (300000 : Int) < P) (HRI : ∀ W', Below W.heap.size W W' → Calls Try.prog 17 #[.slice ta len tc] W' fun e W'' => e = .returned (I ni) ∧ Below W'.heap.size W' W'') (h2 : decide (ni < 1) = false) (HVL : ∀ W', Below W.heap.size W W' → Calls Try.prog 19 #[.agg #[.bool lf, I v, I pl, .slice A3 la c3, .slice A4 lk c4], I ni] W' fun e W'' => e = .returned (.bool false) ∧ Below W'.heap.size W' W'') (HCP : ∀ W', Below W.heap.size W W' → Calls Try.prog 54 #[.agg #[.bool lf, I v, I pl, .slice A3 la c3, .slice A4 lk c4]] W' fun e W'' => ∃ c, e = .returned c ∧ Cp2 W'' c TB (TfZ 1) ∧ Below W'.heap.size W' W'') (HTB : ∀ W', Below W.heap.size W W' → Calls Try.prog 23 #[.slice ta len tc] W' fun e W'' => ∃ tb, e = .returned tb ∧ TB W'' tb ∧ Below W'.heap.size W' W'') : Calls Try.prog 10 #[.agg #[.bool lf, I v, I pl, .slice A3 la c3, .slice A4 lk c4], .slice ta len tc] W fun e W' => e = .returned (.bool true) ∧ Below W.heap.size W W' := by
  unfold TfZ at HCP
  unfold Cp2 at HCP
  replace HHV := Lib.hid HHV
  replace HRI := Lib.hid HRI
  replace HCP := Lib.hid HCP
  replace HTB := Lib.hid HTB
  replace HVL := Lib.hid HVL
  obtain ⟨W1, hW1⟩ : ∃ W1, W1 = W.alloc (.cells #[.bool lf, I v, I pl, .slice A3 la c3, .slice A4 lk c4] 32) := ⟨_, rfl⟩
  have HB1 : Hid (Below W.heap.size W W1) := Lib.hid (by rw [hW1]; exact below_alloc (Below.refl _ _) _)
  have BK : W1.heap[W.heap.size]? = some (.cells #[.bool lf, I v, I pl, .slice A3 la c3, .slice A4 lk c4] 32 (0, 0)) := by rw [hW1]; exact blk_new _ _
  have k0 : W1.cell? ⟨W.heap.size, 0, none⟩ = some (.bool lf) := (blk_cell BK 0).trans rfl
  have k1 : W1.cell? ⟨W.heap.size, 1, none⟩ = some (I v) := (blk_cell BK 1).trans rfl
  have k2 : W1.cell? ⟨W.heap.size, 2, none⟩ = some (I pl) := (blk_cell BK 2).trans rfl
  have k3 : W1.cell? ⟨W.heap.size, 3, none⟩ = some (.slice A3 la c3) := (blk_cell BK 3).trans rfl
  have k4 : W1.cell? ⟨W.heap.size, 4, none⟩ = some (.slice A4 lk c4) := (blk_cell BK 4).trans rfl
  clear BK
  have HAW := Lib.hid awake_any
  go_enter Try.func10, Try.ntmps10
  go_upto_region 1 with fail
  rw [← hW1]
  clear hW1
  go_upto_region 9 with (first | (go_at_call 18; (with_reducible refine (HHV.out _ HB1.out).mono ?_); rintro e w2 ⟨rfl, hb⟩; have m0 := cell_keep' hb k0; have m1 := cell_keep' hb k1; have m2 := cell_keep' hb k2; have m3 := cell_keep' hb k3; have m4 := cell_keep' hb k4; clear k0 k1 k2 k3 k4; have HB2 := Lib.hid (HB1.out.trans (hb.mono HB1.out.size)); clear hb) | (go_at_call 17; (with_reducible refine (HRI.out _ HB2.out).mono ?_); rintro e w3 ⟨rfl, hb⟩; have n0 := cell_keep' hb m0; have n1 := cell_keep' hb m1; have n2 := cell_keep' hb m2; have n3 := cell_keep' hb m3; have n4 := cell_keep' hb m4; clear m0 m1 m2 m3 m4; have HB3 := Lib.hid (HB2.out.trans (hb.mono HB2.out.size)); clear hb) | (go_at_call 19; (with_reducible refine (HVL.out _ HB3.out).mono ?_); rintro e w4 ⟨rfl, hb⟩; have p0 := cell_keep' hb n0; have p1 := cell_keep' hb n1; have p2 := cell_keep' hb n2; have p3 := cell_keep' hb n3; have p4 := cell_keep' hb n4; clear n0 n1 n2 n3 n4; have HB4 := Lib.hid (HB3.out.trans (hb.mono HB3.out.size)); clear hb))
  go_upto_region 10 with (first | (go_at_call 54; (with_reducible refine (HCP.out _ HB4.out).mono ?_); rintro e w5 ⟨c5, rfl, hc, hb⟩; have HC5 := Lib.hid hc; have x0 := cell_keep' hb p0; have x1 := cell_keep' hb p1; have x2 := cell_keep' hb p2; have x3 := cell_keep' hb p3; have x4 := cell_keep' hb p4; clear p0 p1 p2 p3 p4; have HB5 := Lib.hid (HB4.out.trans (hb.mono HB4.out.size)); clear hb hc) | (go_at_call 23; (with_reducible refine (HTB.out _ HB5.out).mono ?_); rintro e w6 ⟨tb, rfl, ht, hb⟩; have HT := Lib.hid ht; have HBt := Lib.hid hb; have y0 := cell_keep' hb x0; have y1 := cell_keep' hb x1; have y2 := cell_keep' hb x2; have y3 := cell_keep' hb x3; have y4 := cell_keep' hb x4; clear x0 x1 x2 x3 x4; have HB6 := Lib.hid (HB5.out.trans (hb.mono HB5.out.size)); clear hb ht) | (go_at_call 58; (with_reducible refine (HC5.out _ _ HBt.out HT.out).mono ?_); rintro e w7 ⟨rfl, hb⟩; have z0 := cell_keep' hb y0; have z1 := cell_keep' hb y1; have z2 := cell_keep' hb y2; have z3 := cell_keep' hb y3; have z4 := cell_keep' hb y4; clear y0 y1 y2 y3 y4; have HB7 := Lib.hid (HB6.out.trans (hb.mono HB6.out.size)); clear hb))
  have HB8 := Lib.hid (below_alloc HB7.out (.cells #[I 0, I 0, .slice none 0 0] 24))
  have HF0 : Hid ((w7.alloc (.cells #[I 0, I 0, .slice none 0 0] 24)).heap[w7.heap.size]? = some (.cells #[I 0, I 0, .slice none 0 0] 24 (0, 0))) := Lib.hid (blk_new _ _)
  have u0 := cell_alloc z0 (.cells #[I 0, I 0, .slice none 0 0] 24)
  have u1 := cell_alloc z1 (.cells #[I 0, I 0, .slice none 0 0] 24)
  have u2 := cell_alloc z2 (.cells #[I 0, I 0, .slice none 0 0] 24)
  have u3 := cell_alloc z3 (.cells #[I 0, I 0, .slice none 0 0] 24)
  have u4 := cell_alloc z4 (.cells #[I 0, I 0, .slice none 0 0] 24)
  clear z0 z1 z2 z3 z4
  generalize w7.alloc (.cells #[I 0, I 0, .slice none 0 0] 24) = w8 at *
  generalize w7.heap.size = gb at *
  have f0 : w8.cell? ⟨gb, 0, none⟩ = some (I 0) := (blk_cell HF0.out 0).trans rfl
  have f1 : w8.cell? ⟨gb, 1, none⟩ = some (I 0) := (blk_cell HF0.out 1).trans rfl
  have f2 : w8.cell? ⟨gb, 2, none⟩ = some (.slice none 0 0) := (blk_cell HF0.out 2).trans rfl
  go_wp2_with (first | (go_at_call 30; (with_reducible refine (same_none _).mono ?_); rintro e w9 ⟨rfl, hb⟩; have HB9 := Lib.hid (HB8.out.trans (hb.mono HB8.out.size)); clear hb) | (go_at_call 21; (with_reducible refine (HAW.out _).mono ?_); rintro e w10 ⟨rfl, hb⟩; have HB10 := Lib.hid (HB9.out.trans (hb.mono HB9.out.size)); clear hb))
  go_ret
  exact ⟨rfl, HB10.out⟩
set_option maxHeartbeats 8000000 in
set_option maxRecDepth 100000 in
theorem to_none {W : World} {lf : Bool} {v pl : Int} {la lk : Nat} {A3 A4 ta : Option Addr} {c3 c4 len tc : Nat} {ni : Int} {TB : World → Value → Prop} (HHV : ∀ W', Below W.heap.size W W' → Calls Try.prog 18 #[.agg #[.bool lf, I v, I pl, .slice A3 la c3, .slice A4 lk c4]] W' fun e W'' => e = .returned (.bool false) ∧ Below W'.heap.size W' W'') {P : Int} (hP : wrap64 ((len : Int) * (len : Int)) = P) (h1 : ¬ (300000 : Int) < P) (HRI : ∀ W', Below W.heap.size W W' → Calls Try.prog 17 #[.slice ta len tc] W' fun e W'' => e = .returned (I ni) ∧ Below W'.heap.size W' W'') (h2 : decide (ni < 1) = false) (HVL : ∀ W', Below W.heap.size W W' → Calls Try.prog 19 #[.agg #[.bool lf, I v, I pl, .slice A3 la c3, .slice A4 lk c4], I ni] W' fun e W'' => e = .returned (.bool true) ∧ Below W'.heap.size W' W'') (HSV : ∀ W', Below W.heap.size W W' → Calls Try.prog 20 #[.agg #[.bool lf, I v, I pl, .slice A3 la c3, .slice A4 lk c4], .slice ta len tc] W' fun e W'' => e = .returned (.bool false) ∧ Below W'.heap.size W' W'') (HCP : ∀ W', Below W.heap.size W W' → Calls Try.prog 54 #[.agg #[.bool lf, I v, I pl, .slice A3 la c3, .slice A4 lk c4]] W' fun e W'' => ∃ c, e = .returned c ∧ Cp2 W'' c TB (TfZ 6) ∧ Below W'.heap.size W' W'') (HTB : ∀ W', Below W.heap.size W W' → Calls Try.prog 23 #[.slice ta len tc] W' fun e W'' => ∃ tb, e = .returned tb ∧ TB W'' tb ∧ Below W'.heap.size W' W'') : Calls Try.prog 10 #[.agg #[.bool lf, I v, I pl, .slice A3 la c3, .slice A4 lk c4], .slice ta len tc] W fun e W' => e = .returned (.bool true) ∧ Below W.heap.size W W' := by
  unfold TfZ at HCP
  unfold Cp2 at HCP
  replace HHV := Lib.hid HHV
  replace HRI := Lib.hid HRI
  replace HCP := Lib.hid HCP
  replace HTB := Lib.hid HTB
  replace HVL := Lib.hid HVL
  replace HSV := Lib.hid HSV
  obtain ⟨W1, hW1⟩ : ∃ W1, W1 = W.alloc (.cells #[.bool lf, I v, I pl, .slice A3 la c3, .slice A4 lk c4] 32) := ⟨_, rfl⟩
  have HB1 : Hid (Below W.heap.size W W1) := Lib.hid (by rw [hW1]; exact below_alloc (Below.refl _ _) _)
  have BK : W1.heap[W.heap.size]? = some (.cells #[.bool lf, I v, I pl, .slice A3 la c3, .slice A4 lk c4] 32 (0, 0)) := by rw [hW1]; exact blk_new _ _
  have k0 : W1.cell? ⟨W.heap.size, 0, none⟩ = some (.bool lf) := (blk_cell BK 0).trans rfl
  have k1 : W1.cell? ⟨W.heap.size, 1, none⟩ = some (I v) := (blk_cell BK 1).trans rfl
  have k2 : W1.cell? ⟨W.heap.size, 2, none⟩ = some (I pl) := (blk_cell BK 2).trans rfl
  have k3 : W1.cell? ⟨W.heap.size, 3, none⟩ = some (.slice A3 la c3) := (blk_cell BK 3).trans rfl
  have k4 : W1.cell? ⟨W.heap.size, 4, none⟩ = some (.slice A4 lk c4) := (blk_cell BK 4).trans rfl
  clear BK
  have HAW := Lib.hid awake_any
  go_enter Try.func10, Try.ntmps10
  go_upto_region 1 with fail
  rw [← hW1]
  clear hW1
  go_upto_region 9 with (first | (go_at_call 18; (with_reducible refine (HHV.out _ HB1.out).mono ?_); rintro e w2 ⟨rfl, hb⟩; have m0 := cell_keep' hb k0; have m1 := cell_keep' hb k1; have m2 := cell_keep' hb k2; have m3 := cell_keep' hb k3; have m4 := cell_keep' hb k4; clear k0 k1 k2 k3 k4; have HB2 := Lib.hid (HB1.out.trans (hb.mono HB1.out.size)); clear hb) | (go_at_call 17; (with_reducible refine (HRI.out _ HB2.out).mono ?_); rintro e w3 ⟨rfl, hb⟩; have n0 := cell_keep' hb m0; have n1 := cell_keep' hb m1; have n2 := cell_keep' hb m2; have n3 := cell_keep' hb m3; have n4 := cell_keep' hb m4; clear m0 m1 m2 m3 m4; have HB3 := Lib.hid (HB2.out.trans (hb.mono HB2.out.size)); clear hb) | (go_at_call 19; (with_reducible refine (HVL.out _ HB3.out).mono ?_); rintro e w4 ⟨rfl, hb⟩; have p0 := cell_keep' hb n0; have p1 := cell_keep' hb n1; have p2 := cell_keep' hb n2; have p3 := cell_keep' hb n3; have p4 := cell_keep' hb n4; clear n0 n1 n2 n3 n4; have HB4 := Lib.hid (HB3.out.trans (hb.mono HB3.out.size)); clear hb) | (go_at_call 20; (with_reducible refine (HSV.out _ HB4.out).mono ?_); rintro e w5 ⟨rfl, hb⟩; have q0 := cell_keep' hb p0; have q1 := cell_keep' hb p1; have q2 := cell_keep' hb p2; have q3 := cell_keep' hb p3; have q4 := cell_keep' hb p4; clear p0 p1 p2 p3 p4; have HB5 := Lib.hid (HB4.out.trans (hb.mono HB4.out.size)); clear hb))
  go_upto_region 10 with (first | (go_at_call 54; (with_reducible refine (HCP.out _ HB5.out).mono ?_); rintro e w6 ⟨c6, rfl, hc, hb⟩; have HC6 := Lib.hid hc; have x0 := cell_keep' hb q0; have x1 := cell_keep' hb q1; have x2 := cell_keep' hb q2; have x3 := cell_keep' hb q3; have x4 := cell_keep' hb q4; clear q0 q1 q2 q3 q4; have HB6 := Lib.hid (HB5.out.trans (hb.mono HB5.out.size)); clear hb hc) | (go_at_call 23; (with_reducible refine (HTB.out _ HB6.out).mono ?_); rintro e w7 ⟨tb, rfl, ht, hb⟩; have HT := Lib.hid ht; have HBt := Lib.hid hb; have y0 := cell_keep' hb x0; have y1 := cell_keep' hb x1; have y2 := cell_keep' hb x2; have y3 := cell_keep' hb x3; have y4 := cell_keep' hb x4; clear x0 x1 x2 x3 x4; have HB7 := Lib.hid (HB6.out.trans (hb.mono HB6.out.size)); clear hb ht) | (go_at_call 58; (with_reducible refine (HC6.out _ _ HBt.out HT.out).mono ?_); rintro e w8 ⟨rfl, hb⟩; have z0 := cell_keep' hb y0; have z1 := cell_keep' hb y1; have z2 := cell_keep' hb y2; have z3 := cell_keep' hb y3; have z4 := cell_keep' hb y4; clear y0 y1 y2 y3 y4; have HB8 := Lib.hid (HB7.out.trans (hb.mono HB7.out.size)); clear hb))
  have HB9 := Lib.hid (below_alloc HB8.out (.cells #[I 0, I 0, .slice none 0 0] 24))
  have HF0 : Hid ((w8.alloc (.cells #[I 0, I 0, .slice none 0 0] 24)).heap[w8.heap.size]? = some (.cells #[I 0, I 0, .slice none 0 0] 24 (0, 0))) := Lib.hid (blk_new _ _)
  have u0 := cell_alloc z0 (.cells #[I 0, I 0, .slice none 0 0] 24)
  have u1 := cell_alloc z1 (.cells #[I 0, I 0, .slice none 0 0] 24)
  have u2 := cell_alloc z2 (.cells #[I 0, I 0, .slice none 0 0] 24)
  have u3 := cell_alloc z3 (.cells #[I 0, I 0, .slice none 0 0] 24)
  have u4 := cell_alloc z4 (.cells #[I 0, I 0, .slice none 0 0] 24)
  clear z0 z1 z2 z3 z4
  generalize w8.alloc (.cells #[I 0, I 0, .slice none 0 0] 24) = w9 at *
  generalize w8.heap.size = gb at *
  have f0 : w9.cell? ⟨gb, 0, none⟩ = some (I 0) := (blk_cell HF0.out 0).trans rfl
  have f1 : w9.cell? ⟨gb, 1, none⟩ = some (I 0) := (blk_cell HF0.out 1).trans rfl
  have f2 : w9.cell? ⟨gb, 2, none⟩ = some (.slice none 0 0) := (blk_cell HF0.out 2).trans rfl
  go_wp2_with (first | (go_at_call 30; (with_reducible refine (same_none _).mono ?_); rintro e w10 ⟨rfl, hb⟩; have HB10 := Lib.hid (HB9.out.trans (hb.mono HB9.out.size)); clear hb) | (go_at_call 21; (with_reducible refine (HAW.out _).mono ?_); rintro e w11 ⟨rfl, hb⟩; have HB11 := Lib.hid (HB10.out.trans (hb.mono HB10.out.size)); clear hb))
  go_ret
  exact ⟨rfl, HB11.out⟩
set_option maxHeartbeats 8000000 in
set_option maxRecDepth 100000 in
theorem to_size {W : World} {lf : Bool} {v pl : Int} {la lk : Nat} {A3 A4 ta : Option Addr} {c3 c4 len tc : Nat} {ni : Int} {TB : World → Value → Prop} (HHV : ∀ W', Below W.heap.size W W' → Calls Try.prog 18 #[.agg #[.bool lf, I v, I pl, .slice A3 la c3, .slice A4 lk c4]] W' fun e W'' => e = .returned (.bool false) ∧ Below W'.heap.size W' W'') {P : Int} (hP : wrap64 ((len : Int) * (len : Int)) = P) (h1 : ¬ (300000 : Int) < P) (HRI : ∀ W', Below W.heap.size W W' → Calls Try.prog 17 #[.slice ta len tc] W' fun e W'' => e = .returned (I ni) ∧ Below W'.heap.size W' W'') (h2 : decide (ni < 1) = false) (HVL : ∀ W', Below W.heap.size W W' → Calls Try.prog 19 #[.agg #[.bool lf, I v, I pl, .slice A3 la c3, .slice A4 lk c4], I ni] W' fun e W'' => e = .returned (.bool true) ∧ Below W'.heap.size W' W'') (HSV : ∀ W', Below W.heap.size W W' → Calls Try.prog 20 #[.agg #[.bool lf, I v, I pl, .slice A3 la c3, .slice A4 lk c4], .slice ta len tc] W' fun e W'' => e = .returned (.bool true) ∧ Below W'.heap.size W' W'') {lv : Int} (HLV : ∀ W', Below W.heap.size W W' → Calls Try.prog 49 #[.agg #[.bool lf, I v, I pl, .slice A3 la c3, .slice A4 lk c4]] W' fun e W'' => e = .returned (I lv) ∧ Below W'.heap.size W' W'') (h3 : (6000 : Int) < lv) (HCP : ∀ W', Below W.heap.size W W' → Calls Try.prog 54 #[.agg #[.bool lf, I v, I pl, .slice A3 la c3, .slice A4 lk c4]] W' fun e W'' => ∃ c, e = .returned c ∧ Cp2 W'' c TB (TfZ 5) ∧ Below W'.heap.size W' W'') (HTB : ∀ W', Below W.heap.size W W' → Calls Try.prog 23 #[.slice ta len tc] W' fun e W'' => ∃ tb, e = .returned tb ∧ TB W'' tb ∧ Below W'.heap.size W' W'') : Calls Try.prog 10 #[.agg #[.bool lf, I v, I pl, .slice A3 la c3, .slice A4 lk c4], .slice ta len tc] W fun e W' => e = .returned (.bool true) ∧ Below W.heap.size W W' := by
  unfold TfZ at HCP
  unfold Cp2 at HCP
  replace HHV := Lib.hid HHV
  replace HRI := Lib.hid HRI
  replace HCP := Lib.hid HCP
  replace HTB := Lib.hid HTB
  replace HVL := Lib.hid HVL
  replace HSV := Lib.hid HSV
  replace HLV := Lib.hid HLV
  obtain ⟨W1, hW1⟩ : ∃ W1, W1 = W.alloc (.cells #[.bool lf, I v, I pl, .slice A3 la c3, .slice A4 lk c4] 32) := ⟨_, rfl⟩
  have HB1 : Hid (Below W.heap.size W W1) := Lib.hid (by rw [hW1]; exact below_alloc (Below.refl _ _) _)
  have BK : W1.heap[W.heap.size]? = some (.cells #[.bool lf, I v, I pl, .slice A3 la c3, .slice A4 lk c4] 32 (0, 0)) := by rw [hW1]; exact blk_new _ _
  have k0 : W1.cell? ⟨W.heap.size, 0, none⟩ = some (.bool lf) := (blk_cell BK 0).trans rfl
  have k1 : W1.cell? ⟨W.heap.size, 1, none⟩ = some (I v) := (blk_cell BK 1).trans rfl
  have k2 : W1.cell? ⟨W.heap.size, 2, none⟩ = some (I pl) := (blk_cell BK 2).trans rfl
  have k3 : W1.cell? ⟨W.heap.size, 3, none⟩ = some (.slice A3 la c3) := (blk_cell BK 3).trans rfl
  have k4 : W1.cell? ⟨W.heap.size, 4, none⟩ = some (.slice A4 lk c4) := (blk_cell BK 4).trans rfl
  clear BK
  have HAW := Lib.hid awake_any
  go_enter Try.func10, Try.ntmps10
  go_upto_region 1 with fail
  rw [← hW1]
  clear hW1
  go_upto_region 9 with (first | (go_at_call 18; (with_reducible refine (HHV.out _ HB1.out).mono ?_); rintro e w2 ⟨rfl, hb⟩; have m0 := cell_keep' hb k0; have m1 := cell_keep' hb k1; have m2 := cell_keep' hb k2; have m3 := cell_keep' hb k3; have m4 := cell_keep' hb k4; clear k0 k1 k2 k3 k4; have HB2 := Lib.hid (HB1.out.trans (hb.mono HB1.out.size)); clear hb) | (go_at_call 17; (with_reducible refine (HRI.out _ HB2.out).mono ?_); rintro e w3 ⟨rfl, hb⟩; have n0 := cell_keep' hb m0; have n1 := cell_keep' hb m1; have n2 := cell_keep' hb m2; have n3 := cell_keep' hb m3; have n4 := cell_keep' hb m4; clear m0 m1 m2 m3 m4; have HB3 := Lib.hid (HB2.out.trans (hb.mono HB2.out.size)); clear hb) | (go_at_call 19; (with_reducible refine (HVL.out _ HB3.out).mono ?_); rintro e w4 ⟨rfl, hb⟩; have p0 := cell_keep' hb n0; have p1 := cell_keep' hb n1; have p2 := cell_keep' hb n2; have p3 := cell_keep' hb n3; have p4 := cell_keep' hb n4; clear n0 n1 n2 n3 n4; have HB4 := Lib.hid (HB3.out.trans (hb.mono HB3.out.size)); clear hb) | (go_at_call 20; (with_reducible refine (HSV.out _ HB4.out).mono ?_); rintro e w5 ⟨rfl, hb⟩; have q0 := cell_keep' hb p0; have q1 := cell_keep' hb p1; have q2 := cell_keep' hb p2; have q3 := cell_keep' hb p3; have q4 := cell_keep' hb p4; clear p0 p1 p2 p3 p4; have HB5 := Lib.hid (HB4.out.trans (hb.mono HB4.out.size)); clear hb))
  go_upto_region 10 with (first | (go_at_call 54; (with_reducible refine (HCP.out _ HB5.out).mono ?_); rintro e w6 ⟨c6, rfl, hc, hb⟩; have HC6 := Lib.hid hc; have x0 := cell_keep' hb q0; have x1 := cell_keep' hb q1; have x2 := cell_keep' hb q2; have x3 := cell_keep' hb q3; have x4 := cell_keep' hb q4; clear q0 q1 q2 q3 q4; have HB6 := Lib.hid (HB5.out.trans (hb.mono HB5.out.size)); clear hb hc) | (go_at_call 23; (with_reducible refine (HTB.out _ HB6.out).mono ?_); rintro e w7 ⟨tb, rfl, ht, hb⟩; have HT := Lib.hid ht; have HBt := Lib.hid hb; have y0 := cell_keep' hb x0; have y1 := cell_keep' hb x1; have y2 := cell_keep' hb x2; have y3 := cell_keep' hb x3; have y4 := cell_keep' hb x4; clear x0 x1 x2 x3 x4; have HB7 := Lib.hid (HB6.out.trans (hb.mono HB6.out.size)); clear hb ht) | (go_at_call 58; (with_reducible refine (HC6.out _ _ HBt.out HT.out).mono ?_); rintro e w8 ⟨rfl, hb⟩; have z0 := cell_keep' hb y0; have z1 := cell_keep' hb y1; have z2 := cell_keep' hb y2; have z3 := cell_keep' hb y3; have z4 := cell_keep' hb y4; clear y0 y1 y2 y3 y4; have HB8 := Lib.hid (HB7.out.trans (hb.mono HB7.out.size)); clear hb))
  have HB9 := Lib.hid (below_alloc HB8.out (.cells #[I 0, I 0, .slice none 0 0] 24))
  have HF0 : Hid ((w8.alloc (.cells #[I 0, I 0, .slice none 0 0] 24)).heap[w8.heap.size]? = some (.cells #[I 0, I 0, .slice none 0 0] 24 (0, 0))) := Lib.hid (blk_new _ _)
  have u0 := cell_alloc z0 (.cells #[I 0, I 0, .slice none 0 0] 24)
  have u1 := cell_alloc z1 (.cells #[I 0, I 0, .slice none 0 0] 24)
  have u2 := cell_alloc z2 (.cells #[I 0, I 0, .slice none 0 0] 24)
  have u3 := cell_alloc z3 (.cells #[I 0, I 0, .slice none 0 0] 24)
  have u4 := cell_alloc z4 (.cells #[I 0, I 0, .slice none 0 0] 24)
  clear z0 z1 z2 z3 z4
  generalize w8.alloc (.cells #[I 0, I 0, .slice none 0 0] 24) = w9 at *
  generalize w8.heap.size = gb at *
  have f0 : w9.cell? ⟨gb, 0, none⟩ = some (I 0) := (blk_cell HF0.out 0).trans rfl
  have f1 : w9.cell? ⟨gb, 1, none⟩ = some (I 0) := (blk_cell HF0.out 1).trans rfl
  have f2 : w9.cell? ⟨gb, 2, none⟩ = some (.slice none 0 0) := (blk_cell HF0.out 2).trans rfl
  go_wp2_with (first | (go_at_call 49; (with_reducible refine (HLV.out _ HB9.out).mono ?_); rintro e w10 ⟨rfl, hb⟩; have f0' := cell_keep' hb f0; have f1' := cell_keep' hb f1; have f2' := cell_keep' hb f2; clear f0 f1 f2; have HB10 := Lib.hid (HB9.out.trans (hb.mono HB9.out.size)); clear hb) | (go_at_call 30; (with_reducible refine (same_none _).mono ?_); rintro e w11 ⟨rfl, hb⟩; have HB11 := Lib.hid (HB10.out.trans (hb.mono HB10.out.size)); clear hb) | (go_at_call 21; (with_reducible refine (HAW.out _).mono ?_); rintro e w12 ⟨rfl, hb⟩; have HB12 := Lib.hid (HB11.out.trans (hb.mono HB11.out.size)); clear hb))
  go_ret
  exact ⟨rfl, HB12.out⟩
/-- what the formula answers -/
structure Fr2 (W : World) (t : Fx) (ni vi df sf : Int) (tv : Value) : Prop where
  c31 : ∀ w x y z, Below W.heap.size W w → Fm w t [x, y, z] → Calls Try.prog 31 #[.agg #[x, y, z]] w fun e w' => e = .returned (.bool true) ∧ Below w.heap.size w w'
  c32 : ∀ w x y z, Below W.heap.size W w → Fm w t [x, y, z] → Calls Try.prog 32 #[.agg #[x, y, z], I 5] w fun e w' => e = .returned (.bool false) ∧ Below w.heap.size w w'
  c16 : ∀ w x y z, Below W.heap.size W w → Fm w t [x, y, z] → Calls Try.prog 16 #[.agg #[x, y, z]] w fun e w' => e = .returned (I vi) ∧ Below w.heap.size w w'
  c45 : ∀ w x y z, Below W.heap.size W w → Fm w t [x, y, z] → Calls Try.prog 45 #[.agg #[x, y, z]] w fun e w' => e = .returned (I df) ∧ Below w.heap.size w w'
  c33 : ∀ w x y z, Below W.heap.size W w → Fm w t [x, y, z] → Calls Try.prog 33 #[.agg #[x, y, z]] w fun e w' => e = .returned (I sf) ∧ Below w.heap.size w w'
  c35 : ∀ w x y z, Below W.heap.size W w → Fm w t [x, y, z] → Calls Try.prog 35 #[.agg #[x, y, z], I ni] w fun e w' => ∃ u, e = .returned u ∧ (∀ w3, Below w'.heap.size w' w3 → Calls Try.prog 34 #[u, tv] w3 fun e w4 => e = .returned (.bool true) ∧ Below w3.heap.size w3 w4) ∧ Below w.heap.size w w'
set_option maxHeartbeats 8000000 in
set_option maxRecDepth 100000 in
theorem to_ok {W : World} {lf : Bool} {v pl : Int} {la lk : Nat} {A3 A4 ta : Option Addr} {c3 c4 len tc : Nat} {ni lv dp vi df sf : Int} {t : Fx} {TB : World → Value → Prop} (HHV : ∀ W', Below W.heap.size W W' → Calls Try.prog 18 #[.agg #[.bool lf, I v, I pl, .slice A3 la c3, .slice A4 lk c4]] W' fun e W'' => e = .returned (.bool false) ∧ Below W'.heap.size W' W'') {P : Int} (hP : wrap64 ((len : Int) * (len : Int)) = P) (h1 : ¬ (300000 : Int) < P) (HRI : ∀ W', Below W.heap.size W W' → Calls Try.prog 17 #[.slice ta len tc] W' fun e W'' => e = .returned (I ni) ∧ Below W'.heap.size W' W'') (h2 : decide (ni < 1) = false) (HVL : ∀ W', Below W.heap.size W W' → Calls Try.prog 19 #[.agg #[.bool lf, I v, I pl, .slice A3 la c3, .slice A4 lk c4], I ni] W' fun e W'' => e = .returned (.bool true) ∧ Below W'.heap.size W' W'') (HSV : ∀ W', Below W.heap.size W W' → Calls Try.prog 20 #[.agg #[.bool lf, I v, I pl, .slice A3 la c3, .slice A4 lk c4], .slice ta len tc] W' fun e W'' => e = .returned (.bool true) ∧ Below W'.heap.size W' W'') (HLV : ∀ W', Below W.heap.size W W' → Calls Try.prog 49 #[.agg #[.bool lf, I v, I pl, .slice A3 la c3, .slice A4 lk c4]] W' fun e W'' => e = .returned (I lv) ∧ Below W'.heap.size W' W'') (HDP : ∀ W', Below W.heap.size W W' → Calls Try.prog 24 #[.agg #[.bool lf, I v, I pl, .slice A3 la c3, .slice A4 lk c4]] W' fun e W'' => e = .returned (I dp) ∧ Below W'.heap.size W' W'') (HFR : Fr2 W t ni vi df sf (.slice ta len tc)) (h3 : decide (vi ≤ ni) = true) (h4 : decide (df ≤ dp) = true) (h5 : decide (sf ≤ lv) = true) (h6 : (1 : Int) ≤ lv) (HCP : ∀ W', Below W.heap.size W W' → Calls Try.prog 54 #[.agg #[.bool lf, I v, I pl, .slice A3 la c3, .slice A4 lk c4]] W' fun e W'' => ∃ c, e = .returned c ∧ Cp2 W'' c TB (fun W' => TfR W' t) ∧ Below W'.heap.size W' W'') (HTB : ∀ W', Below W.heap.size W W' → Calls Try.prog 23 #[.slice ta len tc] W' fun e W'' => ∃ tb, e = .returned tb ∧ TB W'' tb ∧ Below W'.heap.size W' W'') : Calls Try.prog 10 #[.agg #[.bool lf, I v, I pl, .slice A3 la c3, .slice A4 lk c4], .slice ta len tc] W fun e W' => e = .returned (.bool true) ∧ Below W.heap.size W W' := by
  unfold TfR Cp2 at HCP
  replace HHV := Lib.hid HHV
  replace HRI := Lib.hid HRI
  replace HCP := Lib.hid HCP
  replace HTB := Lib.hid HTB
  replace HVL := Lib.hid HVL
  replace HSV := Lib.hid HSV
  replace HLV := Lib.hid HLV
  replace HDP := Lib.hid HDP
  replace HFR := Lib.hid HFR
  obtain ⟨W1, hW1⟩ : ∃ W1, W1 = W.alloc (.cells #[.bool lf, I v, I pl, .slice A3 la c3, .slice A4 lk c4] 32) := ⟨_, rfl⟩
  have HB1 : Hid (Below W.heap.size W W1) := Lib.hid (by rw [hW1]; exact below_alloc (Below.refl _ _) _)
  have BK : W1.heap[W.heap.size]? = some (.cells #[.bool lf, I v, I pl, .slice A3 la c3, .slice A4 lk c4] 32 (0, 0)) := by rw [hW1]; exact blk_new _ _
  have k0 : W1.cell? ⟨W.heap.size, 0, none⟩ = some (.bool lf) := (blk_cell BK 0).trans rfl
  have k1 : W1.cell? ⟨W.heap.size, 1, none⟩ = some (I v) := (blk_cell BK 1).trans rfl
  have k2 : W1.cell? ⟨W.heap.size, 2, none⟩ = some (I pl) := (blk_cell BK 2).trans rfl
  have k3 : W1.cell? ⟨W.heap.size, 3, none⟩ = some (.slice A3 la c3) := (blk_cell BK 3).trans rfl
  have k4 : W1.cell? ⟨W.heap.size, 4, none⟩ = some (.slice A4 lk c4) := (blk_cell BK 4).trans rfl
  clear BK
  have HAW := Lib.hid awake_any
  go_enter Try.func10, Try.ntmps10
  go_upto_region 1 with fail
  rw [← hW1]
  clear hW1
  go_upto_region 9 with (first | (go_at_call 18; (with_reducible refine (HHV.out _ HB1.out).mono ?_); rintro e w2 ⟨rfl, hb⟩; have m0 := cell_keep' hb k0; have m1 := cell_keep' hb k1; have m2 := cell_keep' hb k2; have m3 := cell_keep' hb k3; have m4 := cell_keep' hb k4; clear k0 k1 k2 k3 k4; have HB2 := Lib.hid (HB1.out.trans (hb.mono HB1.out.size)); clear hb) | (go_at_call 17; (with_reducible refine (HRI.out _ HB2.out).mono ?_); rintro e w3 ⟨rfl, hb⟩; have n0 := cell_keep' hb m0; have n1 := cell_keep' hb m1; have n2 := cell_keep' hb m2; have n3 := cell_keep' hb m3; have n4 := cell_keep' hb m4; clear m0 m1 m2 m3 m4; have HB3 := Lib.hid (HB2.out.trans (hb.mono HB2.out.size)); clear hb) | (go_at_call 19; (with_reducible refine (HVL.out _ HB3.out).mono ?_); rintro e w4 ⟨rfl, hb⟩; have p0 := cell_keep' hb n0; have p1 := cell_keep' hb n1; have p2 := cell_keep' hb n2; have p3 := cell_keep' hb n3; have p4 := cell_keep' hb n4; clear n0 n1 n2 n3 n4; have HB4 := Lib.hid (HB3.out.trans (hb.mono HB3.out.size)); clear hb) | (go_at_call 20; (with_reducible refine (HSV.out _ HB4.out).mono ?_); rintro e w5 ⟨rfl, hb⟩; have q0 := cell_keep' hb p0; have q1 := cell_keep' hb p1; have q2 := cell_keep' hb p2; have q3 := cell_keep' hb p3; have q4 := cell_keep' hb p4; clear p0 p1 p2 p3 p4; have HB5 := Lib.hid (HB4.out.trans (hb.mono HB4.out.size)); clear hb))
  go_upto_region 10 with (first | (go_at_call 54; (with_reducible refine (HCP.out _ HB5.out).mono ?_); rintro e w6 ⟨c6, rfl, hc, hb⟩; have HC6 := Lib.hid hc; have x0 := cell_keep' hb q0; have x1 := cell_keep' hb q1; have x2 := cell_keep' hb q2; have x3 := cell_keep' hb q3; have x4 := cell_keep' hb q4; clear q0 q1 q2 q3 q4; have HB6 := Lib.hid (HB5.out.trans (hb.mono HB5.out.size)); clear hb hc) | (go_at_call 23; (with_reducible refine (HTB.out _ HB6.out).mono ?_); rintro e w7 ⟨tb, rfl, ht, hb⟩; have HT := Lib.hid ht; have HBt := Lib.hid hb; have y0 := cell_keep' hb x0; have y1 := cell_keep' hb x1; have y2 := cell_keep' hb x2; have y3 := cell_keep' hb x3; have y4 := cell_keep' hb x4; clear x0 x1 x2 x3 x4; have HB7 := Lib.hid (HB6.out.trans (hb.mono HB6.out.size)); clear hb ht) | (go_at_call 58; (with_reducible refine (HC6.out _ _ HBt.out HT.out).mono ?_); rintro e w8 ⟨fx, fy, fz, rfl, hfm, hb⟩; obtain ⟨qk, qn, qA, ql, qc, he⟩ := hfm.three; (simp only [List.cons.injEq, and_true] at he); obtain ⟨rfl, rfl, rfl⟩ := he; have HFM := Lib.hid hfm; have z0 := cell_keep' hb y0; have z1 := cell_keep' hb y1; have z2 := cell_keep' hb y2; have z3 := cell_keep' hb y3; have z4 := cell_keep' hb y4; clear y0 y1 y2 y3 y4; have HB8 := Lib.hid (HB7.out.trans (hb.mono HB7.out.size)); clear hb hfm))
  have HB9 := Lib.hid (below_alloc HB8.out (.cells #[I qk, I qn, .slice qA ql qc] 24))
  have HF0 : Hid ((w8.alloc (.cells #[I qk, I qn, .slice qA ql qc] 24)).heap[w8.heap.size]? = some (.cells #[I qk, I qn, .slice qA ql qc] 24 (0, 0))) := Lib.hid (blk_new _ _)
  replace HFM := Lib.hid (HFM.out.keep ((Below.refl w8.heap.size w8).alloc (Nat.le_refl _) (.cells #[I qk, I qn, .slice qA ql qc] 24)))
  have u0 := cell_alloc z0 (.cells #[I qk, I qn, .slice qA ql qc] 24)
  have u1 := cell_alloc z1 (.cells #[I qk, I qn, .slice qA ql qc] 24)
  have u2 := cell_alloc z2 (.cells #[I qk, I qn, .slice qA ql qc] 24)
  have u3 := cell_alloc z3 (.cells #[I qk, I qn, .slice qA ql qc] 24)
  have u4 := cell_alloc z4 (.cells #[I qk, I qn, .slice qA ql qc] 24)
  clear z0 z1 z2 z3 z4
  generalize w8.alloc (.cells #[I qk, I qn, .slice qA ql qc] 24) = w9 at *
  generalize w8.heap.size = gb at *
  have f0 : w9.cell? ⟨gb, 0, none⟩ = some (I qk) := (blk_cell HF0.out 0).trans rfl
  have f1 : w9.cell? ⟨gb, 1, none⟩ = some (I qn) := (blk_cell HF0.out 1).trans rfl
  have f2 : w9.cell? ⟨gb, 2, none⟩ = some (.slice qA ql qc) := (blk_cell HF0.out 2).trans rfl
  have HG9 : Hid (Below w9.heap.size w9 w9) := Lib.hid (Below.refl _ _)
  have HF := Lib.hid (fun (w' : World) (h : Below w9.heap.size w9 w') => HFM.out.keep h)
  have hmx : (1 : Int) < lv ∨ lv = 1 := by omega
  clear h6
  rcases hmx with h7 | rfl
  · go_upto_region 14 with fail
    go_region_held3 (fun wh => wh.cell? ⟨W.heap.size, 0, none⟩ = some (.bool lf) ∧ wh.cell? ⟨W.heap.size, 1, none⟩ = some (I v) ∧ wh.cell? ⟨W.heap.size, 2, none⟩ = some (I pl) ∧ wh.cell? ⟨W.heap.size, 3, none⟩ = some (.slice A3 la c3) ∧ wh.cell? ⟨W.heap.size, 4, none⟩ = some (.slice A4 lk c4) ∧ wh.cell? ⟨gb, 0, none⟩ = some (I qk) ∧ wh.cell? ⟨gb, 1, none⟩ = some (I qn) ∧ wh.cell? ⟨gb, 2, none⟩ = some (.slice qA ql qc)) (first | exact ⟨u0, u1, u2, u3, u4, f0, f1, f2⟩ | exact ⟨ua0, ua1, ua2, ua3, ua4, fa0, fa1, fa2⟩ | exact ⟨ub0, ub1, ub2, ub3, ub4, fb0, fb1, fb2⟩ | exact ⟨uc0, uc1, uc2, uc3, uc4, fc0, fc1, fc2⟩ | exact ⟨ud0, ud1, ud2, ud3, ud4, fd0, fd1, fd2⟩ | exact ⟨ue0, ue1, ue2, ue3, ue4, fe0, fe1, fe2⟩ | exact ⟨uf0, uf1, uf2, uf3, uf4, ff0, ff1, ff2⟩ | exact ⟨ug0, ug1, ug2, ug3, ug4, fg0, fg1, fg2⟩ | exact ⟨uh0, uh1, uh2, uh3, uh4, fh0, fh1, fh2⟩ | exact ⟨ui0, ui1, ui2, ui3, ui4, fi0, fi1, fi2⟩ | exact ⟨uj0, uj1, uj2, uj3, uj4, fj0, fj1, fj2⟩ | go_keep) (first | (go_at_call 21; (with_reducible refine (HAW.out _).mono ?_); rintro e w19 ⟨rfl, hb⟩; have uj0 := cell_keep' hb ui0; have uj1 := cell_keep' hb ui1; have uj2 := cell_keep' hb ui2; have uj3 := cell_keep' hb ui3; have uj4 := cell_keep' hb ui4; have fj0 := cell_keep' hb fi0; have fj1 := cell_keep' hb fi1; have fj2 := cell_keep' hb fi2; have HB19 := Lib.hid (HB18.out.trans (hb.mono HB18.out.size)); have HG19 := Lib.hid (HG18.out.trans (hb.mono HG18.out.size)); clear hb) | (go_at_call 34; (with_reducible refine (HEQ.out _ (Below.refl _ _)).mono ?_); rintro e w18 ⟨rfl, hb⟩; have ui0 := cell_keep' hb uh0; have ui1 := cell_keep' hb uh1; have ui2 := cell_keep' hb uh2; have ui3 := cell_keep' hb uh3; have ui4 := cell_keep' hb uh4; have fi0 := cell_keep' hb fh0; have fi1 := cell_keep' hb fh1; have fi2 := cell_keep' hb fh2; have HB18 := Lib.hid (HB17.out.trans (hb.mono HB17.out.size)); have HG18 := Lib.hid (HG17.out.trans (hb.mono HG17.out.size)); clear hb) | (go_at_call 35; (with_reducible refine (HFR.out.c35 _ _ _ _ HB16.out (HF.out _ HG16.out)).mono ?_); rintro e w17 ⟨tu, rfl, heq, hb⟩; have uh0 := cell_keep' hb ug0; have uh1 := cell_keep' hb ug1; have uh2 := cell_keep' hb ug2; have uh3 := cell_keep' hb ug3; have uh4 := cell_keep' hb ug4; have fh0 := cell_keep' hb fg0; have fh1 := cell_keep' hb fg1; have fh2 := cell_keep' hb fg2; have HB17 := Lib.hid (HB16.out.trans (hb.mono HB16.out.size)); have HG17 := Lib.hid (HG16.out.trans (hb.mono HG16.out.size)); have HEQ := Lib.hid heq; clear heq; clear hb) | (go_at_call 49; (with_reducible refine (HLV.out _ HB15.out).mono ?_); rintro e w16 ⟨rfl, hb⟩; have ug0 := cell_keep' hb uf0; have ug1 := cell_keep' hb uf1; have ug2 := cell_keep' hb uf2; have ug3 := cell_keep' hb uf3; have ug4 := cell_keep' hb uf4; have fg0 := cell_keep' hb ff0; have fg1 := cell_keep' hb ff1; have fg2 := cell_keep' hb ff2; have HB16 := Lib.hid (HB15.out.trans (hb.mono HB15.out.size)); have HG16 := Lib.hid (HG15.out.trans (hb.mono HG15.out.size)); clear hb) | (go_at_call 33; (with_reducible refine (HFR.out.c33 _ _ _ _ HB14.out (HF.out _ HG14.out)).mono ?_); rintro e w15 ⟨rfl, hb⟩; have uf0 := cell_keep' hb ue0; have uf1 := cell_keep' hb ue1; have uf2 := cell_keep' hb ue2; have uf3 := cell_keep' hb ue3; have uf4 := cell_keep' hb ue4; have ff0 := cell_keep' hb fe0; have ff1 := cell_keep' hb fe1; have ff2 := cell_keep' hb fe2; have HB15 := Lib.hid (HB14.out.trans (hb.mono HB14.out.size)); have HG15 := Lib.hid (HG14.out.trans (hb.mono HG14.out.size)); clear hb) | (go_at_call 24; (with_reducible refine (HDP.out _ HB13.out).mono ?_); rintro e w14 ⟨rfl, hb⟩; have ue0 := cell_keep' hb ud0; have ue1 := cell_keep' hb ud1; have ue2 := cell_keep' hb ud2; have ue3 := cell_keep' hb ud3; have ue4 := cell_keep' hb ud4; have fe0 := cell_keep' hb fd0; have fe1 := cell_keep' hb fd1; have fe2 := cell_keep' hb fd2; have HB14 := Lib.hid (HB13.out.trans (hb.mono HB13.out.size)); have HG14 := Lib.hid (HG13.out.trans (hb.mono HG13.out.size)); clear hb) | (go_at_call 45; (with_reducible refine (HFR.out.c45 _ _ _ _ HB12.out (HF.out _ HG12.out)).mono ?_); rintro e w13 ⟨rfl, hb⟩; have ud0 := cell_keep' hb uc0; have ud1 := cell_keep' hb uc1; have ud2 := cell_keep' hb uc2; have ud3 := cell_keep' hb uc3; have ud4 := cell_keep' hb uc4; have fd0 := cell_keep' hb fc0; have fd1 := cell_keep' hb fc1; have fd2 := cell_keep' hb fc2; have HB13 := Lib.hid (HB12.out.trans (hb.mono HB12.out.size)); have HG13 := Lib.hid (HG12.out.trans (hb.mono HG12.out.size)); clear hb) | (go_at_call 16; (with_reducible refine (HFR.out.c16 _ _ _ _ HB11.out (HF.out _ HG11.out)).mono ?_); rintro e w12 ⟨rfl, hb⟩; have uc0 := cell_keep' hb ub0; have uc1 := cell_keep' hb ub1; have uc2 := cell_keep' hb ub2; have uc3 := cell_keep' hb ub3; have uc4 := cell_keep' hb ub4; have fc0 := cell_keep' hb fb0; have fc1 := cell_keep' hb fb1; have fc2 := cell_keep' hb fb2; have HB12 := Lib.hid (HB11.out.trans (hb.mono HB11.out.size)); have HG12 := Lib.hid (HG11.out.trans (hb.mono HG11.out.size)); clear hb) | (go_at_call 32; (with_reducible refine (HFR.out.c32 _ _ _ _ HB10.out (HF.out _ HG10.out)).mono ?_); rintro e w11 ⟨rfl, hb⟩; have ub0 := cell_keep' hb ua0; have ub1 := cell_keep' hb ua1; have ub2 := cell_keep' hb ua2; have ub3 := cell_keep' hb ua3; have ub4 := cell_keep' hb ua4; have fb0 := cell_keep' hb fa0; have fb1 := cell_keep' hb fa1; have fb2 := cell_keep' hb fa2; have HB11 := Lib.hid (HB10.out.trans (hb.mono HB10.out.size)); have HG11 := Lib.hid (HG10.out.trans (hb.mono HG10.out.size)); clear hb) | (go_at_call 31; (with_reducible refine (HFR.out.c31 _ _ _ _ HB9.out.drew (HF.out _ HG9.out.drew)).mono ?_); rintro e w10 ⟨rfl, hb⟩; have ua0 := cell_keep' hb u0; have ua1 := cell_keep' hb u1; have ua2 := cell_keep' hb u2; have ua3 := cell_keep' hb u3; have ua4 := cell_keep' hb u4; have fa0 := cell_keep' hb f0; have fa1 := cell_keep' hb f1; have fa2 := cell_keep' hb f2; have HB10 := Lib.hid (HB9.out.drew.trans (hb.mono HB9.out.size)); have HG10 := Lib.hid (HG9.out.drew.trans (hb.mono HG9.out.size)); clear hb))
    go_wp2
    go_ret
    exact ⟨rfl, HB19.out⟩
  · go_upto_region 14 with fail
    go_region_held3 (fun wh => wh.cell? ⟨W.heap.size, 0, none⟩ = some (.bool lf) ∧ wh.cell? ⟨W.heap.size, 1, none⟩ = some (I v) ∧ wh.cell? ⟨W.heap.size, 2, none⟩ = some (I pl) ∧ wh.cell? ⟨W.heap.size, 3, none⟩ = some (.slice A3 la c3) ∧ wh.cell? ⟨W.heap.size, 4, none⟩ = some (.slice A4 lk c4) ∧ wh.cell? ⟨gb, 0, none⟩ = some (I qk) ∧ wh.cell? ⟨gb, 1, none⟩ = some (I qn) ∧ wh.cell? ⟨gb, 2, none⟩ = some (.slice qA ql qc)) (first | exact ⟨u0, u1, u2, u3, u4, f0, f1, f2⟩ | exact ⟨ua0, ua1, ua2, ua3, ua4, fa0, fa1, fa2⟩ | exact ⟨ub0, ub1, ub2, ub3, ub4, fb0, fb1, fb2⟩ | exact ⟨uc0, uc1, uc2, uc3, uc4, fc0, fc1, fc2⟩ | exact ⟨ud0, ud1, ud2, ud3, ud4, fd0, fd1, fd2⟩ | exact ⟨ue0, ue1, ue2, ue3, ue4, fe0, fe1, fe2⟩ | exact ⟨uf0, uf1, uf2, uf3, uf4, ff0, ff1, ff2⟩ | exact ⟨ug0, ug1, ug2, ug3, ug4, fg0, fg1, fg2⟩ | exact ⟨uh0, uh1, uh2, uh3, uh4, fh0, fh1, fh2⟩ | exact ⟨ui0, ui1, ui2, ui3, ui4, fi0, fi1, fi2⟩ | exact ⟨uj0, uj1, uj2, uj3, uj4, fj0, fj1, fj2⟩ | go_keep) (first | (go_at_call 21; (with_reducible refine (HAW.out _).mono ?_); rintro e w19 ⟨rfl, hb⟩; have uj0 := cell_keep' hb ui0; have uj1 := cell_keep' hb ui1; have uj2 := cell_keep' hb ui2; have uj3 := cell_keep' hb ui3; have uj4 := cell_keep' hb ui4; have fj0 := cell_keep' hb fi0; have fj1 := cell_keep' hb fi1; have fj2 := cell_keep' hb fi2; have HB19 := Lib.hid (HB18.out.trans (hb.mono HB18.out.size)); have HG19 := Lib.hid (HG18.out.trans (hb.mono HG18.out.size)); clear hb) | (go_at_call 34; (with_reducible refine (HEQ.out _ (Below.refl _ _)).mono ?_); rintro e w18 ⟨rfl, hb⟩; have ui0 := cell_keep' hb uh0; have ui1 := cell_keep' hb uh1; have ui2 := cell_keep' hb uh2; have ui3 := cell_keep' hb uh3; have ui4 := cell_keep' hb uh4; have fi0 := cell_keep' hb fh0; have fi1 := cell_keep' hb fh1; have fi2 := cell_keep' hb fh2; have HB18 := Lib.hid (HB17.out.trans (hb.mono HB17.out.size)); have HG18 := Lib.hid (HG17.out.trans (hb.mono HG17.out.size)); clear hb) | (go_at_call 35; (with_reducible refine (HFR.out.c35 _ _ _ _ HB16.out (HF.out _ HG16.out)).mono ?_); rintro e w17 ⟨tu, rfl, heq, hb⟩; have uh0 := cell_keep' hb ug0; have uh1 := cell_keep' hb ug1; have uh2 := cell_keep' hb ug2; have uh3 := cell_keep' hb ug3; have uh4 := cell_keep' hb ug4; have fh0 := cell_keep' hb fg0; have fh1 := cell_keep' hb fg1; have fh2 := cell_keep' hb fg2; have HB17 := Lib.hid (HB16.out.trans (hb.mono HB16.out.size)); have HG17 := Lib.hid (HG16.out.trans (hb.mono HG16.out.size)); have HEQ := Lib.hid heq; clear heq; clear hb) | (go_at_call 49; (with_reducible refine (HLV.out _ HB15.out).mono ?_); rintro e w16 ⟨rfl, hb⟩; have ug0 := cell_keep' hb uf0; have ug1 := cell_keep' hb uf1; have ug2 := cell_keep' hb uf2; have ug3 := cell_keep' hb uf3; have ug4 := cell_keep' hb uf4; have fg0 := cell_keep' hb ff0; have fg1 := cell_keep' hb ff1; have fg2 := cell_keep' hb ff2; have HB16 := Lib.hid (HB15.out.trans (hb.mono HB15.out.size)); have HG16 := Lib.hid (HG15.out.trans (hb.mono HG15.out.size)); clear hb) | (go_at_call 33; (with_reducible refine (HFR.out.c33 _ _ _ _ HB14.out (HF.out _ HG14.out)).mono ?_); rintro e w15 ⟨rfl, hb⟩; have uf0 := cell_keep' hb ue0; have uf1 := cell_keep' hb ue1; have uf2 := cell_keep' hb ue2; have uf3 := cell_keep' hb ue3; have uf4 := cell_keep' hb ue4; have ff0 := cell_keep' hb fe0; have ff1 := cell_keep' hb fe1; have ff2 := cell_keep' hb fe2; have HB15 := Lib.hid (HB14.out.trans (hb.mono HB14.out.size)); have HG15 := Lib.hid (HG14.out.trans (hb.mono HG14.out.size)); clear hb) | (go_at_call 24; (with_reducible refine (HDP.out _ HB13.out).mono ?_); rintro e w14 ⟨rfl, hb⟩; have ue0 := cell_keep' hb ud0; have ue1 := cell_keep' hb ud1; have ue2 := cell_keep' hb ud2; have ue3 := cell_keep' hb ud3; have ue4 := cell_keep' hb ud4; have fe0 := cell_keep' hb fd0; have fe1 := cell_keep' hb fd1; have fe2 := cell_keep' hb fd2; have HB14 := Lib.hid (HB13.out.trans (hb.mono HB13.out.size)); have HG14 := Lib.hid (HG13.out.trans (hb.mono HG13.out.size)); clear hb) | (go_at_call 45; (with_reducible refine (HFR.out.c45 _ _ _ _ HB12.out (HF.out _ HG12.out)).mono ?_); rintro e w13 ⟨rfl, hb⟩; have ud0 := cell_keep' hb uc0; have ud1 := cell_keep' hb uc1; have ud2 := cell_keep' hb uc2; have ud3 := cell_keep' hb uc3; have ud4 := cell_keep' hb uc4; have fd0 := cell_keep' hb fc0; have fd1 := cell_keep' hb fc1; have fd2 := cell_keep' hb fc2; have HB13 := Lib.hid (HB12.out.trans (hb.mono HB12.out.size)); have HG13 := Lib.hid (HG12.out.trans (hb.mono HG12.out.size)); clear hb) | (go_at_call 16; (with_reducible refine (HFR.out.c16 _ _ _ _ HB11.out (HF.out _ HG11.out)).mono ?_); rintro e w12 ⟨rfl, hb⟩; have uc0 := cell_keep' hb ub0; have uc1 := cell_keep' hb ub1; have uc2 := cell_keep' hb ub2; have uc3 := cell_keep' hb ub3; have uc4 := cell_keep' hb ub4; have fc0 := cell_keep' hb fb0; have fc1 := cell_keep' hb fb1; have fc2 := cell_keep' hb fb2; have HB12 := Lib.hid (HB11.out.trans (hb.mono HB11.out.size)); have HG12 := Lib.hid (HG11.out.trans (hb.mono HG11.out.size)); clear hb) | (go_at_call 32; (with_reducible refine (HFR.out.c32 _ _ _ _ HB10.out (HF.out _ HG10.out)).mono ?_); rintro e w11 ⟨rfl, hb⟩; have ub0 := cell_keep' hb ua0; have ub1 := cell_keep' hb ua1; have ub2 := cell_keep' hb ua2; have ub3 := cell_keep' hb ua3; have ub4 := cell_keep' hb ua4; have fb0 := cell_keep' hb fa0; have fb1 := cell_keep' hb fa1; have fb2 := cell_keep' hb fa2; have HB11 := Lib.hid (HB10.out.trans (hb.mono HB10.out.size)); have HG11 := Lib.hid (HG10.out.trans (hb.mono HG10.out.size)); clear hb) | (go_at_call 31; (with_reducible refine (HFR.out.c31 _ _ _ _ HB9.out.drew (HF.out _ HG9.out.drew)).mono ?_); rintro e w10 ⟨rfl, hb⟩; have ua0 := cell_keep' hb u0; have ua1 := cell_keep' hb u1; have ua2 := cell_keep' hb u2; have ua3 := cell_keep' hb u3; have ua4 := cell_keep' hb u4; have fa0 := cell_keep' hb f0; have fa1 := cell_keep' hb f1; have fa2 := cell_keep' hb f2; have HB10 := Lib.hid (HB9.out.drew.trans (hb.mono HB9.out.size)); have HG10 := Lib.hid (HG9.out.drew.trans (hb.mono HG9.out.size)); clear hb))
    go_wp2
    go_ret
    exact ⟨rfl, HB19.out⟩
end Go.Proofs.Ytpfbommaddaijaa

