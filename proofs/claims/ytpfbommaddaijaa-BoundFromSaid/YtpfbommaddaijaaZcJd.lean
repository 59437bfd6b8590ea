/- The law BoundFrom: the walk up to the answer. -/
import Derived.Test.YtpfbommaddaijaaZcJ9
import Derived.Test.YtpfbommaddaijaaZcx18
namespace Go.Proofs.Ytpfbommaddaijaa
open Go.RowKit Go.Proofs.YtpfbommaddaijaaW.PrintWords Go.Proofs.YtpfbommaddaijaaW.PrintLast PBoundTo
set_option linter.unusedVariables false
set_option linter.unusedSimpArgs false

set_option maxHeartbeats 4000000 in
set_option maxRecDepth 100000 in
theorem none_zero (W : World) : Calls Try.prog 48 #[pZero] W fun e w' => e = .returned (.bool true) ∧ Below W.heap.size W w' := by
  obtain ⟨W1, hW1⟩ : ∃ W1, W1 = W.alloc (.cells #[.bool false, I 0, I 0, .slice none 0 0, .slice none 0 0] 32) := ⟨_, rfl⟩
  have HB1 : Hid (Below W.heap.size W W1) := Lib.hid (by rw [hW1]; exact below_alloc (Below.refl _ _) _)
  have BK : W1.heap[W.heap.size]? = some (.cells #[.bool false, I 0, I 0, .slice none 0 0, .slice none 0 0] 32 (0, 0)) := by rw [hW1]; exact blk_new _ _
  have k0 : W1.cell? ⟨W.heap.size, 0, none⟩ = some (.bool false) := (blk_cell BK 0).trans rfl
  have k1 : W1.cell? ⟨W.heap.size, 1, none⟩ = some (I 0) := (blk_cell BK 1).trans rfl
  have k2 : W1.cell? ⟨W.heap.size, 2, none⟩ = some (I 0) := (blk_cell BK 2).trans rfl
  have k3 : W1.cell? ⟨W.heap.size, 3, none⟩ = some (.slice none 0 0) := (blk_cell BK 3).trans rfl
  have k4 : W1.cell? ⟨W.heap.size, 4, none⟩ = some (.slice none 0 0) := (blk_cell BK 4).trans rfl
  clear BK
  go_enter Try.func48, Try.ntmps48
  go_upto_region 1 with fail
  rw [← hW1]
  clear hW1
  go_wp2
  go_ret
  exact ⟨rfl, HB1.out⟩
/-- what a copy of the formula serves for -/
def Cp1 (w : World) (c : Value) (n : Int) (TF : World → Ending → World → Prop) : Prop := ∀ w', Below w.heap.size w w' → Calls Try.prog 46 #[c, I n] w' (TF w')
set_option maxHeartbeats 8000000 in
set_option maxRecDepth 100000 in
theorem from_great {W : World} {k m n : Int} {A : Option Addr} {l c : Nat} (HG : ∀ W', Below W.heap.size W W' → Calls Try.prog 42 #[.agg #[I k, I m, .slice A l c]] W' fun e W'' => e = .returned (.bool true) ∧ Below W'.heap.size W' W'') : Calls Try.prog 8 #[.agg #[I k, I m, .slice A l c], I n] W fun e W' => e = .returned (.bool true) ∧ Below W.heap.size W W' := by
  replace HG := Lib.hid HG
  obtain ⟨W1, hW1⟩ : ∃ W1, W1 = W.alloc (.cells #[I k, I m, .slice A l c] 24) := ⟨_, rfl⟩
  have HB1 : Hid (Below W.heap.size W W1) := Lib.hid (by rw [hW1]; exact below_alloc (Below.refl _ _) _)
  have BK : W1.heap[W.heap.size]? = some (.cells #[I k, I m, .slice A l c] 24 (0, 0)) := by rw [hW1]; exact blk_new _ _
  have k0 : W1.cell? ⟨W.heap.size, 0, none⟩ = some (I k) := (blk_cell BK 0).trans rfl
  have k1 : W1.cell? ⟨W.heap.size, 1, none⟩ = some (I m) := (blk_cell BK 1).trans rfl
  have k2 : W1.cell? ⟨W.heap.size, 2, none⟩ = some (.slice A l c) := (blk_cell BK 2).trans rfl
  clear BK
  have HAW := Lib.hid awake_any
  have HNZ := Lib.hid none_zero
  go_enter Try.func8, Try.ntmps8
  go_upto_region 1 with fail
  rw [← hW1]
  clear hW1
  go_wp2_with (first | (go_at_call 42; (with_reducible refine (HG.out _ HB1.out).mono ?_); rintro e w2 ⟨rfl, hb⟩; have m0 := cell_keep' hb k0; have m1 := cell_keep' hb k1; have m2 := cell_keep' hb k2; clear k0 k1 k2; have HB2 := Lib.hid (HB1.out.trans (hb.mono HB1.out.size)); clear hb) | (go_at_call 21; (with_reducible refine (HAW.out _).mono ?_); rintro e w3 ⟨rfl, hb⟩; have HB3 := Lib.hid (HB2.out.trans (hb.mono HB2.out.size)); clear hb))
  go_ret
  exact ⟨rfl, HB3.out⟩
set_option maxHeartbeats 8000000 in
set_option maxRecDepth 100000 in
theorem from_form {W : World} {k m n : Int} {A : Option Addr} {l c : Nat} (HG : ∀ W', Below W.heap.size W W' → Calls Try.prog 42 #[.agg #[I k, I m, .slice A l c]] W' fun e W'' => e = .returned (.bool false) ∧ Below W'.heap.size W' W'') (HV : ∀ W', Below W.heap.size W W' → Calls Try.prog 31 #[.agg #[I k, I m, .slice A l c]] W' fun e W'' => e = .returned (.bool false) ∧ Below W'.heap.size W' W'') (HCP : ∀ W', Below W.heap.size W W' → Calls Try.prog 47 #[.agg #[I k, I m, .slice A l c]] W' fun e W'' => ∃ c, e = .returned c ∧ Cp1 W'' c n (FfZ 1) ∧ Below W'.heap.size W' W'') : Calls Try.prog 8 #[.agg #[I k, I m, .slice A l c], I n] W fun e W' => e = .returned (.bool true) ∧ Below W.heap.size W W' := by
  unfold FfZ Cp1 at HCP
  replace HG := Lib.hid HG
  replace HV := Lib.hid HV
  replace HCP := Lib.hid HCP
  obtain ⟨W1, hW1⟩ : ∃ W1, W1 = W.alloc (.cells #[I k, I m, .slice A l c] 24) := ⟨_, rfl⟩
  have HB1 : Hid (Below W.heap.size W W1) := Lib.hid (by rw [hW1]; exact below_alloc (Below.refl _ _) _)
  have BK : W1.heap[W.heap.size]? = some (.cells #[I k, I m, .slice A l c] 24 (0, 0)) := by rw [hW1]; exact blk_new _ _
  have k0 : W1.cell? ⟨W.heap.size, 0, none⟩ = some (I k) := (blk_cell BK 0).trans rfl
  have k1 : W1.cell? ⟨W.heap.size, 1, none⟩ = some (I m) := (blk_cell BK 1).trans rfl
  have k2 : W1.cell? ⟨W.heap.size, 2, none⟩ = some (.slice A l c) := (blk_cell BK 2).trans rfl
  clear BK
  have HAW := Lib.hid awake_any
  have HNZ := Lib.hid none_zero
  go_enter Try.func8, Try.ntmps8
  go_upto_region 1 with fail
  rw [← hW1]
  clear hW1
  go_upto_region 9 with (first | (go_at_call 46; (with_reducible refine (HC.out _ (Below.refl _ _)).mono ?_); rintro e w5 ⟨rfl, hb⟩; have q0 := cell_keep' hb p0; have q1 := cell_keep' hb p1; have q2 := cell_keep' hb p2; clear p0 p1 p2; have HB5 := Lib.hid (HB4.out.trans (hb.mono HB4.out.size)); clear hb) | (go_at_call 47; (with_reducible refine (HCP.out _ HB3.out).mono ?_); rintro e w4 ⟨cc, rfl, hc, hb⟩; have HC := Lib.hid hc; have p0 := cell_keep' hb n0; have p1 := cell_keep' hb n1; have p2 := cell_keep' hb n2; clear n0 n1 n2; have HB4 := Lib.hid (HB3.out.trans (hb.mono HB3.out.size)); clear hb hc) | (go_at_call 31; (with_reducible refine (HV.out _ HB2.out).mono ?_); rintro e w3 ⟨rfl, hb⟩; have n0 := cell_keep' hb m0; have n1 := cell_keep' hb m1; have n2 := cell_keep' hb m2; clear m0 m1 m2; have HB3 := Lib.hid (HB2.out.trans (hb.mono HB2.out.size)); clear hb) | (go_at_call 42; (with_reducible refine (HG.out _ HB1.out).mono ?_); rintro e w2 ⟨rfl, hb⟩; have m0 := cell_keep' hb k0; have m1 := cell_keep' hb k1; have m2 := cell_keep' hb k2; clear k0 k1 k2; have HB2 := Lib.hid (HB1.out.trans (hb.mono HB1.out.size)); clear hb))
  have HB6 := Lib.hid (below_alloc HB5.out (.cells #[.bool false, I 0, I 0, .slice none 0 0, .slice none 0 0] 32))
  have HF0 : Hid ((w5.alloc (.cells #[.bool false, I 0, I 0, .slice none 0 0, .slice none 0 0] 32)).heap[w5.heap.size]? = some (.cells #[.bool false, I 0, I 0, .slice none 0 0, .slice none 0 0] 32 (0, 0))) := Lib.hid (blk_new _ _)
  have r0 := cell_alloc q0 (.cells #[.bool false, I 0, I 0, .slice none 0 0, .slice none 0 0] 32)
  have r1 := cell_alloc q1 (.cells #[.bool false, I 0, I 0, .slice none 0 0, .slice none 0 0] 32)
  have r2 := cell_alloc q2 (.cells #[.bool false, I 0, I 0, .slice none 0 0, .slice none 0 0] 32)
  clear q0 q1 q2
  generalize w5.alloc (.cells #[.bool false, I 0, I 0, .slice none 0 0, .slice none 0 0] 32) = w6 at *
  generalize w5.heap.size = gb at *
  have f0 : w6.cell? ⟨gb, 0, none⟩ = some (.bool false) := (blk_cell HF0.out 0).trans rfl
  have f1 : w6.cell? ⟨gb, 1, none⟩ = some (I 0) := (blk_cell HF0.out 1).trans rfl
  have f2 : w6.cell? ⟨gb, 2, none⟩ = some (I 0) := (blk_cell HF0.out 2).trans rfl
  have f3 : w6.cell? ⟨gb, 3, none⟩ = some (.slice none 0 0) := (blk_cell HF0.out 3).trans rfl
  have f4 : w6.cell? ⟨gb, 4, none⟩ = some (.slice none 0 0) := (blk_cell HF0.out 4).trans rfl
  go_wp2_with (first | (go_at_call 48; (with_reducible refine (HNZ.out _).mono ?_); rintro e w7 ⟨rfl, hb⟩; have HB7 := Lib.hid (HB6.out.trans (hb.mono HB6.out.size)); clear hb) | (go_at_call 21; (with_reducible refine (HAW.out _).mono ?_); rintro e w8 ⟨rfl, hb⟩; have HB8 := Lib.hid (HB7.out.trans (hb.mono HB7.out.size)); clear hb))
  go_ret
  exact ⟨rfl, HB8.out⟩
set_option maxHeartbeats 8000000 in
set_option maxRecDepth 100000 in
theorem from_arg {W : World} {k m n : Int} {A : Option Addr} {l c : Nat} {vi : Int} {b1 b2 b3 b4 b5 : Bool} (HG : ∀ W', Below W.heap.size W W' → Calls Try.prog 42 #[.agg #[I k, I m, .slice A l c]] W' fun e W'' => e = .returned (.bool false) ∧ Below W'.heap.size W' W'') (HV : ∀ W', Below W.heap.size W W' → Calls Try.prog 31 #[.agg #[I k, I m, .slice A l c]] W' fun e W'' => e = .returned (.bool true) ∧ Below W'.heap.size W' W'') (HI : ∀ W', Below W.heap.size W W' → Calls Try.prog 16 #[.agg #[I k, I m, .slice A l c]] W' fun e W'' => e = .returned (I vi) ∧ Below W'.heap.size W' W'') (HX : ∀ W', Below W.heap.size W W' → Calls Try.prog 32 #[.agg #[I k, I m, .slice A l c], I 5] W' fun e W'' => e = .returned (.bool b4) ∧ Below W'.heap.size W' W'') (HK : ∀ W', Below W.heap.size W W' → Calls Try.prog 32 #[.agg #[I k, I m, .slice A l c], I 1] W' fun e W'' => e = .returned (.bool b5) ∧ Below W'.heap.size W' W'') (d1 : decide (n < 1) = b1) (d2 : decide (12 < n) = b2) (d3 : decide (n < vi) = b3) (HCP : ∀ W', Below W.heap.size W W' → Calls Try.prog 47 #[.agg #[I k, I m, .slice A l c]] W' fun e W'' => ∃ c, e = .returned c ∧ Cp1 W'' c n (FfZ 2) ∧ Below W'.heap.size W' W'') (hb : (b1 || b2 || b3 || b4 || b5) = true) : Calls Try.prog 8 #[.agg #[I k, I m, .slice A l c], I n] W fun e W' => e = .returned (.bool true) ∧ Below W.heap.size W W' := by
  unfold FfZ Cp1 at HCP
  replace HG := Lib.hid HG
  replace HV := Lib.hid HV
  replace HI := Lib.hid HI
  replace HX := Lib.hid HX
  replace HK := Lib.hid HK
  replace HCP := Lib.hid HCP
  obtain ⟨W1, hW1⟩ : ∃ W1, W1 = W.alloc (.cells #[I k, I m, .slice A l c] 24) := ⟨_, rfl⟩
  have HB1 : Hid (Below W.heap.size W W1) := Lib.hid (by rw [hW1]; exact below_alloc (Below.refl _ _) _)
  have BK : W1.heap[W.heap.size]? = some (.cells #[I k, I m, .slice A l c] 24 (0, 0)) := by rw [hW1]; exact blk_new _ _
  have k0 : W1.cell? ⟨W.heap.size, 0, none⟩ = some (I k) := (blk_cell BK 0).trans rfl
  have k1 : W1.cell? ⟨W.heap.size, 1, none⟩ = some (I m) := (blk_cell BK 1).trans rfl
  have k2 : W1.cell? ⟨W.heap.size, 2, none⟩ = some (.slice A l c) := (blk_cell BK 2).trans rfl
  clear BK
  have HAW := Lib.hid awake_any
  have HNZ := Lib.hid none_zero
  have hc : b1 = true ∨ (b1 = false ∧ b2 = true) ∨ (b1 = false ∧ b2 = false ∧ b3 = true) ∨ (b1 = false ∧ b2 = false ∧ b3 = false ∧ b4 = true) ∨ (b1 = false ∧ b2 = false ∧ b3 = false ∧ b4 = false ∧ b5 = true) := by
    revert hb; cases b1 <;> cases b2 <;> cases b3 <;> cases b4 <;> cases b5 <;> simp
  clear hb
  rcases hc with rfl | ⟨rfl, rfl⟩ | ⟨rfl, rfl, rfl⟩ | ⟨rfl, rfl, rfl, rfl⟩ | ⟨rfl, rfl, rfl, rfl, rfl⟩
  · go_enter Try.func8, Try.ntmps8
    go_upto_region 1 with fail
    rw [← hW1]
    clear hW1
    go_upto_region 9 with (first | (go_at_call 46; (with_reducible refine (HC.out _ (Below.refl _ _)).mono ?_); rintro e w5 ⟨rfl, hb⟩; have q0 := cell_keep' hb p0; have q1 := cell_keep' hb p1; have q2 := cell_keep' hb p2; clear p0 p1 p2; have HB5 := Lib.hid (HB4.out.trans (hb.mono HB4.out.size)); clear hb) | (go_at_call 47; (with_reducible refine (HCP.out _ HB3.out).mono ?_); rintro e w4 ⟨cc, rfl, hc, hb⟩; have HC := Lib.hid hc; have p0 := cell_keep' hb n0; have p1 := cell_keep' hb n1; have p2 := cell_keep' hb n2; clear n0 n1 n2; have HB4 := Lib.hid (HB3.out.trans (hb.mono HB3.out.size)); clear hb hc) | (go_at_call 31; (with_reducible refine (HV.out _ HB2.out).mono ?_); rintro e w3 ⟨rfl, hb⟩; have n0 := cell_keep' hb m0; have n1 := cell_keep' hb m1; have n2 := cell_keep' hb m2; clear m0 m1 m2; have HB3 := Lib.hid (HB2.out.trans (hb.mono HB2.out.size)); clear hb) | (go_at_call 42; (with_reducible refine (HG.out _ HB1.out).mono ?_); rintro e w2 ⟨rfl, hb⟩; have m0 := cell_keep' hb k0; have m1 := cell_keep' hb k1; have m2 := cell_keep' hb k2; clear k0 k1 k2; have HB2 := Lib.hid (HB1.out.trans (hb.mono HB1.out.size)); clear hb))
    have HB6 := Lib.hid (below_alloc HB5.out (.cells #[.bool false, I 0, I 0, .slice none 0 0, .slice none 0 0] 32))
    have HF0 : Hid ((w5.alloc (.cells #[.bool false, I 0, I 0, .slice none 0 0, .slice none 0 0] 32)).heap[w5.heap.size]? = some (.cells #[.bool false, I 0, I 0, .slice none 0 0, .slice none 0 0] 32 (0, 0))) := Lib.hid (blk_new _ _)
    have r0 := cell_alloc q0 (.cells #[.bool false, I 0, I 0, .slice none 0 0, .slice none 0 0] 32)
    have r1 := cell_alloc q1 (.cells #[.bool false, I 0, I 0, .slice none 0 0, .slice none 0 0] 32)
    have r2 := cell_alloc q2 (.cells #[.bool false, I 0, I 0, .slice none 0 0, .slice none 0 0] 32)
    clear q0 q1 q2
    generalize w5.alloc (.cells #[.bool false, I 0, I 0, .slice none 0 0, .slice none 0 0] 32) = w6 at *
    generalize w5.heap.size = gb at *
    have f0 : w6.cell? ⟨gb, 0, none⟩ = some (.bool false) := (blk_cell HF0.out 0).trans rfl
    have f1 : w6.cell? ⟨gb, 1, none⟩ = some (I 0) := (blk_cell HF0.out 1).trans rfl
    have f2 : w6.cell? ⟨gb, 2, none⟩ = some (I 0) := (blk_cell HF0.out 2).trans rfl
    have f3 : w6.cell? ⟨gb, 3, none⟩ = some (.slice none 0 0) := (blk_cell HF0.out 3).trans rfl
    have f4 : w6.cell? ⟨gb, 4, none⟩ = some (.slice none 0 0) := (blk_cell HF0.out 4).trans rfl
    go_wp2_with (first | (go_at_call 48; (with_reducible refine (HNZ.out _).mono ?_); rintro e w7 ⟨rfl, hb⟩; have HB7 := Lib.hid (HB6.out.trans (hb.mono HB6.out.size)); clear hb) | (go_at_call 21; (with_reducible refine (HAW.out _).mono ?_); rintro e w8 ⟨rfl, hb⟩; have HB8 := Lib.hid (HB7.out.trans (hb.mono HB7.out.size)); clear hb))
    go_ret
    exact ⟨rfl, HB8.out⟩
  · go_enter Try.func8, Try.ntmps8
    go_upto_region 1 with fail
    rw [← hW1]
    clear hW1
    go_upto_region 9 with (first | (go_at_call 46; (with_reducible refine (HC.out _ (Below.refl _ _)).mono ?_); rintro e w5 ⟨rfl, hb⟩; have q0 := cell_keep' hb p0; have q1 := cell_keep' hb p1; have q2 := cell_keep' hb p2; clear p0 p1 p2; have HB5 := Lib.hid (HB4.out.trans (hb.mono HB4.out.size)); clear hb) | (go_at_call 47; (with_reducible refine (HCP.out _ HB3.out).mono ?_); rintro e w4 ⟨cc, rfl, hc, hb⟩; have HC := Lib.hid hc; have p0 := cell_keep' hb n0; have p1 := cell_keep' hb n1; have p2 := cell_keep' hb n2; clear n0 n1 n2; have HB4 := Lib.hid (HB3.out.trans (hb.mono HB3.out.size)); clear hb hc) | (go_at_call 31; (with_reducible refine (HV.out _ HB2.out).mono ?_); rintro e w3 ⟨rfl, hb⟩; have n0 := cell_keep' hb m0; have n1 := cell_keep' hb m1; have n2 := cell_keep' hb m2; clear m0 m1 m2; have HB3 := Lib.hid (HB2.out.trans (hb.mono HB2.out.size)); clear hb) | (go_at_call 42; (with_reducible refine (HG.out _ HB1.out).mono ?_); rintro e w2 ⟨rfl, hb⟩; have m0 := cell_keep' hb k0; have m1 := cell_keep' hb k1; have m2 := cell_keep' hb k2; clear k0 k1 k2; have HB2 := Lib.hid (HB1.out.trans (hb.mono HB1.out.size)); clear hb))
    have HB6 := Lib.hid (below_alloc HB5.out (.cells #[.bool false, I 0, I 0, .slice none 0 0, .slice none 0 0] 32))
    have HF0 : Hid ((w5.alloc (.cells #[.bool false, I 0, I 0, .slice none 0 0, .slice none 0 0] 32)).heap[w5.heap.size]? = some (.cells #[.bool false, I 0, I 0, .slice none 0 0, .slice none 0 0] 32 (0, 0))) := Lib.hid (blk_new _ _)
    have r0 := cell_alloc q0 (.cells #[.bool false, I 0, I 0, .slice none 0 0, .slice none 0 0] 32)
    have r1 := cell_alloc q1 (.cells #[.bool false, I 0, I 0, .slice none 0 0, .slice none 0 0] 32)
    have r2 := cell_alloc q2 (.cells #[.bool false, I 0, I 0, .slice none 0 0, .slice none 0 0] 32)
    clear q0 q1 q2
    generalize w5.alloc (.cells #[.bool false, I 0, I 0, .slice none 0 0, .slice none 0 0] 32) = w6 at *
    generalize w5.heap.size = gb at *
    have f0 : w6.cell? ⟨gb, 0, none⟩ = some (.bool false) := (blk_cell HF0.out 0).trans rfl
    have f1 : w6.cell? ⟨gb, 1, none⟩ = some (I 0) := (blk_cell HF0.out 1).trans rfl
    have f2 : w6.cell? ⟨gb, 2, none⟩ = some (I 0) := (blk_cell HF0.out 2).trans rfl
    have f3 : w6.cell? ⟨gb, 3, none⟩ = some (.slice none 0 0) := (blk_cell HF0.out 3).trans rfl
    have f4 : w6.cell? ⟨gb, 4, none⟩ = some (.slice none 0 0) := (blk_cell HF0.out 4).trans rfl
    go_wp2_with (first | (go_at_call 48; (with_reducible refine (HNZ.out _).mono ?_); rintro e w7 ⟨rfl, hb⟩; have HB7 := Lib.hid (HB6.out.trans (hb.mono HB6.out.size)); clear hb) | (go_at_call 21; (with_reducible refine (HAW.out _).mono ?_); rintro e w8 ⟨rfl, hb⟩; have HB8 := Lib.hid (HB7.out.trans (hb.mono HB7.out.size)); clear hb))
    go_ret
    exact ⟨rfl, HB8.out⟩
  · go_enter Try.func8, Try.ntmps8
    go_upto_region 1 with fail
    rw [← hW1]
    clear hW1
    go_upto_region 9 with (first | (go_at_call 46; (with_reducible refine (HC.out _ (Below.refl _ _)).mono ?_); rintro e w6 ⟨rfl, hb⟩; have r0 := cell_keep' hb q0; have r1 := cell_keep' hb q1; have r2 := cell_keep' hb q2; clear q0 q1 q2; have HB6 := Lib.hid (HB5.out.trans (hb.mono HB5.out.size)); clear hb) | (go_at_call 47; (with_reducible refine (HCP.out _ HB4.out).mono ?_); rintro e w5 ⟨cc, rfl, hc, hb⟩; have HC := Lib.hid hc; have q0 := cell_keep' hb p0; have q1 := cell_keep' hb p1; have q2 := cell_keep' hb p2; clear p0 p1 p2; have HB5 := Lib.hid (HB4.out.trans (hb.mono HB4.out.size)); clear hb hc) | (go_at_call 16; (with_reducible refine (HI.out _ HB3.out).mono ?_); rintro e w4 ⟨rfl, hb⟩; have p0 := cell_keep' hb n0; have p1 := cell_keep' hb n1; have p2 := cell_keep' hb n2; clear n0 n1 n2; have HB4 := Lib.hid (HB3.out.trans (hb.mono HB3.out.size)); clear hb) | (go_at_call 31; (with_reducible refine (HV.out _ HB2.out).mono ?_); rintro e w3 ⟨rfl, hb⟩; have n0 := cell_keep' hb m0; have n1 := cell_keep' hb m1; have n2 := cell_keep' hb m2; clear m0 m1 m2; have HB3 := Lib.hid (HB2.out.trans (hb.mono HB2.out.size)); clear hb) | (go_at_call 42; (with_reducible refine (HG.out _ HB1.out).mono ?_); rintro e w2 ⟨rfl, hb⟩; have m0 := cell_keep' hb k0; have m1 := cell_keep' hb k1; have m2 := cell_keep' hb k2; clear k0 k1 k2; have HB2 := Lib.hid (HB1.out.trans (hb.mono HB1.out.size)); clear hb))
    have HB7 := Lib.hid (below_alloc HB6.out (.cells #[.bool false, I 0, I 0, .slice none 0 0, .slice none 0 0] 32))
    have HF0 : Hid ((w6.alloc (.cells #[.bool false, I 0, I 0, .slice none 0 0, .slice none 0 0] 32)).heap[w6.heap.size]? = some (.cells #[.bool false, I 0, I 0, .slice none 0 0, .slice none 0 0] 32 (0, 0))) := Lib.hid (blk_new _ _)
    have s0 := cell_alloc r0 (.cells #[.bool false, I 0, I 0, .slice none 0 0, .slice none 0 0] 32)
    have s1 := cell_alloc r1 (.cells #[.bool false, I 0, I 0, .slice none 0 0, .slice none 0 0] 32)
    have s2 := cell_alloc r2 (.cells #[.bool false, I 0, I 0, .slice none 0 0, .slice none 0 0] 32)
    clear r0 r1 r2
    generalize w6.alloc (.cells #[.bool false, I 0, I 0, .slice none 0 0, .slice none 0 0] 32) = w7 at *
    generalize w6.heap.size = gb at *
    have f0 : w7.cell? ⟨gb, 0, none⟩ = some (.bool false) := (blk_cell HF0.out 0).trans rfl
    have f1 : w7.cell? ⟨gb, 1, none⟩ = some (I 0) := (blk_cell HF0.out 1).trans rfl
    have f2 : w7.cell? ⟨gb, 2, none⟩ = some (I 0) := (blk_cell HF0.out 2).trans rfl
    have f3 : w7.cell? ⟨gb, 3, none⟩ = some (.slice none 0 0) := (blk_cell HF0.out 3).trans rfl
    have f4 : w7.cell? ⟨gb, 4, none⟩ = some (.slice none 0 0) := (blk_cell HF0.out 4).trans rfl
    go_wp2_with (first | (go_at_call 48; (with_reducible refine (HNZ.out _).mono ?_); rintro e w8 ⟨rfl, hb⟩; have HB8 := Lib.hid (HB7.out.trans (hb.mono HB7.out.size)); clear hb) | (go_at_call 21; (with_reducible refine (HAW.out _).mono ?_); rintro e w9 ⟨rfl, hb⟩; have HB9 := Lib.hid (HB8.out.trans (hb.mono HB8.out.size)); clear hb))
    go_ret
    exact ⟨rfl, HB9.out⟩
  · go_enter Try.func8, Try.ntmps8
    go_upto_region 1 with fail
    rw [← hW1]
    clear hW1
    go_upto_region 9 with (first | (go_at_call 46; (with_reducible refine (HC.out _ (Below.refl _ _)).mono ?_); rintro e w7 ⟨rfl, hb⟩; have s0 := cell_keep' hb r0; have s1 := cell_keep' hb r1; have s2 := cell_keep' hb r2; clear r0 r1 r2; have HB7 := Lib.hid (HB6.out.trans (hb.mono HB6.out.size)); clear hb) | (go_at_call 47; (with_reducible refine (HCP.out _ HB5.out).mono ?_); rintro e w6 ⟨cc, rfl, hc, hb⟩; have HC := Lib.hid hc; have r0 := cell_keep' hb q0; have r1 := cell_keep' hb q1; have r2 := cell_keep' hb q2; clear q0 q1 q2; have HB6 := Lib.hid (HB5.out.trans (hb.mono HB5.out.size)); clear hb hc) | (go_at_call 32; (with_reducible refine (HX.out _ HB4.out).mono ?_); rintro e w5 ⟨rfl, hb⟩; have q0 := cell_keep' hb p0; have q1 := cell_keep' hb p1; have q2 := cell_keep' hb p2; clear p0 p1 p2; have HB5 := Lib.hid (HB4.out.trans (hb.mono HB4.out.size)); clear hb) | (go_at_call 16; (with_reducible refine (HI.out _ HB3.out).mono ?_); rintro e w4 ⟨rfl, hb⟩; have p0 := cell_keep' hb n0; have p1 := cell_keep' hb n1; have p2 := cell_keep' hb n2; clear n0 n1 n2; have HB4 := Lib.hid (HB3.out.trans (hb.mono HB3.out.size)); clear hb) | (go_at_call 31; (with_reducible refine (HV.out _ HB2.out).mono ?_); rintro e w3 ⟨rfl, hb⟩; have n0 := cell_keep' hb m0; have n1 := cell_keep' hb m1; have n2 := cell_keep' hb m2; clear m0 m1 m2; have HB3 := Lib.hid (HB2.out.trans (hb.mono HB2.out.size)); clear hb) | (go_at_call 42; (with_reducible refine (HG.out _ HB1.out).mono ?_); rintro e w2 ⟨rfl, hb⟩; have m0 := cell_keep' hb k0; have m1 := cell_keep' hb k1; have m2 := cell_keep' hb k2; clear k0 k1 k2; have HB2 := Lib.hid (HB1.out.trans (hb.mono HB1.out.size)); clear hb))
    have HB8 := Lib.hid (below_alloc HB7.out (.cells #[.bool false, I 0, I 0, .slice none 0 0, .slice none 0 0] 32))
    have HF0 : Hid ((w7.alloc (.cells #[.bool false, I 0, I 0, .slice none 0 0, .slice none 0 0] 32)).heap[w7.heap.size]? = some (.cells #[.bool false, I 0, I 0, .slice none 0 0, .slice none 0 0] 32 (0, 0))) := Lib.hid (blk_new _ _)
    have t0 := cell_alloc s0 (.cells #[.bool false, I 0, I 0, .slice none 0 0, .slice none 0 0] 32)
    have t1 := cell_alloc s1 (.cells #[.bool false, I 0, I 0, .slice none 0 0, .slice none 0 0] 32)
    have t2 := cell_alloc s2 (.cells #[.bool false, I 0, I 0, .slice none 0 0, .slice none 0 0] 32)
    clear s0 s1 s2
    generalize w7.alloc (.cells #[.bool false, I 0, I 0, .slice none 0 0, .slice none 0 0] 32) = w8 at *
    generalize w7.heap.size = gb at *
    have f0 : w8.cell? ⟨gb, 0, none⟩ = some (.bool false) := (blk_cell HF0.out 0).trans rfl
    have f1 : w8.cell? ⟨gb, 1, none⟩ = some (I 0) := (blk_cell HF0.out 1).trans rfl
    have f2 : w8.cell? ⟨gb, 2, none⟩ = some (I 0) := (blk_cell HF0.out 2).trans rfl
    have f3 : w8.cell? ⟨gb, 3, none⟩ = some (.slice none 0 0) := (blk_cell HF0.out 3).trans rfl
    have f4 : w8.cell? ⟨gb, 4, none⟩ = some (.slice none 0 0) := (blk_cell HF0.out 4).trans rfl
    go_wp2_with (first | (go_at_call 48; (with_reducible refine (HNZ.out _).mono ?_); rintro e w9 ⟨rfl, hb⟩; have HB9 := Lib.hid (HB8.out.trans (hb.mono HB8.out.size)); clear hb) | (go_at_call 21; (with_reducible refine (HAW.out _).mono ?_); rintro e w10 ⟨rfl, hb⟩; have HB10 := Lib.hid (HB9.out.trans (hb.mono HB9.out.size)); clear hb))
    go_ret
    exact ⟨rfl, HB10.out⟩
  · go_enter Try.func8, Try.ntmps8
    go_upto_region 1 with fail
    rw [← hW1]
    clear hW1
    go_upto_region 9 with (first | (go_at_call 46; (with_reducible refine (HC.out _ (Below.refl _ _)).mono ?_); rintro e w8 ⟨rfl, hb⟩; have t0 := cell_keep' hb s0; have t1 := cell_keep' hb s1; have t2 := cell_keep' hb s2; clear s0 s1 s2; have HB8 := Lib.hid (HB7.out.trans (hb.mono HB7.out.size)); clear hb) | (go_at_call 47; (with_reducible refine (HCP.out _ HB6.out).mono ?_); rintro e w7 ⟨cc, rfl, hc, hb⟩; have HC := Lib.hid hc; have s0 := cell_keep' hb r0; have s1 := cell_keep' hb r1; have s2 := cell_keep' hb r2; clear r0 r1 r2; have HB7 := Lib.hid (HB6.out.trans (hb.mono HB6.out.size)); clear hb hc) | (go_at_call 32; (with_reducible refine (HK.out _ HB5.out).mono ?_); rintro e w6 ⟨rfl, hb⟩; have r0 := cell_keep' hb q0; have r1 := cell_keep' hb q1; have r2 := cell_keep' hb q2; clear q0 q1 q2; have HB6 := Lib.hid (HB5.out.trans (hb.mono HB5.out.size)); clear hb) | (go_at_call 32; (with_reducible refine (HX.out _ HB4.out).mono ?_); rintro e w5 ⟨rfl, hb⟩; have q0 := cell_keep' hb p0; have q1 := cell_keep' hb p1; have q2 := cell_keep' hb p2; clear p0 p1 p2; have HB5 := Lib.hid (HB4.out.trans (hb.mono HB4.out.size)); clear hb) | (go_at_call 16; (with_reducible refine (HI.out _ HB3.out).mono ?_); rintro e w4 ⟨rfl, hb⟩; have p0 := cell_keep' hb n0; have p1 := cell_keep' hb n1; have p2 := cell_keep' hb n2; clear n0 n1 n2; have HB4 := Lib.hid (HB3.out.trans (hb.mono HB3.out.size)); clear hb) | (go_at_call 31; (with_reducible refine (HV.out _ HB2.out).mono ?_); rintro e w3 ⟨rfl, hb⟩; have n0 := cell_keep' hb m0; have n1 := cell_keep' hb m1; have n2 := cell_keep' hb m2; clear m0 m1 m2; have HB3 := Lib.hid (HB2.out.trans (hb.mono HB2.out.size)); clear hb) | (go_at_call 42; (with_reducible refine (HG.out _ HB1.out).mono ?_); rintro e w2 ⟨rfl, hb⟩; have m0 := cell_keep' hb k0; have m1 := cell_keep' hb k1; have m2 := cell_keep' hb k2; clear k0 k1 k2; have HB2 := Lib.hid (HB1.out.trans (hb.mono HB1.out.size)); clear hb))
    have HB9 := Lib.hid (below_alloc HB8.out (.cells #[.bool false, I 0, I 0, .slice none 0 0, .slice none 0 0] 32))
    have HF0 : Hid ((w8.alloc (.cells #[.bool false, I 0, I 0, .slice none 0 0, .slice none 0 0] 32)).heap[w8.heap.size]? = some (.cells #[.bool false, I 0, I 0, .slice none 0 0, .slice none 0 0] 32 (0, 0))) := Lib.hid (blk_new _ _)
    have u0 := cell_alloc t0 (.cells #[.bool false, I 0, I 0, .slice none 0 0, .slice none 0 0] 32)
    have u1 := cell_alloc t1 (.cells #[.bool false, I 0, I 0, .slice none 0 0, .slice none 0 0] 32)
    have u2 := cell_alloc t2 (.cells #[.bool false, I 0, I 0, .slice none 0 0, .slice none 0 0] 32)
    clear t0 t1 t2
    generalize w8.alloc (.cells #[.bool false, I 0, I 0, .slice none 0 0, .slice none 0 0] 32) = w9 at *
    generalize w8.heap.size = gb at *
    have f0 : w9.cell? ⟨gb, 0, none⟩ = some (.bool false) := (blk_cell HF0.out 0).trans rfl
    have f1 : w9.cell? ⟨gb, 1, none⟩ = some (I 0) := (blk_cell HF0.out 1).trans rfl
    have f2 : w9.cell? ⟨gb, 2, none⟩ = some (I 0) := (blk_cell HF0.out 2).trans rfl
    have f3 : w9.cell? ⟨gb, 3, none⟩ = some (.slice none 0 0) := (blk_cell HF0.out 3).trans rfl
    have f4 : w9.cell? ⟨gb, 4, none⟩ = some (.slice none 0 0) := (blk_cell HF0.out 4).trans rfl
    go_wp2_with (first | (go_at_call 48; (with_reducible refine (HNZ.out _).mono ?_); rintro e w10 ⟨rfl, hb⟩; have HB10 := Lib.hid (HB9.out.trans (hb.mono HB9.out.size)); clear hb) | (go_at_call 21; (with_reducible refine (HAW.out _).mono ?_); rintro e w11 ⟨rfl, hb⟩; have HB11 := Lib.hid (HB10.out.trans (hb.mono HB10.out.size)); clear hb))
    go_ret
    exact ⟨rfl, HB11.out⟩
set_option maxHeartbeats 8000000 in
set_option maxRecDepth 100000 in
theorem from_size {W : World} {k m n : Int} {A : Option Addr} {l c : Nat} {vi sf df : Int} (HG : ∀ W', Below W.heap.size W W' → Calls Try.prog 42 #[.agg #[I k, I m, .slice A l c]] W' fun e W'' => e = .returned (.bool false) ∧ Below W'.heap.size W' W'') (HV : ∀ W', Below W.heap.size W W' → Calls Try.prog 31 #[.agg #[I k, I m, .slice A l c]] W' fun e W'' => e = .returned (.bool true) ∧ Below W'.heap.size W' W'') (HI : ∀ W', Below W.heap.size W W' → Calls Try.prog 16 #[.agg #[I k, I m, .slice A l c]] W' fun e W'' => e = .returned (I vi) ∧ Below W'.heap.size W' W'') (HX : ∀ W', Below W.heap.size W W' → Calls Try.prog 32 #[.agg #[I k, I m, .slice A l c], I 5] W' fun e W'' => e = .returned (.bool false) ∧ Below W'.heap.size W' W'') (HK : ∀ W', Below W.heap.size W W' → Calls Try.prog 32 #[.agg #[I k, I m, .slice A l c], I 1] W' fun e W'' => e = .returned (.bool false) ∧ Below W'.heap.size W' W'') (d1 : decide (n < 1) = false) (d2 : decide (12 < n) = false) (d3 : decide (n < vi) = false) (HCP : ∀ W', Below W.heap.size W W' → Calls Try.prog 47 #[.agg #[I k, I m, .slice A l c]] W' fun e W'' => ∃ c, e = .returned c ∧ Cp1 W'' c n (FfZ 5) ∧ Below W'.heap.size W' W'') (HS : ∀ W', Below W.heap.size W W' → Calls Try.prog 33 #[.agg #[I k, I m, .slice A l c]] W' fun e W'' => e = .returned (I sf) ∧ Below W'.heap.size W' W'') (HD : ∀ W', Below W.heap.size W W' → Calls Try.prog 45 #[.agg #[I k, I m, .slice A l c]] W' fun e W'' => e = .returned (I df) ∧ Below W'.heap.size W' W'') (hs : 1000 < sf ∨ (¬ 1000 < sf ∧ 60 < df)) : Calls Try.prog 8 #[.agg #[I k, I m, .slice A l c], I n] W fun e W' => e = .returned (.bool true) ∧ Below W.heap.size W W' := by
  unfold FfZ Cp1 at HCP
  replace HG := Lib.hid HG
  replace HV := Lib.hid HV
  replace HI := Lib.hid HI
  replace HX := Lib.hid HX
  replace HK := Lib.hid HK
  replace HCP := Lib.hid HCP
  replace HS := Lib.hid HS
  replace HD := Lib.hid HD
  obtain ⟨W1, hW1⟩ : ∃ W1, W1 = W.alloc (.cells #[I k, I m, .slice A l c] 24) := ⟨_, rfl⟩
  have HB1 : Hid (Below W.heap.size W W1) := Lib.hid (by rw [hW1]; exact below_alloc (Below.refl _ _) _)
  have BK : W1.heap[W.heap.size]? = some (.cells #[I k, I m, .slice A l c] 24 (0, 0)) := by rw [hW1]; exact blk_new _ _
  have k0 : W1.cell? ⟨W.heap.size, 0, none⟩ = some (I k) := (blk_cell BK 0).trans rfl
  have k1 : W1.cell? ⟨W.heap.size, 1, none⟩ = some (I m) := (blk_cell BK 1).trans rfl
  have k2 : W1.cell? ⟨W.heap.size, 2, none⟩ = some (.slice A l c) := (blk_cell BK 2).trans rfl
  clear BK
  have HAW := Lib.hid awake_any
  have HNZ := Lib.hid none_zero
  rcases hs with q1 | ⟨q1, q2⟩
  · go_enter Try.func8, Try.ntmps8
    go_upto_region 1 with fail
    rw [← hW1]
    clear hW1
    go_upto_region 9 with (first | (go_at_call 46; (with_reducible refine (HC.out _ (Below.refl _ _)).mono ?_); rintro e w8 ⟨rfl, hb⟩; have t0 := cell_keep' hb s0; have t1 := cell_keep' hb s1; have t2 := cell_keep' hb s2; clear s0 s1 s2; have HB8 := Lib.hid (HB7.out.trans (hb.mono HB7.out.size)); clear hb) | (go_at_call 47; (with_reducible refine (HCP.out _ HB6.out).mono ?_); rintro e w7 ⟨cc, rfl, hc, hb⟩; have HC := Lib.hid hc; have s0 := cell_keep' hb r0; have s1 := cell_keep' hb r1; have s2 := cell_keep' hb r2; clear r0 r1 r2; have HB7 := Lib.hid (HB6.out.trans (hb.mono HB6.out.size)); clear hb hc) | (go_at_call 32; (with_reducible refine (HK.out _ HB5.out).mono ?_); rintro e w6 ⟨rfl, hb⟩; have r0 := cell_keep' hb q0; have r1 := cell_keep' hb q1; have r2 := cell_keep' hb q2; clear q0 q1 q2; have HB6 := Lib.hid (HB5.out.trans (hb.mono HB5.out.size)); clear hb) | (go_at_call 32; (with_reducible refine (HX.out _ HB4.out).mono ?_); rintro e w5 ⟨rfl, hb⟩; have q0 := cell_keep' hb p0; have q1 := cell_keep' hb p1; have q2 := cell_keep' hb p2; clear p0 p1 p2; have HB5 := Lib.hid (HB4.out.trans (hb.mono HB4.out.size)); clear hb) | (go_at_call 16; (with_reducible refine (HI.out _ HB3.out).mono ?_); rintro e w4 ⟨rfl, hb⟩; have p0 := cell_keep' hb n0; have p1 := cell_keep' hb n1; have p2 := cell_keep' hb n2; clear n0 n1 n2; have HB4 := Lib.hid (HB3.out.trans (hb.mono HB3.out.size)); clear hb) | (go_at_call 31; (with_reducible refine (HV.out _ HB2.out).mono ?_); rintro e w3 ⟨rfl, hb⟩; have n0 := cell_keep' hb m0; have n1 := cell_keep' hb m1; have n2 := cell_keep' hb m2; clear m0 m1 m2; have HB3 := Lib.hid (HB2.out.trans (hb.mono HB2.out.size)); clear hb) | (go_at_call 42; (with_reducible refine (HG.out _ HB1.out).mono ?_); rintro e w2 ⟨rfl, hb⟩; have m0 := cell_keep' hb k0; have m1 := cell_keep' hb k1; have m2 := cell_keep' hb k2; clear k0 k1 k2; have HB2 := Lib.hid (HB1.out.trans (hb.mono HB1.out.size)); clear hb))
    have HB9 := Lib.hid (below_alloc HB8.out (.cells #[.bool false, I 0, I 0, .slice none 0 0, .slice none 0 0] 32))
    have HF0 : Hid ((w8.alloc (.cells #[.bool false, I 0, I 0, .slice none 0 0, .slice none 0 0] 32)).heap[w8.heap.size]? = some (.cells #[.bool false, I 0, I 0, .slice none 0 0, .slice none 0 0] 32 (0, 0))) := Lib.hid (blk_new _ _)
    have u0 := cell_alloc t0 (.cells #[.bool false, I 0, I 0, .slice none 0 0, .slice none 0 0] 32)
    have u1 := cell_alloc t1 (.cells #[.bool false, I 0, I 0, .slice none 0 0, .slice none 0 0] 32)
    have u2 := cell_alloc t2 (.cells #[.bool false, I 0, I 0, .slice none 0 0, .slice none 0 0] 32)
    clear t0 t1 t2
    generalize w8.alloc (.cells #[.bool false, I 0, I 0, .slice none 0 0, .slice none 0 0] 32) = w9 at *
    generalize w8.heap.size = gb at *
    have f0 : w9.cell? ⟨gb, 0, none⟩ = some (.bool false) := (blk_cell HF0.out 0).trans rfl
    have f1 : w9.cell? ⟨gb, 1, none⟩ = some (I 0) := (blk_cell HF0.out 1).trans rfl
    have f2 : w9.cell? ⟨gb, 2, none⟩ = some (I 0) := (blk_cell HF0.out 2).trans rfl
    have f3 : w9.cell? ⟨gb, 3, none⟩ = some (.slice none 0 0) := (blk_cell HF0.out 3).trans rfl
    have f4 : w9.cell? ⟨gb, 4, none⟩ = some (.slice none 0 0) := (blk_cell HF0.out 4).trans rfl
    go_wp2_with (first | (go_at_call 33; (with_reducible refine (HS.out _ HB9.out).mono ?_); rintro e w10 ⟨rfl, hb⟩; have v0 := cell_keep' hb u0; have v1 := cell_keep' hb u1; have v2 := cell_keep' hb u2; have g0 := cell_keep' hb f0; have g1 := cell_keep' hb f1; have g2 := cell_keep' hb f2; have g3 := cell_keep' hb f3; have g4 := cell_keep' hb f4; clear u0 u1 u2; clear f0 f1 f2 f3 f4; have HB10 := Lib.hid (HB9.out.trans (hb.mono HB9.out.size)); clear hb) | (go_at_call 45; (with_reducible refine (HD.out _ HB10.out).mono ?_); rintro e w11 ⟨rfl, hb⟩; have x0 := cell_keep' hb v0; have x1 := cell_keep' hb v1; have x2 := cell_keep' hb v2; have h0 := cell_keep' hb g0; have h1 := cell_keep' hb g1; have h2 := cell_keep' hb g2; have h3 := cell_keep' hb g3; have h4 := cell_keep' hb g4; clear v0 v1 v2; clear g0 g1 g2 g3 g4; have HB11 := Lib.hid (HB10.out.trans (hb.mono HB10.out.size)); clear hb) | (go_at_call 48; (with_reducible refine (HNZ.out _).mono ?_); rintro e w11 ⟨rfl, hb⟩; have HB11 := Lib.hid (HB10.out.trans (hb.mono HB10.out.size)); clear hb) | (go_at_call 21; (with_reducible refine (HAW.out _).mono ?_); rintro e w12 ⟨rfl, hb⟩; have HB12 := Lib.hid (HB11.out.trans (hb.mono HB11.out.size)); clear hb))
    go_ret
    exact ⟨rfl, HB12.out⟩
  · go_enter Try.func8, Try.ntmps8
    go_upto_region 1 with fail
    rw [← hW1]
    clear hW1
    go_upto_region 9 with (first | (go_at_call 46; (with_reducible refine (HC.out _ (Below.refl _ _)).mono ?_); rintro e w8 ⟨rfl, hb⟩; have t0 := cell_keep' hb s0; have t1 := cell_keep' hb s1; have t2 := cell_keep' hb s2; clear s0 s1 s2; have HB8 := Lib.hid (HB7.out.trans (hb.mono HB7.out.size)); clear hb) | (go_at_call 47; (with_reducible refine (HCP.out _ HB6.out).mono ?_); rintro e w7 ⟨cc, rfl, hc, hb⟩; have HC := Lib.hid hc; have s0 := cell_keep' hb r0; have s1 := cell_keep' hb r1; have s2 := cell_keep' hb r2; clear r0 r1 r2; have HB7 := Lib.hid (HB6.out.trans (hb.mono HB6.out.size)); clear hb hc) | (go_at_call 32; (with_reducible refine (HK.out _ HB5.out).mono ?_); rintro e w6 ⟨rfl, hb⟩; have r0 := cell_keep' hb q0; have r1 := cell_keep' hb q1; have r2 := cell_keep' hb q2; clear q0 q1 q2; have HB6 := Lib.hid (HB5.out.trans (hb.mono HB5.out.size)); clear hb) | (go_at_call 32; (with_reducible refine (HX.out _ HB4.out).mono ?_); rintro e w5 ⟨rfl, hb⟩; have q0 := cell_keep' hb p0; have q1 := cell_keep' hb p1; have q2 := cell_keep' hb p2; clear p0 p1 p2; have HB5 := Lib.hid (HB4.out.trans (hb.mono HB4.out.size)); clear hb) | (go_at_call 16; (with_reducible refine (HI.out _ HB3.out).mono ?_); rintro e w4 ⟨rfl, hb⟩; have p0 := cell_keep' hb n0; have p1 := cell_keep' hb n1; have p2 := cell_keep' hb n2; clear n0 n1 n2; have HB4 := Lib.hid (HB3.out.trans (hb.mono HB3.out.size)); clear hb) | (go_at_call 31; (with_reducible refine (HV.out _ HB2.out).mono ?_); rintro e w3 ⟨rfl, hb⟩; have n0 := cell_keep' hb m0; have n1 := cell_keep' hb m1; have n2 := cell_keep' hb m2; clear m0 m1 m2; have HB3 := Lib.hid (HB2.out.trans (hb.mono HB2.out.size)); clear hb) | (go_at_call 42; (with_reducible refine (HG.out _ HB1.out).mono ?_); rintro e w2 ⟨rfl, hb⟩; have m0 := cell_keep' hb k0; have m1 := cell_keep' hb k1; have m2 := cell_keep' hb k2; clear k0 k1 k2; have HB2 := Lib.hid (HB1.out.trans (hb.mono HB1.out.size)); clear hb))
    have HB9 := Lib.hid (below_alloc HB8.out (.cells #[.bool false, I 0, I 0, .slice none 0 0, .slice none 0 0] 32))
    have HF0 : Hid ((w8.alloc (.cells #[.bool false, I 0, I 0, .slice none 0 0, .slice none 0 0] 32)).heap[w8.heap.size]? = some (.cells #[.bool false, I 0, I 0, .slice none 0 0, .slice none 0 0] 32 (0, 0))) := Lib.hid (blk_new _ _)
    have u0 := cell_alloc t0 (.cells #[.bool false, I 0, I 0, .slice none 0 0, .slice none 0 0] 32)
    have u1 := cell_alloc t1 (.cells #[.bool false, I 0, I 0, .slice none 0 0, .slice none 0 0] 32)
    have u2 := cell_alloc t2 (.cells #[.bool false, I 0, I 0, .slice none 0 0, .slice none 0 0] 32)
    clear t0 t1 t2
    generalize w8.alloc (.cells #[.bool false, I 0, I 0, .slice none 0 0, .slice none 0 0] 32) = w9 at *
    generalize w8.heap.size = gb at *
    have f0 : w9.cell? ⟨gb, 0, none⟩ = some (.bool false) := (blk_cell HF0.out 0).trans rfl
    have f1 : w9.cell? ⟨gb, 1, none⟩ = some (I 0) := (blk_cell HF0.out 1).trans rfl
    have f2 : w9.cell? ⟨gb, 2, none⟩ = some (I 0) := (blk_cell HF0.out 2).trans rfl
    have f3 : w9.cell? ⟨gb, 3, none⟩ = some (.slice none 0 0) := (blk_cell HF0.out 3).trans rfl
    have f4 : w9.cell? ⟨gb, 4, none⟩ = some (.slice none 0 0) := (blk_cell HF0.out 4).trans rfl
    go_wp2_with (first | (go_at_call 33; (with_reducible refine (HS.out _ HB9.out).mono ?_); rintro e w10 ⟨rfl, hb⟩; have v0 := cell_keep' hb u0; have v1 := cell_keep' hb u1; have v2 := cell_keep' hb u2; have g0 := cell_keep' hb f0; have g1 := cell_keep' hb f1; have g2 := cell_keep' hb f2; have g3 := cell_keep' hb f3; have g4 := cell_keep' hb f4; clear u0 u1 u2; clear f0 f1 f2 f3 f4; have HB10 := Lib.hid (HB9.out.trans (hb.mono HB9.out.size)); clear hb) | (go_at_call 45; (with_reducible refine (HD.out _ HB10.out).mono ?_); rintro e w11 ⟨rfl, hb⟩; have x0 := cell_keep' hb v0; have x1 := cell_keep' hb v1; have x2 := cell_keep' hb v2; have h0 := cell_keep' hb g0; have h1 := cell_keep' hb g1; have h2 := cell_keep' hb g2; have h3 := cell_keep' hb g3; have h4 := cell_keep' hb g4; clear v0 v1 v2; clear g0 g1 g2 g3 g4; have HB11 := Lib.hid (HB10.out.trans (hb.mono HB10.out.size)); clear hb) | (go_at_call 48; (with_reducible refine (HNZ.out _).mono ?_); rintro e w12 ⟨rfl, hb⟩; have HB12 := Lib.hid (HB11.out.trans (hb.mono HB11.out.size)); clear hb) | (go_at_call 21; (with_reducible refine (HAW.out _).mono ?_); rintro e w13 ⟨rfl, hb⟩; have HB13 := Lib.hid (HB12.out.trans (hb.mono HB12.out.size)); clear hb))
    go_ret
    exact ⟨rfl, HB13.out⟩
end Go.Proofs.Ytpfbommaddaijaa

