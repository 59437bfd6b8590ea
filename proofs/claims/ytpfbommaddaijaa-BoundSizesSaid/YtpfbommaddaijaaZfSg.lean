/- The law BoundSizes: the walk. -/
import Derived.Test.YtpfbommaddaijaaZfx38
import Derived.Test.YtpfbommaddaijaaZfSc
import Derived.Test.YtpfbommaddaijaaZfN3
import Derived.Deep.RegionHeld3
namespace Go.Proofs.Ytpfbommaddaijaa
open Go.RowKit Go.Proofs.YtpfbommaddaijaaW.PrintWords Go.Proofs.YtpfbommaddaijaaW.PrintLast PBoundTo
set_option linter.unusedVariables false
set_option linter.unusedSimpArgs false

set_option maxHeartbeats 8000000 in
set_option maxRecDepth 100000 in
theorem sizes_great {W : World} {k m n : Int} {A T : Option Addr} {l c tl tc : Nat} (HG : ∀ W', Below W.heap.size W W' → Calls Try.prog 42 #[.agg #[I k, I m, .slice A l c]] W' fun e W'' => e = .returned (.bool true) ∧ Below W'.heap.size W' W'') : Calls Try.prog 7 #[.agg #[I k, I m, .slice A l c], I n, .slice T tl tc] W fun e W' => e = .returned (.bool true) ∧ Below W.heap.size W W' := by
  replace HG := Lib.hid HG
  obtain ⟨W1, hW1⟩ : ∃ W1, W1 = W.alloc (.cells #[I k, I m, .slice A l c] 24) := ⟨_, rfl⟩
  have HB1 : Hid (Below W.heap.size W W1) := Lib.hid (by rw [hW1]; exact below_alloc (Below.refl _ _) _)
  have BK : W1.heap[W.heap.size]? = some (.cells #[I k, I m, .slice A l c] 24 (0, 0)) := by rw [hW1]; exact blk_new _ _
  have k0 : W1.cell? ⟨W.heap.size, 0, none⟩ = some (I k) := (blk_cell BK 0).trans rfl
  have k1 : W1.cell? ⟨W.heap.size, 1, none⟩ = some (I m) := (blk_cell BK 1).trans rfl
  have k2 : W1.cell? ⟨W.heap.size, 2, none⟩ = some (.slice A l c) := (blk_cell BK 2).trans rfl
  clear BK
  have HAW := Lib.hid awake_any
  have HNZ := Lib.hid none_zero
  go_enter Try.func7, Try.ntmps7
  go_upto_region 1 with fail
  rw [← hW1]
  clear hW1
  go_wp2_with (first | (go_at_call 42; (with_reducible refine (HG.out _ HB1.out).mono ?_); rintro e w2 ⟨rfl, hb⟩; have m0 := cell_keep' hb k0; have m1 := cell_keep' hb k1; have m2 := cell_keep' hb k2; clear k0 k1 k2; have HB2 := Lib.hid (HB1.out.trans (hb.mono HB1.out.size)); clear hb) | (go_at_call 21; (with_reducible refine (HAW.out _).mono ?_); rintro e w3 ⟨rfl, hb⟩; have HB3 := Lib.hid (HB2.out.trans (hb.mono HB2.out.size)); clear hb))
  go_ret
  exact ⟨rfl, HB3.out⟩
set_option maxHeartbeats 8000000 in
set_option maxRecDepth 100000 in
theorem sizes_form {W : World} {k m n : Int} {A T : Option Addr} {l c tl tc : Nat} (HG : ∀ W', Below W.heap.size W W' → Calls Try.prog 42 #[.agg #[I k, I m, .slice A l c]] W' fun e W'' => e = .returned (.bool false) ∧ Below W'.heap.size W' W'') (HV : ∀ W', Below W.heap.size W W' → Calls Try.prog 31 #[.agg #[I k, I m, .slice A l c]] W' fun e W'' => e = .returned (.bool false) ∧ Below W'.heap.size W' W'') : Calls Try.prog 7 #[.agg #[I k, I m, .slice A l c], I n, .slice T tl tc] W fun e W' => e = .returned (.bool true) ∧ Below W.heap.size W W' := by
  replace HG := Lib.hid HG
  replace HV := Lib.hid HV
  obtain ⟨W1, hW1⟩ : ∃ W1, W1 = W.alloc (.cells #[I k, I m, .slice A l c] 24) := ⟨_, rfl⟩
  have HB1 : Hid (Below W.heap.size W W1) := Lib.hid (by rw [hW1]; exact below_alloc (Below.refl _ _) _)
  have BK : W1.heap[W.heap.size]? = some (.cells #[I k, I m, .slice A l c] 24 (0, 0)) := by rw [hW1]; exact blk_new _ _
  have k0 : W1.cell? ⟨W.heap.size, 0, none⟩ = some (I k) := (blk_cell BK 0).trans rfl
  have k1 : W1.cell? ⟨W.heap.size, 1, none⟩ = some (I m) := (blk_cell BK 1).trans rfl
  have k2 : W1.cell? ⟨W.heap.size, 2, none⟩ = some (.slice A l c) := (blk_cell BK 2).trans rfl
  clear BK
  have HAW := Lib.hid awake_any
  have HNZ := Lib.hid none_zero
  go_enter Try.func7, Try.ntmps7
  go_upto_region 1 with fail
  rw [← hW1]
  clear hW1
  go_wp2_with (first | (go_at_call 31; (with_reducible refine (HV.out _ HB2.out).mono ?_); rintro e w3 ⟨rfl, hb⟩; have n0 := cell_keep' hb m0; have n1 := cell_keep' hb m1; have n2 := cell_keep' hb m2; clear m0 m1 m2; have HB3 := Lib.hid (HB2.out.trans (hb.mono HB2.out.size)); clear hb) | (go_at_call 42; (with_reducible refine (HG.out _ HB1.out).mono ?_); rintro e w2 ⟨rfl, hb⟩; have m0 := cell_keep' hb k0; have m1 := cell_keep' hb k1; have m2 := cell_keep' hb k2; clear k0 k1 k2; have HB2 := Lib.hid (HB1.out.trans (hb.mono HB1.out.size)); clear hb) | (go_at_call 21; (with_reducible refine (HAW.out _).mono ?_); rintro e w4 ⟨rfl, hb⟩; have HB4 := Lib.hid (HB3.out.trans (hb.mono HB3.out.size)); clear hb))
  go_ret
  exact ⟨rfl, HB4.out⟩
set_option maxHeartbeats 8000000 in
set_option maxRecDepth 100000 in
theorem sizes_awake {W : World} {k m n : Int} {A T : Option Addr} {l c tl tc : Nat} {vi : Int} {b3 b4 b5 b6 : Bool} (HG : ∀ W', Below W.heap.size W W' → Calls Try.prog 42 #[.agg #[I k, I m, .slice A l c]] W' fun e W'' => e = .returned (.bool false) ∧ Below W'.heap.size W' W'') (HV : ∀ W', Below W.heap.size W W' → Calls Try.prog 31 #[.agg #[I k, I m, .slice A l c]] W' fun e W'' => e = .returned (.bool true) ∧ Below W'.heap.size W' W'') (d3 : decide (n < 1) = b3) (d4 : decide (8 < n) = b4) (HI : ∀ W', Below W.heap.size W W' → Calls Try.prog 16 #[.agg #[I k, I m, .slice A l c]] W' fun e W'' => e = .returned (I vi) ∧ Below W'.heap.size W' W'') (d5 : decide (n < vi) = b5) (d6 : decide ((1000 : Int) < (tl : Nat)) = b6) (d6' : decide (1000 < tl) = b6) (hb : (b3 || b4 || b5 || b6) = true) : Calls Try.prog 7 #[.agg #[I k, I m, .slice A l c], I n, .slice T tl tc] W fun e W' => e = .returned (.bool true) ∧ Below W.heap.size W W' := by
  replace HG := Lib.hid HG
  replace HV := Lib.hid HV
  replace HI := Lib.hid HI
  obtain ⟨W1, hW1⟩ : ∃ W1, W1 = W.alloc (.cells #[I k, I m, .slice A l c] 24) := ⟨_, rfl⟩
  have HB1 : Hid (Below W.heap.size W W1) := Lib.hid (by rw [hW1]; exact below_alloc (Below.refl _ _) _)
  have BK : W1.heap[W.heap.size]? = some (.cells #[I k, I m, .slice A l c] 24 (0, 0)) := by rw [hW1]; exact blk_new _ _
  have k0 : W1.cell? ⟨W.heap.size, 0, none⟩ = some (I k) := (blk_cell BK 0).trans rfl
  have k1 : W1.cell? ⟨W.heap.size, 1, none⟩ = some (I m) := (blk_cell BK 1).trans rfl
  have k2 : W1.cell? ⟨W.heap.size, 2, none⟩ = some (.slice A l c) := (blk_cell BK 2).trans rfl
  clear BK
  have HAW := Lib.hid awake_any
  have HNZ := Lib.hid none_zero
  have hc : (b3 = true) ∨ (b3 = false ∧ b4 = true) ∨ (b3 = false ∧ b4 = false ∧ b5 = true) ∨ (b3 = false ∧ b4 = false ∧ b5 = false ∧ b6 = true) := by
    revert hb; cases b3 <;> cases b4 <;> cases b5 <;> cases b6 <;> simp
  clear hb
  rcases hc with rfl | ⟨rfl, rfl⟩ | ⟨rfl, rfl, rfl⟩ | ⟨rfl, rfl, rfl, rfl⟩
  · go_enter Try.func7, Try.ntmps7
    go_upto_region 1 with fail
    rw [← hW1]
    clear hW1
    go_wp2_with (first | (go_at_call 31; (with_reducible refine (HV.out _ HB2.out).mono ?_); rintro e w3 ⟨rfl, hb⟩; have n0 := cell_keep' hb m0; have n1 := cell_keep' hb m1; have n2 := cell_keep' hb m2; clear m0 m1 m2; have HB3 := Lib.hid (HB2.out.trans (hb.mono HB2.out.size)); clear hb) | (go_at_call 42; (with_reducible refine (HG.out _ HB1.out).mono ?_); rintro e w2 ⟨rfl, hb⟩; have m0 := cell_keep' hb k0; have m1 := cell_keep' hb k1; have m2 := cell_keep' hb k2; clear k0 k1 k2; have HB2 := Lib.hid (HB1.out.trans (hb.mono HB1.out.size)); clear hb) | (go_at_call 21; (with_reducible refine (HAW.out _).mono ?_); rintro e w4 ⟨rfl, hb⟩; have HB4 := Lib.hid (HB3.out.trans (hb.mono HB3.out.size)); clear hb))
    go_ret
    exact ⟨rfl, HB4.out⟩
  · go_enter Try.func7, Try.ntmps7
    go_upto_region 1 with fail
    rw [← hW1]
    clear hW1
    go_wp2_with (first | (go_at_call 31; (with_reducible refine (HV.out _ HB2.out).mono ?_); rintro e w3 ⟨rfl, hb⟩; have n0 := cell_keep' hb m0; have n1 := cell_keep' hb m1; have n2 := cell_keep' hb m2; clear m0 m1 m2; have HB3 := Lib.hid (HB2.out.trans (hb.mono HB2.out.size)); clear hb) | (go_at_call 42; (with_reducible refine (HG.out _ HB1.out).mono ?_); rintro e w2 ⟨rfl, hb⟩; have m0 := cell_keep' hb k0; have m1 := cell_keep' hb k1; have m2 := cell_keep' hb k2; clear k0 k1 k2; have HB2 := Lib.hid (HB1.out.trans (hb.mono HB1.out.size)); clear hb) | (go_at_call 21; (with_reducible refine (HAW.out _).mono ?_); rintro e w4 ⟨rfl, hb⟩; have HB4 := Lib.hid (HB3.out.trans (hb.mono HB3.out.size)); clear hb))
    go_ret
    exact ⟨rfl, HB4.out⟩
  · go_enter Try.func7, Try.ntmps7
    go_upto_region 1 with fail
    rw [← hW1]
    clear hW1
    go_wp2_with (first | (go_at_call 16; (with_reducible refine (HI.out _ HB3.out).mono ?_); rintro e w4 ⟨rfl, hb⟩; have p0 := cell_keep' hb n0; have p1 := cell_keep' hb n1; have p2 := cell_keep' hb n2; clear n0 n1 n2; have HB4 := Lib.hid (HB3.out.trans (hb.mono HB3.out.size)); clear hb) | (go_at_call 31; (with_reducible refine (HV.out _ HB2.out).mono ?_); rintro e w3 ⟨rfl, hb⟩; have n0 := cell_keep' hb m0; have n1 := cell_keep' hb m1; have n2 := cell_keep' hb m2; clear m0 m1 m2; have HB3 := Lib.hid (HB2.out.trans (hb.mono HB2.out.size)); clear hb) | (go_at_call 42; (with_reducible refine (HG.out _ HB1.out).mono ?_); rintro e w2 ⟨rfl, hb⟩; have m0 := cell_keep' hb k0; have m1 := cell_keep' hb k1; have m2 := cell_keep' hb k2; clear k0 k1 k2; have HB2 := Lib.hid (HB1.out.trans (hb.mono HB1.out.size)); clear hb) | (go_at_call 21; (with_reducible refine (HAW.out _).mono ?_); rintro e w5 ⟨rfl, hb⟩; have HB5 := Lib.hid (HB4.out.trans (hb.mono HB4.out.size)); clear hb))
    go_ret
    exact ⟨rfl, HB5.out⟩
  · go_enter Try.func7, Try.ntmps7
    go_upto_region 1 with fail
    rw [← hW1]
    clear hW1
    go_wp2_with (first | (go_at_call 16; (with_reducible refine (HI.out _ HB3.out).mono ?_); rintro e w4 ⟨rfl, hb⟩; have p0 := cell_keep' hb n0; have p1 := cell_keep' hb n1; have p2 := cell_keep' hb n2; clear n0 n1 n2; have HB4 := Lib.hid (HB3.out.trans (hb.mono HB3.out.size)); clear hb) | (go_at_call 31; (with_reducible refine (HV.out _ HB2.out).mono ?_); rintro e w3 ⟨rfl, hb⟩; have n0 := cell_keep' hb m0; have n1 := cell_keep' hb m1; have n2 := cell_keep' hb m2; clear m0 m1 m2; have HB3 := Lib.hid (HB2.out.trans (hb.mono HB2.out.size)); clear hb) | (go_at_call 42; (with_reducible refine (HG.out _ HB1.out).mono ?_); rintro e w2 ⟨rfl, hb⟩; have m0 := cell_keep' hb k0; have m1 := cell_keep' hb k1; have m2 := cell_keep' hb k2; clear k0 k1 k2; have HB2 := Lib.hid (HB1.out.trans (hb.mono HB1.out.size)); clear hb) | (go_at_call 21; (with_reducible refine (HAW.out _).mono ?_); rintro e w5 ⟨rfl, hb⟩; have HB5 := Lib.hid (HB4.out.trans (hb.mono HB4.out.size)); clear hb))
    go_ret
    exact ⟨rfl, HB5.out⟩
end Go.Proofs.Ytpfbommaddaijaa

