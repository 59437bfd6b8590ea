/- Walks through the law of the powers: it returns true; no memory that was there is changed. -/
import Derived.Test.YtbddhccbmieokaaTh
namespace Go.Proofs.Ytbddhccbmieokaa
open Go.RowKit FieldMath
set_option linter.unusedVariables false
set_option linter.unusedSimpArgs false

set_option maxHeartbeats 2000000 in
theorem powers_form (P M a n : Int) (hv : vld P M = false) : Fn 8 #[A2 P M, I a, I n] (.bool true) := by
  intro w
  have Hal := Lib.hid alive_any
  obtain ⟨hx0, hx1, hx2⟩ := box_cells (w := w) (P := P) (M := M) (t := 23) (Below.refl _ _)
  have hB0 : Below w.heap.size w (w.alloc (.cells #[I P, I M] 23)) := (Below.refl _ _).alloc (Nat.le_refl _) _
  have hk := chk_form (xs := [a]) hv
  have H1 := Lib.hid (show Fn 34 #[A2 P M, I a] (T2 0 1) by have := inv_bad P M a (by rw [hk]; omega); rwa [hk] at this)
  have H2 := Lib.hid (show Fn 31 #[A2 P M, I a, I n] (T2 0 1) by have := pow_bad P M a n (by rw [hk]; omega); rwa [hk] at this)
  have Hv := Lib.hid (rvalid_not hv)
  clear hk hv
  have HI := Lib.hid (is_bad 1 0 (by omega))
  go_enter Try.func8, Try.ntmps8
  go_wp2_with (first
    | (go_at_call 34; refine (H1.out _).mono ?_; rintro e w' ⟨rfl, hb⟩; replace hB0 := hB0.trans (hb.mono hB0.size); have hn := cells_keep hb hx2 hx0 hx1; clear hx0 hx1 hx2 hb; obtain ⟨hx0, hx1, hx2⟩ := hn)
    | (go_at_call 31; refine (H2.out _).mono ?_; rintro e w' ⟨rfl, hb⟩; replace hB0 := hB0.trans (hb.mono hB0.size); have hn := cells_keep hb hx2 hx0 hx1; clear hx0 hx1 hx2 hb; obtain ⟨hx0, hx1, hx2⟩ := hn)
    | (go_at_call 17; refine (Hv.out _).mono ?_; rintro e w' ⟨rfl, hb⟩; replace hB0 := hB0.trans (hb.mono hB0.size); clear hb)
    | (go_at_call 15; refine (HI.out _).mono ?_; rintro e w' ⟨rfl, rfl⟩)
    | (go_at_call 16; refine (Hal.out _).mono ?_; rintro e w' ⟨rfl, hb⟩; replace hB0 := hB0.trans (hb.mono hB0.size); clear hb))
  go_ret
  exact ⟨rfl, hB0⟩

set_option maxHeartbeats 2000000 in
theorem powers_arg (P M : Nat) (a n : Int) (hv : FV P M) (hx : ¬ (0 ≤ a ∧ a < (fq P M : Nat))) : Fn 8 #[A2 P M, I a, I n] (.bool true) := by
  intro w
  have Hal := Lib.hid alive_any
  obtain ⟨hx0, hx1, hx2⟩ := box_cells (w := w) (P := P) (M := M) (t := 23) (Below.refl _ _)
  have hB0 : Below w.heap.size w (w.alloc (.cells #[I P, I M] 23)) := (Below.refl _ _).alloc (Nat.le_refl _) _
  have hk : chk P M [a] = 2 := chk_bad (i := 0) hv (by simp) (by rw [ord_fq hv]; exact hx)
  have H1 := Lib.hid (show Fn 34 #[A2 P M, I a] (T2 0 2) by have := inv_bad P M a (by rw [hk]; omega); rwa [hk] at this)
  have H2 := Lib.hid (show Fn 31 #[A2 P M, I a, I n] (T2 0 2) by have := pow_bad P M a n (by rw [hk]; omega); rwa [hk] at this)
  have Hv := Lib.hid (rvalid_yes (P := P) (M := M) hv)
  have Hof := Lib.hid (of_kit P M hv)
  have HI := Lib.hid (is_bad 2 0 (by omega))
  have Ia := Lib.hid (is_no P M (fq P M : Nat) (mdl M : Nat) a hx)
  unfold KV at *
  clear hk hv hx
  generalize fq P M = q at *
  generalize mdl M = D at *
  go_enter Try.func8, Try.ntmps8
  go_wp2_with (first
    | (go_at_call 34; refine (H1.out _).mono ?_; rintro e w' ⟨rfl, hb⟩; replace hB0 := hB0.trans (hb.mono hB0.size); have hn := cells_keep hb hx2 hx0 hx1; clear hx0 hx1 hx2 hb; obtain ⟨hx0, hx1, hx2⟩ := hn)
    | (go_at_call 31; refine (H2.out _).mono ?_; rintro e w' ⟨rfl, hb⟩; replace hB0 := hB0.trans (hb.mono hB0.size); have hn := cells_keep hb hx2 hx0 hx1; clear hx0 hx1 hx2 hb; obtain ⟨hx0, hx1, hx2⟩ := hn)
    | (go_at_call 17; refine (Hv.out _).mono ?_; rintro e w' ⟨rfl, hb⟩; replace hB0 := hB0.trans (hb.mono hB0.size); have hn := cells_keep hb hx2 hx0 hx1; clear hx0 hx1 hx2 hb; obtain ⟨hx0, hx1, hx2⟩ := hn)
    | (go_at_call 20; refine (Hof.out _).mono ?_; rintro e w' ⟨rfl, hb⟩; replace hB0 := hB0.trans (hb.mono hB0.size); have hn := cells_keep hb hx2 hx0 hx1; clear hx0 hx1 hx2 hb; obtain ⟨hx0, hx1, hx2⟩ := hn))
  refine (Ia.out _).mono ?_
  rintro e w1 ⟨rfl, hb⟩
  obtain ⟨k0, k1, k2, k3⟩ := four_keep (g := w'.heap.size) hb (by simp) kit_cells
  have hB1 : Below w.heap.size w w1 := (hB0.alloc hB0.size _).trans (hb.mono (by have := hB0.size; simp; omega))
  have hg1 : w'.heap.size < w1.heap.size := by have := hb.size; simp at this; omega
  clear hb hB0 hx0 hx1 hx2
  go_wp2_with (first
    | (go_at_call 15; refine (HI.out _).mono ?_; rintro e w' ⟨rfl, rfl⟩)
    | (go_at_call 16; refine (Hal.out _).mono ?_; rintro e w' ⟨rfl, hb⟩; replace hB1 := hB1.trans (hb.mono hB1.size); clear hb))
  go_ret
  exact ⟨rfl, hB1⟩

set_option maxHeartbeats 4000000 in
theorem powers_neg0 (P M : Nat) (n : Int) (hv : FV P M) (hn : n < 0) : Fn 8 #[A2 P M, I (0 : Nat), I n] (.bool true) := by
  intro w
  have Hal := Lib.hid alive_any
  obtain ⟨hx0, hx1, hx2⟩ := box_cells (w := w) (P := P) (M := M) (t := 23) (Below.refl _ _)
  have hB0 : Below w.heap.size w (w.alloc (.cells #[I P, I M] 23)) := (Below.refl _ _).alloc (Nat.le_refl _) _
  have hq := fq_cases hv
  have ha : 0 < fq P M := by omega
  have H1 := Lib.hid (inv_zero P M hv)
  have hz : ((((0 : Nat) : Int)) == 0) = true := rfl
  have H2 := Lib.hid (pow_neg P M (0 : Nat) n hv ha hn)
  have HI2 := Lib.hid (is_bad 2 0 (by omega))
  have Hv := Lib.hid (rvalid_yes (P := P) (M := M) hv)
  have Hof := Lib.hid (of_kit P M hv)
  have H3 := Lib.hid (kinv P M (0 : Nat) hv ha)
  have Ia := Lib.hid (is_yes P M (fq P M : Nat) (mdl M : Nat) (0 : Nat) (by omega) (by omega))
  have HI := Lib.hid (is_bad 6 (fpow P M (0 : Nat) (fq P M - 2) : Nat) (by omega))
  unfold KV at *
  clear hv hq ha
  generalize fpow P M (0 : Nat) (fq P M - 2) = r at *
  generalize fq P M = q at *
  generalize mdl M = D at *
  go_enter Try.func8, Try.ntmps8
  go_wp2_with (first
    | (go_at_call 34; refine (H1.out _).mono ?_; rintro e w' ⟨rfl, hb⟩; replace hB0 := hB0.trans (hb.mono hB0.size); have hn := cells_keep hb hx2 hx0 hx1; clear hx0 hx1 hx2 hb; obtain ⟨hx0, hx1, hx2⟩ := hn)
    | (go_at_call 31; refine (H2.out _).mono ?_; rintro e w' ⟨rfl, hb⟩; replace hB0 := hB0.trans (hb.mono hB0.size); have hn := cells_keep hb hx2 hx0 hx1; clear hx0 hx1 hx2 hb; obtain ⟨hx0, hx1, hx2⟩ := hn)
    | (go_at_call 17; refine (Hv.out _).mono ?_; rintro e w' ⟨rfl, hb⟩; replace hB0 := hB0.trans (hb.mono hB0.size); have hn := cells_keep hb hx2 hx0 hx1; clear hx0 hx1 hx2 hb; obtain ⟨hx0, hx1, hx2⟩ := hn)
    | (go_at_call 20; refine (Hof.out _).mono ?_; rintro e w' ⟨rfl, hb⟩; replace hB0 := hB0.trans (hb.mono hB0.size); have hn := cells_keep hb hx2 hx0 hx1; clear hx0 hx1 hx2 hb; obtain ⟨hx0, hx1, hx2⟩ := hn))
  refine (Ia.out _).mono ?_
  rintro e w1 ⟨rfl, hb⟩
  obtain ⟨k0, k1, k2, k3⟩ := four_keep (g := w'.heap.size) hb (by simp) kit_cells
  have hB1 : Below w.heap.size w w1 := (hB0.alloc hB0.size _).trans (hb.mono (by have := hB0.size; simp; omega))
  have hg1 : w'.heap.size < w1.heap.size := by have := hb.size; simp at this; omega
  clear hb hB0 hx0 hx1 hx2
  go_wp2_with fail
  refine (H3.out _).mono ?_
  rintro e w' ⟨rfl, hb⟩
  replace hB1 := hB1.trans (hb.mono hB1.size)
  have hn := four_keep hb hg1 ⟨k0, k1, k2, k3⟩
  replace hg1 := Nat.lt_of_lt_of_le hg1 hb.size
  clear k0 k1 k2 k3 hb
  obtain ⟨k0, k1, k2, k3⟩ := hn
  go_wp2_with fail
  refine (HI.out _).mono ?_
  rintro e w' ⟨rfl, rfl⟩
  go_wp2_with (first
    | (go_at_call 15; refine (HI2.out _).mono ?_; rintro e w' ⟨rfl, rfl⟩)
    | (go_at_call 16; refine (Hal.out _).mono ?_; rintro e w' ⟨rfl, hb⟩; replace hB1 := hB1.trans (hb.mono hB1.size); clear hb))
  go_ret
  exact ⟨rfl, hB1⟩

set_option maxHeartbeats 4000000 in
theorem powers_neg1 (P M : Nat) (a : Nat) (n : Int) (hv : FV P M) (ha0 : 0 < a) (ha : a < fq P M) (hn : n < 0) : Fn 8 #[A2 P M, I a, I n] (.bool true) := by
  intro w
  have Hal := Lib.hid alive_any
  obtain ⟨hx0, hx1, hx2⟩ := box_cells (w := w) (P := P) (M := M) (t := 23) (Below.refl _ _)
  have hB0 : Below w.heap.size w (w.alloc (.cells #[I P, I M] 23)) := (Below.refl _ _).alloc (Nat.le_refl _) _
  have hq := fq_cases hv
  have H1 := Lib.hid (inv_ok P M a hv ha0 ha)
  have hz : (((a : Int)) == 0) = false := by rw [beq_eq_false_iff_ne]; omega
  have H2 := Lib.hid (pow_neg P M a n hv ha hn)
  have HI2 := Lib.hid (is_bad 2 0 (by omega))
  have Hv := Lib.hid (rvalid_yes (P := P) (M := M) hv)
  have Hof := Lib.hid (of_kit P M hv)
  have H3 := Lib.hid (kinv P M a hv ha)
  have Ia := Lib.hid (is_yes P M (fq P M : Nat) (mdl M : Nat) a (by omega) (by omega))
  have HI := Lib.hid (is_ok (fpow P M a (fq P M - 2) : Nat))
  unfold KV at *
  clear hv hq ha ha0
  generalize fpow P M a (fq P M - 2) = r at *
  generalize fq P M = q at *
  generalize mdl M = D at *
  go_enter Try.func8, Try.ntmps8
  go_wp2_with (first
    | (go_at_call 34; refine (H1.out _).mono ?_; rintro e w' ⟨rfl, hb⟩; replace hB0 := hB0.trans (hb.mono hB0.size); have hn := cells_keep hb hx2 hx0 hx1; clear hx0 hx1 hx2 hb; obtain ⟨hx0, hx1, hx2⟩ := hn)
    | (go_at_call 31; refine (H2.out _).mono ?_; rintro e w' ⟨rfl, hb⟩; replace hB0 := hB0.trans (hb.mono hB0.size); have hn := cells_keep hb hx2 hx0 hx1; clear hx0 hx1 hx2 hb; obtain ⟨hx0, hx1, hx2⟩ := hn)
    | (go_at_call 17; refine (Hv.out _).mono ?_; rintro e w' ⟨rfl, hb⟩; replace hB0 := hB0.trans (hb.mono hB0.size); have hn := cells_keep hb hx2 hx0 hx1; clear hx0 hx1 hx2 hb; obtain ⟨hx0, hx1, hx2⟩ := hn)
    | (go_at_call 20; refine (Hof.out _).mono ?_; rintro e w' ⟨rfl, hb⟩; replace hB0 := hB0.trans (hb.mono hB0.size); have hn := cells_keep hb hx2 hx0 hx1; clear hx0 hx1 hx2 hb; obtain ⟨hx0, hx1, hx2⟩ := hn))
  refine (Ia.out _).mono ?_
  rintro e w1 ⟨rfl, hb⟩
  obtain ⟨k0, k1, k2, k3⟩ := four_keep (g := w'.heap.size) hb (by simp) kit_cells
  have hB1 : Below w.heap.size w w1 := (hB0.alloc hB0.size _).trans (hb.mono (by have := hB0.size; simp; omega))
  have hg1 : w'.heap.size < w1.heap.size := by have := hb.size; simp at this; omega
  clear hb hB0 hx0 hx1 hx2
  go_wp2_with fail
  refine (H3.out _).mono ?_
  rintro e w' ⟨rfl, hb⟩
  replace hB1 := hB1.trans (hb.mono hB1.size)
  have hn := four_keep hb hg1 ⟨k0, k1, k2, k3⟩
  replace hg1 := Nat.lt_of_lt_of_le hg1 hb.size
  clear k0 k1 k2 k3 hb
  obtain ⟨k0, k1, k2, k3⟩ := hn
  go_wp2_with fail
  refine (HI.out _).mono ?_
  rintro e w' ⟨rfl, rfl⟩
  go_wp2_with (first
    | (go_at_call 15; refine (HI2.out _).mono ?_; rintro e w' ⟨rfl, rfl⟩)
    | (go_at_call 16; refine (Hal.out _).mono ?_; rintro e w' ⟨rfl, hb⟩; replace hB1 := hB1.trans (hb.mono hB1.size); clear hb))
  go_ret
  exact ⟨rfl, hB1⟩

set_option maxHeartbeats 4000000 in
theorem powers_pos0 (P M : Nat) (n : Nat) (hv : FV P M) (hn : n < 2 ^ 63) : Fn 8 #[A2 P M, I (0 : Nat), I n] (.bool true) := by
  intro w
  have Hal := Lib.hid alive_any
  obtain ⟨hx0, hx1, hx2⟩ := box_cells (w := w) (P := P) (M := M) (t := 23) (Below.refl _ _)
  have hB0 : Below w.heap.size w (w.alloc (.cells #[I P, I M] 23)) := (Below.refl _ _).alloc (Nat.le_refl _) _
  have hq := fq_cases hv
  have ha : 0 < fq P M := by omega
  have H1 := Lib.hid (inv_zero P M hv)
  have hz : ((((0 : Nat) : Int)) == 0) = true := rfl
  have H2 := Lib.hid (pow_ok P M (0 : Nat) n hv ha hn)
  have HI2 := Lib.hid (is_ok (fpow P M (0 : Nat) n : Nat))
  have H4 := Lib.hid (kpow P M (0 : Nat) n hv ha hn)
  have hn0 : ¬ ((n : Int) < 0) := by omega
  have Hv := Lib.hid (rvalid_yes (P := P) (M := M) hv)
  have Hof := Lib.hid (of_kit P M hv)
  have H3 := Lib.hid (kinv P M (0 : Nat) hv ha)
  have Ia := Lib.hid (is_yes P M (fq P M : Nat) (mdl M : Nat) (0 : Nat) (by omega) (by omega))
  have HI := Lib.hid (is_bad 6 (fpow P M (0 : Nat) (fq P M - 2) : Nat) (by omega))
  unfold KV at *
  clear hv hq ha hn
  generalize fpow P M (0 : Nat) (fq P M - 2) = r at *
  generalize fpow P M (0 : Nat) n = r2 at *
  generalize fq P M = q at *
  generalize mdl M = D at *
  go_enter Try.func8, Try.ntmps8
  go_wp2_with (first
    | (go_at_call 34; refine (H1.out _).mono ?_; rintro e w' ⟨rfl, hb⟩; replace hB0 := hB0.trans (hb.mono hB0.size); have hn := cells_keep hb hx2 hx0 hx1; clear hx0 hx1 hx2 hb; obtain ⟨hx0, hx1, hx2⟩ := hn)
    | (go_at_call 31; refine (H2.out _).mono ?_; rintro e w' ⟨rfl, hb⟩; replace hB0 := hB0.trans (hb.mono hB0.size); have hn := cells_keep hb hx2 hx0 hx1; clear hx0 hx1 hx2 hb; obtain ⟨hx0, hx1, hx2⟩ := hn)
    | (go_at_call 17; refine (Hv.out _).mono ?_; rintro e w' ⟨rfl, hb⟩; replace hB0 := hB0.trans (hb.mono hB0.size); have hn := cells_keep hb hx2 hx0 hx1; clear hx0 hx1 hx2 hb; obtain ⟨hx0, hx1, hx2⟩ := hn)
    | (go_at_call 20; refine (Hof.out _).mono ?_; rintro e w' ⟨rfl, hb⟩; replace hB0 := hB0.trans (hb.mono hB0.size); have hn := cells_keep hb hx2 hx0 hx1; clear hx0 hx1 hx2 hb; obtain ⟨hx0, hx1, hx2⟩ := hn))
  refine (Ia.out _).mono ?_
  rintro e w1 ⟨rfl, hb⟩
  obtain ⟨k0, k1, k2, k3⟩ := four_keep (g := w'.heap.size) hb (by simp) kit_cells
  have hB1 : Below w.heap.size w w1 := (hB0.alloc hB0.size _).trans (hb.mono (by have := hB0.size; simp; omega))
  have hg1 : w'.heap.size < w1.heap.size := by have := hb.size; simp at this; omega
  clear hb hB0 hx0 hx1 hx2
  go_wp2_with fail
  refine (H3.out _).mono ?_
  rintro e w' ⟨rfl, hb⟩
  replace hB1 := hB1.trans (hb.mono hB1.size)
  have hn := four_keep hb hg1 ⟨k0, k1, k2, k3⟩
  replace hg1 := Nat.lt_of_lt_of_le hg1 hb.size
  clear k0 k1 k2 k3 hb
  obtain ⟨k0, k1, k2, k3⟩ := hn
  go_wp2_with fail
  refine (HI.out _).mono ?_
  rintro e w' ⟨rfl, rfl⟩
  go_wp2_with (first
    | (go_at_call 36; refine (H4.out _).mono ?_; rintro e w' ⟨rfl, hb⟩; replace hB1 := hB1.trans (hb.mono hB1.size); clear hb)
    | (go_at_call 15; refine (HI2.out _).mono ?_; rintro e w' ⟨rfl, rfl⟩)
    | (go_at_call 16; refine (Hal.out _).mono ?_; rintro e w' ⟨rfl, hb⟩; replace hB1 := hB1.trans (hb.mono hB1.size); clear hb))
  go_ret
  exact ⟨rfl, hB1⟩

set_option maxHeartbeats 4000000 in
theorem powers_pos1 (P M : Nat) (a : Nat) (n : Nat) (hv : FV P M) (ha0 : 0 < a) (ha : a < fq P M) (hn : n < 2 ^ 63) : Fn 8 #[A2 P M, I a, I n] (.bool true) := by
  intro w
  have Hal := Lib.hid alive_any
  obtain ⟨hx0, hx1, hx2⟩ := box_cells (w := w) (P := P) (M := M) (t := 23) (Below.refl _ _)
  have hB0 : Below w.heap.size w (w.alloc (.cells #[I P, I M] 23)) := (Below.refl _ _).alloc (Nat.le_refl _) _
  have hq := fq_cases hv
  have H1 := Lib.hid (inv_ok P M a hv ha0 ha)
  have hz : (((a : Int)) == 0) = false := by rw [beq_eq_false_iff_ne]; omega
  have H2 := Lib.hid (pow_ok P M a n hv ha hn)
  have HI2 := Lib.hid (is_ok (fpow P M a n : Nat))
  have H4 := Lib.hid (kpow P M a n hv ha hn)
  have hn0 : ¬ ((n : Int) < 0) := by omega
  have Hv := Lib.hid (rvalid_yes (P := P) (M := M) hv)
  have Hof := Lib.hid (of_kit P M hv)
  have H3 := Lib.hid (kinv P M a hv ha)
  have Ia := Lib.hid (is_yes P M (fq P M : Nat) (mdl M : Nat) a (by omega) (by omega))
  have HI := Lib.hid (is_ok (fpow P M a (fq P M - 2) : Nat))
  unfold KV at *
  clear hv hq ha ha0 hn
  generalize fpow P M a (fq P M - 2) = r at *
  generalize fpow P M a n = r2 at *
  generalize fq P M = q at *
  generalize mdl M = D at *
  go_enter Try.func8, Try.ntmps8
  go_wp2_with (first
    | (go_at_call 34; refine (H1.out _).mono ?_; rintro e w' ⟨rfl, hb⟩; replace hB0 := hB0.trans (hb.mono hB0.size); have hn := cells_keep hb hx2 hx0 hx1; clear hx0 hx1 hx2 hb; obtain ⟨hx0, hx1, hx2⟩ := hn)
    | (go_at_call 31; refine (H2.out _).mono ?_; rintro e w' ⟨rfl, hb⟩; replace hB0 := hB0.trans (hb.mono hB0.size); have hn := cells_keep hb hx2 hx0 hx1; clear hx0 hx1 hx2 hb; obtain ⟨hx0, hx1, hx2⟩ := hn)
    | (go_at_call 17; refine (Hv.out _).mono ?_; rintro e w' ⟨rfl, hb⟩; replace hB0 := hB0.trans (hb.mono hB0.size); have hn := cells_keep hb hx2 hx0 hx1; clear hx0 hx1 hx2 hb; obtain ⟨hx0, hx1, hx2⟩ := hn)
    | (go_at_call 20; refine (Hof.out _).mono ?_; rintro e w' ⟨rfl, hb⟩; replace hB0 := hB0.trans (hb.mono hB0.size); have hn := cells_keep hb hx2 hx0 hx1; clear hx0 hx1 hx2 hb; obtain ⟨hx0, hx1, hx2⟩ := hn))
  refine (Ia.out _).mono ?_
  rintro e w1 ⟨rfl, hb⟩
  obtain ⟨k0, k1, k2, k3⟩ := four_keep (g := w'.heap.size) hb (by simp) kit_cells
  have hB1 : Below w.heap.size w w1 := (hB0.alloc hB0.size _).trans (hb.mono (by have := hB0.size; simp; omega))
  have hg1 : w'.heap.size < w1.heap.size := by have := hb.size; simp at this; omega
  clear hb hB0 hx0 hx1 hx2
  go_wp2_with fail
  refine (H3.out _).mono ?_
  rintro e w' ⟨rfl, hb⟩
  replace hB1 := hB1.trans (hb.mono hB1.size)
  have hn := four_keep hb hg1 ⟨k0, k1, k2, k3⟩
  replace hg1 := Nat.lt_of_lt_of_le hg1 hb.size
  clear k0 k1 k2 k3 hb
  obtain ⟨k0, k1, k2, k3⟩ := hn
  go_wp2_with fail
  refine (HI.out _).mono ?_
  rintro e w' ⟨rfl, rfl⟩
  go_wp2_with (first
    | (go_at_call 36; refine (H4.out _).mono ?_; rintro e w' ⟨rfl, hb⟩; replace hB1 := hB1.trans (hb.mono hB1.size); clear hb)
    | (go_at_call 15; refine (HI2.out _).mono ?_; rintro e w' ⟨rfl, rfl⟩)
    | (go_at_call 16; refine (Hal.out _).mono ?_; rintro e w' ⟨rfl, hb⟩; replace hB1 := hB1.trans (hb.mono hB1.size); clear hb))
  go_ret
  exact ⟨rfl, hB1⟩

theorem fieldPowers_any (P M a n : Int) (hn : n < 9223372036854775808) : Fn 8 #[A2 P M, I a, I n] (.bool true) := by
  by_cases hv : vld P M = true
  · have hs := vld_spec hv
    obtain ⟨p, rfl⟩ := Int.eq_ofNat_of_zero_le (show 0 ≤ P by omega)
    obtain ⟨m, rfl⟩ := Int.eq_ofNat_of_zero_le (show 0 ≤ M by omega)
    by_cases hx : 0 ≤ a ∧ a < (fq p m : Nat)
    · obtain ⟨x, rfl⟩ := Int.eq_ofNat_of_zero_le hx.1
      by_cases h0 : x = 0
      · subst h0
        by_cases hn0 : n < 0
        · exact powers_neg0 p m n hv hn0
        · obtain ⟨k, rfl⟩ := Int.eq_ofNat_of_zero_le (show 0 ≤ n by omega)
          exact powers_pos0 p m k hv (by omega)
      · by_cases hn0 : n < 0
        · exact powers_neg1 p m x n hv (by omega) (by omega) hn0
        · obtain ⟨k, rfl⟩ := Int.eq_ofNat_of_zero_le (show 0 ≤ n by omega)
          exact powers_pos1 p m x k hv (by omega) (by omega) (by omega)
    · exact powers_arg p m a n hv hx
  · exact powers_form P M a n (Bool.eq_false_iff.2 hv)

theorem wf_lt {n : Int} (h : (Lit.int .i64 n).wf = true) : n < 9223372036854775808 := by
  have h2 := of_decide_eq_true (Bool.and_eq_true_iff.1 h).2
  have h3 : IntKind.i64.max = 9223372036854775807 := by decide
  rw [h3] at h2
  omega

end Go.Proofs.Ytbddhccbmieokaa
