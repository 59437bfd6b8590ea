/- Walks through the laws of the field: they return true; no memory that was there is changed. -/
import Derived.Test.YtbddhccbmieokaaTg
namespace Go.Proofs.Ytbddhccbmieokaa
open Go.RowKit FieldMath
set_option linter.unusedVariables false
set_option linter.unusedSimpArgs false

theorem fq_one (P : Nat) : fq P 1 = P := rfl
theorem fq_more {P M : Nat} (h : M ≠ 1) : fq P M = 2 ^ M := by unfold fq; rw [if_neg h]
theorem fneg_bd {P M b : Nat} (hv : FV P M) (hb : b < fq P M) : fneg P M b < fq P M := by
  have hs := hv.spec
  unfold fneg fq at *
  by_cases h : M = 1
  · rw [if_pos h, if_pos h]; exact Nat.mod_lt _ (by omega)
  · rw [if_neg h] at *
    rw [if_neg h]; exact hb
theorem addV {P M a b : Nat} (hv : FV P M) (ha : a < fq P M) (hb : b < fq P M) : Fn 23 #[A2 P M, I a, I b] (T2 (fadd P M a b : Nat) 0) := by
  by_cases h : M = 1
  · subst h
    have := add_res P a b hv ha hb
    rwa [show fadd P 1 a b = (a + b) % P by unfold fadd; rw [if_pos rfl]]
  · rw [fq_more h] at ha hb
    have := add_bit P M a b hv h ha hb
    rwa [show fadd P M a b = a ^^^ b by unfold fadd; rw [if_neg h]]
theorem mulV {P M a b : Nat} (hv : FV P M) (ha : a < fq P M) (hb : b < fq P M) : Fn 25 #[A2 P M, I a, I b] (T2 (fmul P M a b : Nat) 0) := by
  by_cases h : M = 1
  · subst h
    have := mul_res P a b hv ha hb
    rwa [show fmul P 1 a b = a * b % P by unfold fmul; rw [if_pos rfl]]
  · rw [fq_more h] at ha hb
    have := mul_bit P M a b hv h ha hb
    rwa [show fmul P M a b = pmul M (modT M) a b 0 by unfold fmul; rw [if_neg h]]
theorem subV {P M a b : Nat} (hv : FV P M) (ha : a < fq P M) (hb : b < fq P M) : Fn 24 #[A2 P M, I a, I b] (T2 (fadd P M a (fneg P M b) : Nat) 0) := by
  by_cases h : M = 1
  · subst h
    have := sub_res P a b hv ha hb
    rwa [show fadd P 1 a (fneg P 1 b) = (a + (P - b) % P) % P by unfold fadd fneg; rw [if_pos rfl, if_pos rfl]]
  · rw [fq_more h] at ha hb
    have := sub_bit P M a b hv h ha hb
    rwa [show fadd P M a (fneg P M b) = a ^^^ b by unfold fadd fneg; rw [if_neg h, if_neg h]]

/-- the boxed field and, behind it, the kit's block -/
theorem kit_cells {x : World} {P M Q D : Int} : (x.alloc (.cells #[I P, I M, I Q, I D] 35)).cell? ⟨x.heap.size, 0, none⟩ = some (I P) ∧ (x.alloc (.cells #[I P, I M, I Q, I D] 35)).cell? ⟨x.heap.size, 1, none⟩ = some (I M) ∧
    (x.alloc (.cells #[I P, I M, I Q, I D] 35)).cell? ⟨x.heap.size, 2, none⟩ = some (I Q) ∧ (x.alloc (.cells #[I P, I M, I Q, I D] 35)).cell? ⟨x.heap.size, 3, none⟩ = some (I D) := by
  refine ⟨?_, ?_, ?_, ?_⟩ <;> simp [go_sem]
theorem four_keep {w1 w2 : World} {g : Nat} {p q r s : Value} (hb : Below w1.heap.size w1 w2) (hg : g < w1.heap.size)
    (h : w1.cell? ⟨g, 0, none⟩ = some p ∧ w1.cell? ⟨g, 1, none⟩ = some q ∧ w1.cell? ⟨g, 2, none⟩ = some r ∧ w1.cell? ⟨g, 3, none⟩ = some s) :
    w2.cell? ⟨g, 0, none⟩ = some p ∧ w2.cell? ⟨g, 1, none⟩ = some q ∧ w2.cell? ⟨g, 2, none⟩ = some r ∧ w2.cell? ⟨g, 3, none⟩ = some s :=
  ⟨(hb.cell (p := ⟨g, 0, none⟩) hg).trans h.1, (hb.cell (p := ⟨g, 1, none⟩) hg).trans h.2.1, (hb.cell (p := ⟨g, 2, none⟩) hg).trans h.2.2.1, (hb.cell (p := ⟨g, 3, none⟩) hg).trans h.2.2.2⟩

set_option maxHeartbeats 2000000 in
theorem makes_form (P M a b : Int) (hv : vld P M = false) : Fn 5 #[A2 P M, I a, I b] (.bool true) := by
  intro w
  have Hal := Lib.hid alive_any
  have hW := box_cells (w := w) (P := P) (M := M) (t := 23) (Below.refl _ _)
  have hB0 : Below w.heap.size w (w.alloc (.cells #[I P, I M] 23)) := (Below.refl _ _).alloc (Nat.le_refl _) _
  have hk := chk_form (xs := [a, b]) hv
  have H1 := Lib.hid (show Fn 23 #[A2 P M, I a, I b] (T2 0 1) by have := add_bad P M a b (by rw [hk]; omega); rwa [hk] at this)
  have H2 := Lib.hid (show Fn 24 #[A2 P M, I a, I b] (T2 0 1) by have := sub_bad P M a b (by rw [hk]; omega); rwa [hk] at this)
  have H3 := Lib.hid (show Fn 25 #[A2 P M, I a, I b] (T2 0 1) by have := mul_bad P M a b (by rw [hk]; omega); rwa [hk] at this)
  have Hv := Lib.hid (rvalid_not hv)
  clear hk hv
  have Hi := Lib.hid (is_bad 1 0 (by omega))
  go_enter Try.func5, Try.ntmps5
  go_wp2_with (first
    | (go_at_call 23; refine (H1.out _).mono ?_; rintro e w' ⟨rfl, hb⟩; obtain ⟨x0, x1, x2⟩ := cells_keep hb hW.2.2 hW.1 hW.2.1; replace hB0 := hB0.trans (hb.mono hB0.size); clear hb hW)
    | (go_at_call 24; refine (H2.out _).mono ?_; rintro e w' ⟨rfl, hb⟩; obtain ⟨y0, y1, y2⟩ := cells_keep hb x2 x0 x1; replace hB0 := hB0.trans (hb.mono hB0.size); clear hb x0 x1 x2)
    | (go_at_call 25; refine (H3.out _).mono ?_; rintro e w' ⟨rfl, hb⟩; obtain ⟨z0, z1, z2⟩ := cells_keep hb y2 y0 y1; replace hB0 := hB0.trans (hb.mono hB0.size); clear hb y0 y1 y2)
    | (go_at_call 17; refine (Hv.out _).mono ?_; rintro e w' ⟨rfl, hb⟩; replace hB0 := hB0.trans (hb.mono hB0.size); clear hb z0 z1 z2)
    | (go_at_call 15; refine (Hi.out _).mono ?_; rintro e w' ⟨rfl, rfl⟩)
    | (go_at_call 16; refine (Hal.out _).mono ?_; rintro e w' ⟨rfl, hb⟩; replace hB0 := hB0.trans (hb.mono hB0.size); clear hb))
  go_ret
  exact ⟨rfl, hB0⟩

set_option maxHeartbeats 2000000 in
theorem makes_arg (P M : Nat) (a b : Int) (hv : FV P M) (hx : ¬ ((0 ≤ a ∧ a < (fq P M : Nat)) ∧ (0 ≤ b ∧ b < (fq P M : Nat)))) : Fn 5 #[A2 P M, I a, I b] (.bool true) := by
  intro w
  have Hal := Lib.hid alive_any
  have hW := box_cells (w := w) (P := P) (M := M) (t := 23) (Below.refl _ _)
  have hB0 : Below w.heap.size w (w.alloc (.cells #[I P, I M] 23)) := (Below.refl _ _).alloc (Nat.le_refl _) _
  have hk : chk P M [a, b] = 2 := by
    by_cases ha : 0 ≤ a ∧ a < (fq P M : Nat)
    · exact chk_bad (i := 1) hv (by simp) (by rw [ord_fq hv]; exact fun h => hx ⟨ha, h⟩)
    · exact chk_bad (i := 0) hv (by simp) (by rw [ord_fq hv]; exact ha)
  have H1 := Lib.hid (show Fn 23 #[A2 P M, I a, I b] (T2 0 2) by have := add_bad P M a b (by rw [hk]; omega); rwa [hk] at this)
  have H2 := Lib.hid (show Fn 24 #[A2 P M, I a, I b] (T2 0 2) by have := sub_bad P M a b (by rw [hk]; omega); rwa [hk] at this)
  have H3 := Lib.hid (show Fn 25 #[A2 P M, I a, I b] (T2 0 2) by have := mul_bad P M a b (by rw [hk]; omega); rwa [hk] at this)
  have Hv := Lib.hid (rvalid_yes (P := P) (M := M) hv)
  have Hof := Lib.hid (of_kit P M hv)
  have Hi := Lib.hid (is_bad 2 0 (by omega))
  unfold KV at *
  clear hk hv
  by_cases ha : 0 ≤ a ∧ a < (fq P M : Nat)
  · have Hb := Lib.hid (is_no P M (fq P M : Nat) (mdl M : Nat) b (fun h => hx ⟨ha, h⟩))
    have Ha := Lib.hid (is_yes P M (fq P M : Nat) (mdl M : Nat) a ha.1 ha.2)
    clear hx ha
    generalize fq P M = q at *
    generalize mdl M = D at *
    go_enter Try.func5, Try.ntmps5
    go_wp2_with (first
      | (go_at_call 23; refine (H1.out _).mono ?_; rintro e w' ⟨rfl, hb⟩; obtain ⟨x0, x1, x2⟩ := cells_keep hb hW.2.2 hW.1 hW.2.1; replace hB0 := hB0.trans (hb.mono hB0.size); clear hb hW)
      | (go_at_call 24; refine (H2.out _).mono ?_; rintro e w' ⟨rfl, hb⟩; obtain ⟨y0, y1, y2⟩ := cells_keep hb x2 x0 x1; replace hB0 := hB0.trans (hb.mono hB0.size); clear hb x0 x1 x2)
      | (go_at_call 25; refine (H3.out _).mono ?_; rintro e w' ⟨rfl, hb⟩; obtain ⟨z0, z1, z2⟩ := cells_keep hb y2 y0 y1; replace hB0 := hB0.trans (hb.mono hB0.size); clear hb y0 y1 y2)
      | (go_at_call 17; refine (Hv.out _).mono ?_; rintro e w' ⟨rfl, hb⟩; obtain ⟨u0, u1, u2⟩ := cells_keep hb z2 z0 z1; replace hB0 := hB0.trans (hb.mono hB0.size); clear hb z0 z1 z2)
      | (go_at_call 20; refine (Hof.out _).mono ?_; rintro e w' ⟨rfl, hb⟩; replace hB0 := hB0.trans (hb.mono hB0.size); clear hb u0 u1 u2)
      | (go_at_call 15; refine (Hi.out _).mono ?_; rintro e w' ⟨rfl, rfl⟩)
      | (go_at_call 16; refine (Hal.out _).mono ?_; rintro e w' ⟨rfl, hb⟩; replace hB0 := hB0.trans (hb.mono hB0.size); clear hb))
    refine (Ha.out _).mono ?_
    rintro e w1 ⟨rfl, hb⟩
    obtain ⟨k0, k1, k2, k3⟩ := four_keep (g := w'.heap.size) hb (by simp) kit_cells
    have hB1 : Below w.heap.size w w1 := (hB0.alloc hB0.size _).trans (hb.mono (by have := hB0.size; simp; omega))
    clear hb hB0
    go_wp2_with (first
      | (go_at_call 26; refine (Hb.out _).mono ?_; rintro e w' ⟨rfl, hb⟩; replace hB1 := hB1.trans (hb.mono hB1.size); clear hb k0 k1 k2 k3)
      | (go_at_call 15; refine (Hi.out _).mono ?_; rintro e w' ⟨rfl, rfl⟩)
      | (go_at_call 16; refine (Hal.out _).mono ?_; rintro e w' ⟨rfl, hb⟩; replace hB1 := hB1.trans (hb.mono hB1.size); clear hb))
    go_ret
    exact ⟨rfl, hB1⟩
  · have Ha := Lib.hid (is_no P M (fq P M : Nat) (mdl M : Nat) a ha)
    clear hx ha
    generalize fq P M = q at *
    generalize mdl M = D at *
    go_enter Try.func5, Try.ntmps5
    go_wp2_with (first
      | (go_at_call 23; refine (H1.out _).mono ?_; rintro e w' ⟨rfl, hb⟩; obtain ⟨x0, x1, x2⟩ := cells_keep hb hW.2.2 hW.1 hW.2.1; replace hB0 := hB0.trans (hb.mono hB0.size); clear hb hW)
      | (go_at_call 24; refine (H2.out _).mono ?_; rintro e w' ⟨rfl, hb⟩; obtain ⟨y0, y1, y2⟩ := cells_keep hb x2 x0 x1; replace hB0 := hB0.trans (hb.mono hB0.size); clear hb x0 x1 x2)
      | (go_at_call 25; refine (H3.out _).mono ?_; rintro e w' ⟨rfl, hb⟩; obtain ⟨z0, z1, z2⟩ := cells_keep hb y2 y0 y1; replace hB0 := hB0.trans (hb.mono hB0.size); clear hb y0 y1 y2)
      | (go_at_call 17; refine (Hv.out _).mono ?_; rintro e w' ⟨rfl, hb⟩; obtain ⟨u0, u1, u2⟩ := cells_keep hb z2 z0 z1; replace hB0 := hB0.trans (hb.mono hB0.size); clear hb z0 z1 z2)
      | (go_at_call 20; refine (Hof.out _).mono ?_; rintro e w' ⟨rfl, hb⟩; replace hB0 := hB0.trans (hb.mono hB0.size); clear hb u0 u1 u2)
      | (go_at_call 15; refine (Hi.out _).mono ?_; rintro e w' ⟨rfl, rfl⟩)
      | (go_at_call 16; refine (Hal.out _).mono ?_; rintro e w' ⟨rfl, hb⟩; replace hB0 := hB0.trans (hb.mono hB0.size); clear hb))
    refine (Ha.out _).mono ?_
    rintro e w1 ⟨rfl, hb⟩
    have hB1 : Below w.heap.size w w1 := (hB0.alloc hB0.size _).trans (hb.mono (by have := hB0.size; simp; omega))
    clear hb hB0
    go_wp2_with (first
      | (go_at_call 15; refine (Hi.out _).mono ?_; rintro e w' ⟨rfl, rfl⟩)
      | (go_at_call 16; refine (Hal.out _).mono ?_; rintro e w' ⟨rfl, hb⟩; replace hB1 := hB1.trans (hb.mono hB1.size); clear hb))
    go_ret
    exact ⟨rfl, hB1⟩

set_option maxHeartbeats 4000000 in
theorem makes_ok (P M a b : Nat) (hv : FV P M) (ha : a < fq P M) (hb : b < fq P M) : Fn 5 #[A2 P M, I a, I b] (.bool true) := by
  intro w
  have hs := hv.spec
  have hq := fq_cases hv
  have Hal := Lib.hid alive_any
  have hW := box_cells (w := w) (P := P) (M := M) (t := 23) (Below.refl _ _)
  have hB0 : Below w.heap.size w (w.alloc (.cells #[I P, I M] 23)) := (Below.refl _ _).alloc (Nat.le_refl _) _
  have H1 := Lib.hid (addV hv ha hb)
  have H2 := Lib.hid (subV hv ha hb)
  have H3 := Lib.hid (mulV hv ha hb)
  have Hv := Lib.hid (rvalid_yes (P := P) (M := M) hv)
  have Hof := Lib.hid (of_kit P M hv)
  have hnb := fneg_bd hv hb
  have K1 := Lib.hid (kadd P M (fq P M) (mdl M) a b hs.1 hs.2.1 hs.2.2.1 (by omega) (by omega))
  have K2 := Lib.hid (kneg P M (fq P M) (mdl M) b hs.1 hs.2.1 hs.2.2.1 (by omega) (fun h => by subst h; exact hb))
  have K3 := Lib.hid (kadd P M (fq P M) (mdl M) a (fneg P M b) hs.1 hs.2.1 hs.2.2.1 (by omega) (by omega))
  have K4' := Lib.hid (kmul P M a b hv ha hb)
  have Ia := Lib.hid (is_yes P M (fq P M : Nat) (mdl M : Nat) a (by omega) (by omega))
  have Ib := Lib.hid (is_yes P M (fq P M : Nat) (mdl M : Nat) b (by omega) (by omega))
  unfold KV at *
  clear hs hq hnb hv ha hb
  generalize fadd P M a (fneg P M b) = r2 at *
  generalize fadd P M a b = r1 at *
  generalize fneg P M b = nb at *
  generalize fmul P M a b = r3 at *
  generalize fq P M = q at *
  generalize mdl M = D at *
  go_enter Try.func5, Try.ntmps5
  go_wp2_with (first
    | (go_at_call 23; refine (H1.out _).mono ?_; rintro e w' ⟨rfl, hb⟩; obtain ⟨x0, x1, x2⟩ := cells_keep hb hW.2.2 hW.1 hW.2.1; replace hB0 := hB0.trans (hb.mono hB0.size); clear hb hW)
    | (go_at_call 24; refine (H2.out _).mono ?_; rintro e w' ⟨rfl, hb⟩; obtain ⟨y0, y1, y2⟩ := cells_keep hb x2 x0 x1; replace hB0 := hB0.trans (hb.mono hB0.size); clear hb x0 x1 x2)
    | (go_at_call 25; refine (H3.out _).mono ?_; rintro e w' ⟨rfl, hb⟩; obtain ⟨z0, z1, z2⟩ := cells_keep hb y2 y0 y1; replace hB0 := hB0.trans (hb.mono hB0.size); clear hb y0 y1 y2)
    | (go_at_call 17; refine (Hv.out _).mono ?_; rintro e w' ⟨rfl, hb⟩; obtain ⟨u0, u1, u2⟩ := cells_keep hb z2 z0 z1; replace hB0 := hB0.trans (hb.mono hB0.size); clear hb z0 z1 z2)
    | (go_at_call 20; refine (Hof.out _).mono ?_; rintro e w' ⟨rfl, hb⟩; replace hB0 := hB0.trans (hb.mono hB0.size); clear hb u0 u1 u2)
    | (go_at_call 15; refine (Hi.out _).mono ?_; rintro e w' ⟨rfl, rfl⟩)
    | (go_at_call 16; refine (Hal.out _).mono ?_; rintro e w' ⟨rfl, hb⟩; replace hB0 := hB0.trans (hb.mono hB0.size); clear hb))
  refine (Ia.out _).mono ?_
  rintro e w1 ⟨rfl, hb⟩
  obtain ⟨k0, k1, k2, k3⟩ := four_keep (g := w'.heap.size) hb (by simp) kit_cells
  have hB1 : Below w.heap.size w w1 := (hB0.alloc hB0.size _).trans (hb.mono (by have := hB0.size; simp; omega))
  have hg1 : w'.heap.size < w1.heap.size := by have := hb.size; simp at this; omega
  clear hb hB0
  go_wp2_with fail
  refine (Ib.out _).mono ?_
  rintro e w2 ⟨rfl, hb⟩
  obtain ⟨k0, k1, k2, k3⟩ := four_keep (g := w'.heap.size) hb hg1 ⟨k0, k1, k2, k3⟩
  have HB := Lib.hid (hB1.trans (hb.mono hB1.size))
  have hg2 : w'.heap.size < w2.heap.size := Nat.lt_of_lt_of_le hg1 hb.size
  clear hb hB1 hg1
  go_wp2
  have e0 : ∀ y : Ext w2, y.val.cell? ⟨w'.heap.size, 0, none⟩ = some (I P) := fun y => (y.ok.cell (p := ⟨w'.heap.size, 0, none⟩) hg2).trans k0
  have e1 : ∀ y : Ext w2, y.val.cell? ⟨w'.heap.size, 1, none⟩ = some (I M) := fun y => (y.ok.cell (p := ⟨w'.heap.size, 1, none⟩) hg2).trans k1
  have e2 : ∀ y : Ext w2, y.val.cell? ⟨w'.heap.size, 2, none⟩ = some (I q) := fun y => (y.ok.cell (p := ⟨w'.heap.size, 2, none⟩) hg2).trans k2
  have e3 : ∀ y : Ext w2, y.val.cell? ⟨w'.heap.size, 3, none⟩ = some (I D) := fun y => (y.ok.cell (p := ⟨w'.heap.size, 3, none⟩) hg2).trans k3
  clear k0 k1 k2 k3
  refine wp_region_ext (by kernel_rfl) (by kernel_rfl) ?_
  repeat (go_big_quiet_step (first
    | (go_at_call 27; first | (with_reducible exact Fn.ext K1.out _ _) | (with_reducible exact Fn.ext K3.out _ _))
    | (go_at_call 28; exact Fn.ext K2.out _ _)
    | (go_at_call 29; exact Fn.ext K4'.out _ _)
    | (go_at_call 15; exact Fn.ext (Fs.fn (is_ok _)) _ _)
    | (go_at_call 16; exact Fn.ext Hal.out _ _)))
  refine wpQuiet_nil ?_
  rintro _ ⟨x, rfl⟩
  go_wp2
  go_ret
  exact ⟨rfl, HB.out.trans (x.ok.mono HB.out.size)⟩

theorem fieldMakes_any (P M a b : Int) : Fn 5 #[A2 P M, I a, I b] (.bool true) := by
  by_cases hv : vld P M = true
  · have hs := vld_spec hv
    obtain ⟨n, rfl⟩ := Int.eq_ofNat_of_zero_le (show 0 ≤ P by omega)
    obtain ⟨m, rfl⟩ := Int.eq_ofNat_of_zero_le (show 0 ≤ M by omega)
    by_cases hx : (0 ≤ a ∧ a < (fq n m : Nat)) ∧ (0 ≤ b ∧ b < (fq n m : Nat))
    · obtain ⟨x, rfl⟩ := Int.eq_ofNat_of_zero_le hx.1.1
      obtain ⟨y, rfl⟩ := Int.eq_ofNat_of_zero_le hx.2.1
      exact makes_ok n m x y hv (by omega) (by omega)
    · exact makes_arg n m a b hv hx
  · exact makes_form P M a b (Bool.eq_false_iff.2 hv)


end Go.Proofs.Ytbddhccbmieokaa
