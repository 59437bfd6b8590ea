/- Walks through the functions of the field and of its reference: what each call returns; no memory that was there is changed. -/
import Derived.Test.YtbddhccbmieokaaTf
namespace Go.Proofs.Ytbddhccbmieokaa
open Go.RowKit FieldMath
set_option linter.unusedVariables false
set_option linter.unusedSimpArgs false

theorem cells_keep {w1 w2 : World} {g : Nat} {p q : Value} (hb : Below w1.heap.size w1 w2) (hg : g < w1.heap.size) (h0 : w1.cell? ⟨g, 0, none⟩ = some p) (h1 : w1.cell? ⟨g, 1, none⟩ = some q) :
    w2.cell? ⟨g, 0, none⟩ = some p ∧ w2.cell? ⟨g, 1, none⟩ = some q ∧ g < w2.heap.size :=
  ⟨(hb.cell (p := ⟨g, 0, none⟩) hg).trans h0, (hb.cell (p := ⟨g, 1, none⟩) hg).trans h1, Nat.lt_of_lt_of_le hg hb.size⟩

set_option maxHeartbeats 2000000 in
theorem fieldValid_any (P M : Int) : Fn 3 #[A2 P M] (.bool true) := by
  intro w
  have Hal := Lib.hid alive_any
  have hW := box_cells (w := w) (P := P) (M := M) (t := 23) (Below.refl _ _)
  have hB0 : Below w.heap.size w (w.alloc (.cells #[I P, I M] 23)) := (Below.refl _ _).alloc (Nat.le_refl _) _
  by_cases hv : vld P M = true
  · have hs := vld_spec hv
    obtain ⟨n, rfl⟩ := Int.eq_ofNat_of_zero_le (show 0 ≤ P by omega)
    obtain ⟨m, rfl⟩ := Int.eq_ofNat_of_zero_le (show 0 ≤ M by omega)
    have hfv : FV n m := hv
    have hs' := hfv.spec
    have hq := fq_cases hfv
    have Hr := Lib.hid (show Fn 10 #[A2 n m] (I (fq n m)) by rw [← ord_fq hfv]; exact rorder_any n m)
    have Ho := Lib.hid (order_fv hfv)
    have Hv := Lib.hid (valid_yes hv)
    by_cases hm : m = 1
    · have Hmod := Lib.hid (show Fn 12 #[A2 n m] (T2 0 6) by subst hm; exact modulus_one n hfv)
      have hm1 : ¬ (1 : Int) < m := by omega
      have Hi := Lib.hid (is_bad 6 0 (by omega))
      clear hfv hv hs hs' hm
      generalize fq n m = q at *
      go_enter Try.func3, Try.ntmps3
      go_wp2_with (first
        | (go_at_call 10; refine (Hr.out _).mono ?_; rintro e w' ⟨rfl, hb⟩; obtain ⟨x0, x1, x2⟩ := cells_keep hb hW.2.2 hW.1 hW.2.1; replace hB0 := hB0.trans (hb.mono hB0.size); clear hb hW)
        | (go_at_call 12; refine (Hmod.out _).mono ?_; rintro e w' ⟨rfl, hb⟩; obtain ⟨y0, y1, y2⟩ := cells_keep hb x2 x0 x1; replace hB0 := hB0.trans (hb.mono hB0.size); clear hb x0 x1 x2)
        | (go_at_call 13; refine (Hv.out _).mono ?_; rintro e w' ⟨rfl, hb⟩; obtain ⟨z0, z1, z2⟩ := cells_keep hb y2 y0 y1; replace hB0 := hB0.trans (hb.mono hB0.size); clear hb y0 y1 y2)
        | (go_at_call 14; refine (Ho.out _).mono ?_; rintro e w' ⟨rfl, hb⟩; replace hB0 := hB0.trans (hb.mono hB0.size); clear hb z0 z1 z2)
        | (go_at_call 15; refine (Hi.out _).mono ?_; rintro e w' ⟨rfl, rfl⟩)
        | (go_at_call 16; refine (Hal.out _).mono ?_; rintro e w' ⟨rfl, hb⟩; replace hB0 := hB0.trans (hb.mono hB0.size); clear hb))
      go_ret
      exact ⟨rfl, hB0⟩
    · have Hmod := Lib.hid (modulus_bit n m hfv hm)
      have Hrm := Lib.hid (rmodulus m (by omega) hs'.2.2.2.1)
      have hm1 : (1 : Int) < m := by omega
      have Hi := Lib.hid (is_ok (modT m : Nat))
      clear hfv hv hs hs' hm
      generalize fq n m = q at *
      generalize modT m = D at *
      go_enter Try.func3, Try.ntmps3
      go_wp2_with (first
        | (go_at_call 10; refine (Hr.out _).mono ?_; rintro e w' ⟨rfl, hb⟩; obtain ⟨x0, x1, x2⟩ := cells_keep hb hW.2.2 hW.1 hW.2.1; replace hB0 := hB0.trans (hb.mono hB0.size); clear hb hW)
        | (go_at_call 11; refine (Hrm.out _).mono ?_; rintro e w' ⟨rfl, rfl⟩)
        | (go_at_call 12; refine (Hmod.out _).mono ?_; rintro e w' ⟨rfl, hb⟩; obtain ⟨y0, y1, y2⟩ := cells_keep hb x2 x0 x1; replace hB0 := hB0.trans (hb.mono hB0.size); clear hb x0 x1 x2)
        | (go_at_call 13; refine (Hv.out _).mono ?_; rintro e w' ⟨rfl, hb⟩; obtain ⟨z0, z1, z2⟩ := cells_keep hb y2 y0 y1; replace hB0 := hB0.trans (hb.mono hB0.size); clear hb y0 y1 y2)
        | (go_at_call 14; refine (Ho.out _).mono ?_; rintro e w' ⟨rfl, hb⟩; replace hB0 := hB0.trans (hb.mono hB0.size); clear hb z0 z1 z2)
        | (go_at_call 15; refine (Hi.out _).mono ?_; rintro e w' ⟨rfl, rfl⟩)
        | (go_at_call 16; refine (Hal.out _).mono ?_; rintro e w' ⟨rfl, hb⟩; replace hB0 := hB0.trans (hb.mono hB0.size); clear hb))
      go_ret
      exact ⟨rfl, hB0⟩
  · have hv' := Bool.eq_false_iff.2 hv
    have Hr := Lib.hid (show Fn 10 #[A2 P M] (I 0) by have := rorder_any P M; rwa [show ord P M = 0 by unfold ord; rw [if_neg hv]] at this)
    have Ho := Lib.hid (show Fn 14 #[A2 P M] (I 0) by have := order_any P M; rwa [show ord P M = 0 by unfold ord; rw [if_neg hv]] at this)
    have Hv := Lib.hid (valid_not hv')
    have Hmod := Lib.hid (modulus_form P M hv')
    have Hi := Lib.hid (is_bad 1 0 (by omega))
    clear hv hv'
    go_enter Try.func3, Try.ntmps3
    go_wp2_with (first
      | (go_at_call 10; refine (Hr.out _).mono ?_; rintro e w' ⟨rfl, hb⟩; obtain ⟨x0, x1, x2⟩ := cells_keep hb hW.2.2 hW.1 hW.2.1; replace hB0 := hB0.trans (hb.mono hB0.size); clear hb hW)
      | (go_at_call 12; refine (Hmod.out _).mono ?_; rintro e w' ⟨rfl, hb⟩; obtain ⟨y0, y1, y2⟩ := cells_keep hb x2 x0 x1; replace hB0 := hB0.trans (hb.mono hB0.size); clear hb x0 x1 x2)
      | (go_at_call 13; refine (Hv.out _).mono ?_; rintro e w' ⟨rfl, hb⟩; obtain ⟨z0, z1, z2⟩ := cells_keep hb y2 y0 y1; replace hB0 := hB0.trans (hb.mono hB0.size); clear hb y0 y1 y2)
      | (go_at_call 14; refine (Ho.out _).mono ?_; rintro e w' ⟨rfl, hb⟩; replace hB0 := hB0.trans (hb.mono hB0.size); clear hb z0 z1 z2)
      | (go_at_call 15; refine (Hi.out _).mono ?_; rintro e w' ⟨rfl, rfl⟩)
      | (go_at_call 16; refine (Hal.out _).mono ?_; rintro e w' ⟨rfl, hb⟩; replace hB0 := hB0.trans (hb.mono hB0.size); clear hb))
    go_ret
    exact ⟨rfl, hB0⟩

end Go.Proofs.Ytbddhccbmieokaa
