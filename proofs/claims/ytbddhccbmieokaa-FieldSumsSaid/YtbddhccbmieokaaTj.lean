/- Walks through the law of the roots: it returns true; no memory that was there is changed. -/
import Derived.Test.YtbddhccbmieokaaTi
import Derived.Test.YtbddhccbmieokaaFf
namespace Go.Proofs.Ytbddhccbmieokaa
open Go.RowKit FieldMath
set_option linter.unusedVariables false
set_option linter.unusedSimpArgs false

theorem isb {e v : Int} (he : e ≠ 0) (w : World) : Calls Try.prog 15 #[I 0, I e, I v, I e] w fun x w' => x = .returned (.bool true) ∧ w = w' := is_bad e v he w
theorem iso (a : Int) (w : World) : Calls Try.prog 15 #[I a, I 0, I a, I 0] w fun x w' => x = .returned (.bool true) ∧ w = w' := is_ok a w
theorem pow_is {P M r : Nat} (hv : FV P M) (hr : r < fq P M) (k : Nat) : fpow P M r k = pw (fmul P M) r k := fpow_pw hv hr k
theorem root_ord {P M n r : Nat} (hv : FV P M) (hr : r < fq P M) (hn : 1 ≤ n) : rootOk P M n r ↔ Ord (fmul P M) r n := by
  have F := ff_valid (P := P) (M := M) hv
  constructor
  · rintro ⟨h1, h2⟩
    rw [pow_is hv hr] at h1
    refine ⟨h1, fun d hd => ?_⟩
    have hg := F.pw_gcd hr d n hd h1
    have hgn := Nat.gcd_dvd_right d n
    obtain ⟨u, hu⟩ := hgn
    rcases Nat.lt_or_ge u 2 with hl | hl
    · have : u = 1 := by
        have : u = 0 ∨ u = 1 := by omega
        rcases this with rfl | rfl
        · simp at hu; omega
        · rfl
      subst this
      rw [Nat.mul_one] at hu
      rw [hu]
      exact Nat.gcd_dvd_left _ _
    · exfalso
      obtain ⟨p, hp, v, rfl⟩ := exists_prm u hl
      have hp2 := hp.1
      have hpn : n = p * (Nat.gcd d n * v) := by rw [Nat.mul_left_comm] at hu; exact hu
      have hdiv : n / p = Nat.gcd d n * v := Nat.div_eq_of_eq_mul_right (show 0 < p by omega) hpn
      have hple : p ≤ n := Nat.le_of_dvd (show 0 < n by omega) ⟨_, hpn⟩
      refine h2 p (by omega) hp2 (Nat.mod_eq_zero_of_dvd ⟨_, hpn⟩) hp ?_
      rw [pow_is hv hr, hdiv]
      exact F.pw_mult hr hg ⟨v, rfl⟩
  · rintro ⟨h1, h2⟩
    refine ⟨by rw [pow_is hv hr]; exact h1, fun c hc hc2 h0 hp hcon => ?_⟩
    rw [pow_is hv hr] at hcon
    have h3 := h2 _ hcon
    have h4 : 0 < n / c := Nat.div_pos (by omega) (by omega)
    have h5 := Nat.le_of_dvd h4 h3
    have h6 : n / c < n := Nat.div_lt_self (by omega) (by omega)
    omega
theorem rootR_ord {P M n r : Nat} (hv : FV P M) (hr : r < fq P M) (hn : 1 ≤ n) : rootR P M n r ↔ Ord (fmul P M) r n := by
  have F := ff_valid (P := P) (M := M) hv
  constructor
  · rintro ⟨h1, h2⟩
    rw [pow_is hv hr] at h1
    refine ⟨h1, fun d hd => ?_⟩
    have hg := F.pw_gcd hr d n hd h1
    have hgn := Nat.gcd_dvd_right d n
    have hpos : 0 < Nat.gcd d n := Nat.gcd_pos_of_pos_right d (by omega)
    have hle := Nat.le_of_dvd (by omega) hgn
    rcases Nat.lt_or_ge (Nat.gcd d n) n with hl | hl
    · exact absurd (by rw [pow_is hv hr]; exact hg) (h2 _ hl hpos (Nat.mod_eq_zero_of_dvd hgn))
    · have : Nat.gcd d n = n := by omega
      exact this ▸ Nat.gcd_dvd_left d n
  · rintro ⟨h1, h2⟩
    refine ⟨by rw [pow_is hv hr]; exact h1, fun c hc hc2 h0 hcon => ?_⟩
    rw [pow_is hv hr] at hcon
    have := Nat.le_of_dvd (by omega) (h2 _ hcon)
    omega
/-- the least element of an order -/
theorem least_root {P M n : Nat} (hv : FV P M) (hn : 1 ≤ n) (hd : (fq P M - 1) % n = 0) :
    ∃ r0, 1 ≤ r0 ∧ r0 < fq P M ∧ Ord (fmul P M) r0 n ∧ ∀ r, 1 ≤ r → r < r0 → ¬ Ord (fmul P M) r n := by
  have F := ff_valid (P := P) (M := M) hv
  obtain ⟨g, hg, hg0, ho⟩ := F.exists_ord n (by omega) (Nat.dvd_of_mod_eq_zero hd)
  obtain ⟨r0, ⟨h1, h2, h3⟩, h4⟩ := least_of (p := fun r => 1 ≤ r ∧ r < fq P M ∧ Ord (fmul P M) r n) ⟨g, by omega, hg, ho⟩
  exact ⟨r0, h1, h2, h3, fun r hr hlt ho => h4 r hlt ⟨hr, by omega, ho⟩⟩
theorem root_both {P M n : Nat} (hv : FV P M) (hn : 1 ≤ n) (hd : (fq P M - 1) % n = 0) :
    ∃ r0, 1 ≤ r0 ∧ r0 < fq P M ∧ Ord (fmul P M) r0 n ∧ Fn 18 #[A2 P M, I n] (T2 r0 0) ∧ Fn 21 #[KV P M, I n] (I r0) := by
  obtain ⟨r0, h1, h2, h3, h4⟩ := least_root hv hn hd
  exact ⟨r0, h1, h2, h3, root_ok P M n r0 hv hn hd h2 h1 ((root_ord hv h2 hn).2 h3) (fun r hr hlt h => h4 r hr hlt ((root_ord hv (by omega) hn).1 h)),
    kroot_ok P M n r0 hv hn hd h2 h1 ((rootR_ord hv h2 hn).2 h3) (fun r hr hlt h => h4 r hr hlt ((rootR_ord hv (by omega) hn).1 h))⟩
theorem sumV {P M n e r0 : Nat} (hv : FV P M) (hn : 1 ≤ n) (hd : (fq P M - 1) % n = 0) (he : e < 2 ^ 63) (hr : r0 < fq P M) (hroot : Fn 18 #[A2 P M, I n] (T2 r0 0)) :
    Fn 19 #[A2 P M, I n, I e] (T2 (sumL P M (fpow P M r0 e) n 0 1 : Nat) 0) := by
  have hq := fq_cases hv
  have hkq : n ≤ fq P M - 1 := Nat.le_of_dvd (by omega) (Nat.dvd_of_mod_eq_zero hd)
  by_cases h : M = 1
  · subst h
    exact sum_res P n e r0 hv hn he (by omega) hr hroot
  · rw [fq_more h] at hr
    exact sum_bit P M n e r0 hv h hn he (by omega) hr hroot
theorem sum_same {P M e r0 : Nat} (hv : FV P M) (hr : r0 < fq P M) : ∀ n j s, sumL P M (fpow P M r0 e) n s (pw (fmul P M) r0 (e * j)) = sumR P M r0 e n s (pw (fmul P M) r0 j)
  | 0, _, _ => rfl
  | n + 1, j, s => by
    have F := ff_valid (P := P) (M := M) hv
    have hj := F.pwC hr j
    have ej := F.pwC hr (e * j)
    have ih := sum_same (e := e) hv hr n (j + 1) (fadd P M s (pw (fmul P M) r0 (e * j)))
    rw [sumL, sumR]
    have e1 : fmul P M (pw (fmul P M) r0 (e * j)) (fpow P M r0 e) = pw (fmul P M) r0 (e * (j + 1)) := by rw [pow_is hv hr, ← F.pw_add hr, Nat.mul_succ]
    have e2 : fpow P M (pw (fmul P M) r0 j) e = pw (fmul P M) r0 (e * j) := by rw [pow_is hv hj, ← F.pw_mul hr, Nat.mul_comm]
    rw [e1, e2, ih]
    rfl
theorem sum_eq {P M n e r0 : Nat} (hv : FV P M) (hr : r0 < fq P M) : sumL P M (fpow P M r0 e) n 0 1 = sumR P M r0 e n 0 1 := by
  have := sum_same (e := e) hv hr n 0 0
  rwa [Nat.mul_zero] at this

set_option maxHeartbeats 4000000 in
theorem roots_form (P M n e : Int) (hv : vld P M = false) : Fn 4 #[A2 P M, I n, I e] (.bool true) := by
  intro w
  have Hal := Lib.hid alive_any
  obtain ⟨hx0, hx1, hx2⟩ := box_cells (w := w) (P := P) (M := M) (t := 23) (Below.refl _ _)
  have hB0 : Below w.heap.size w (w.alloc (.cells #[I P, I M] 23)) := (Below.refl _ _).alloc (Nat.le_refl _) _
  have H1 := Lib.hid (root_form P M n hv)
  have H2 := Lib.hid (sum_form P M n e hv)
  have Hv := Lib.hid (rvalid_not hv)
  have HI := Lib.hid (is_bad 1 0 (by omega))
  clear hv
  by_cases h3 : 3000 < n
  all_goals
    go_enter Try.func4, Try.ntmps4
    go_wp2_with (first
      | (go_at_call 17; refine (Hv.out _).mono ?_; rintro e w' ⟨rfl, hb⟩; replace hB0 := hB0.trans (hb.mono hB0.size); have hn := cells_keep hb hx2 hx0 hx1; clear hx0 hx1 hx2 hb; obtain ⟨hx0, hx1, hx2⟩ := hn)
      | (go_at_call 18; refine (H1.out _).mono ?_; rintro e w' ⟨rfl, hb⟩; replace hB0 := hB0.trans (hb.mono hB0.size); have hn := cells_keep hb hx2 hx0 hx1; clear hx0 hx1 hx2 hb; obtain ⟨hx0, hx1, hx2⟩ := hn)
      | (go_at_call 19; refine (H2.out _).mono ?_; rintro e w' ⟨rfl, hb⟩; replace hB0 := hB0.trans (hb.mono hB0.size); have hn := cells_keep hb hx2 hx0 hx1; clear hx0 hx1 hx2 hb; obtain ⟨hx0, hx1, hx2⟩ := hn)
      | (go_at_call 15; refine (HI.out _).mono ?_; rintro e w' ⟨rfl, rfl⟩)
      | (go_at_call 16; refine (Hal.out _).mono ?_; rintro e w' ⟨rfl, hb⟩; replace hB0 := hB0.trans (hb.mono hB0.size); clear hb))
    go_ret
    exact ⟨rfl, hB0⟩

set_option maxHeartbeats 4000000 in
theorem roots_arg (P M : Nat) (n e : Int) (hv : FV P M) (hn : n < 1) : Fn 4 #[A2 P M, I n, I e] (.bool true) := by
  intro w
  have Hal := Lib.hid alive_any
  obtain ⟨hx0, hx1, hx2⟩ := box_cells (w := w) (P := P) (M := M) (t := 23) (Below.refl _ _)
  have hB0 : Below w.heap.size w (w.alloc (.cells #[I P, I M] 23)) := (Below.refl _ _).alloc (Nat.le_refl _) _
  have H1 := Lib.hid (root_arg P M n hv hn)
  have H2 := Lib.hid (sum_arg P M n e hv (.inl hn))
  have Hv := Lib.hid (rvalid_yes (P := P) (M := M) hv)
  have Hof := Lib.hid (of_kit P M hv)
  have HI := Lib.hid (is_bad 2 0 (by omega))
  unfold KV at *
  clear hv
  have h3 : ¬ 3000 < n := by omega
  generalize fq P M = q at *
  generalize mdl M = D at *
  go_enter Try.func4, Try.ntmps4
  go_wp2_with (first
    | (go_at_call 18; refine (H1.out _).mono ?_; rintro e w' ⟨rfl, hb⟩; replace hB0 := hB0.trans (hb.mono hB0.size); have hn := cells_keep hb hx2 hx0 hx1; clear hx0 hx1 hx2 hb; obtain ⟨hx0, hx1, hx2⟩ := hn)
    | (go_at_call 19; refine (H2.out _).mono ?_; rintro e w' ⟨rfl, hb⟩; replace hB0 := hB0.trans (hb.mono hB0.size); have hn := cells_keep hb hx2 hx0 hx1; clear hx0 hx1 hx2 hb; obtain ⟨hx0, hx1, hx2⟩ := hn)
    | (go_at_call 17; refine (Hv.out _).mono ?_; rintro e w' ⟨rfl, hb⟩; replace hB0 := hB0.trans (hb.mono hB0.size); have hn := cells_keep hb hx2 hx0 hx1; clear hx0 hx1 hx2 hb; obtain ⟨hx0, hx1, hx2⟩ := hn)
    | (go_at_call 20; refine (Hof.out _).mono ?_; rintro e w' ⟨rfl, hb⟩; replace hB0 := hB0.trans (hb.mono hB0.size); have hn := cells_keep hb hx2 hx0 hx1; clear hx0 hx1 hx2 hb; obtain ⟨hx0, hx1, hx2⟩ := hn)
    | (go_at_call 15; refine (HI.out _).mono ?_; rintro e w' ⟨rfl, rfl⟩)
    | (go_at_call 16; refine (Hal.out _).mono ?_; rintro e w' ⟨rfl, hb⟩; have hB2 := (hB0.alloc hB0.size (.cells #[I P, I M, I q, I D] 35)).trans (hb.mono (by have := hB0.size; simp; omega)); clear hb))
  go_ret
  exact ⟨rfl, hB2⟩

set_option maxHeartbeats 4000000 in
theorem roots_none (P M n : Nat) (e : Int) (hv : FV P M) (hn : 1 ≤ n) (hd : (fq P M - 1) % n ≠ 0) : Fn 4 #[A2 P M, I n, I e] (.bool true) := by
  intro w
  have Hal := Lib.hid alive_any
  obtain ⟨hx0, hx1, hx2⟩ := box_cells (w := w) (P := P) (M := M) (t := 23) (Below.refl _ _)
  have hB0 : Below w.heap.size w (w.alloc (.cells #[I P, I M] 23)) := (Below.refl _ _).alloc (Nat.le_refl _) _
  have hq := fq_cases hv
  have hc0 : ((((fq P M : Nat) : Int) - 1) % (n : Int) == 0) = false := by
    rw [beq_eq_false_iff_ne, show ((fq P M : Nat) : Int) - 1 = ((fq P M - 1 : Nat) : Int) by omega]
    exact_mod_cast hd
  have hc1 : ((((fq P M : Nat) : Int) - 1) % (n : Int) != 0) = true := by
    rw [bne_iff_ne, show ((fq P M : Nat) : Int) - 1 = ((fq P M - 1 : Nat) : Int) by omega]
    exact_mod_cast hd
  have H1 := Lib.hid (root_none P M n hv hn hd)
  have H3 := Lib.hid (kroot_none P M n hq (.inr ⟨by omega, by rw [show ((fq P M : Nat) : Int) - 1 = ((fq P M - 1 : Nat) : Int) by omega]; exact_mod_cast hd⟩))
  have Hv := Lib.hid (rvalid_yes (P := P) (M := M) hv)
  have Hof := Lib.hid (of_kit P M hv)
  have Hro := Lib.hid (show Fn 10 #[A2 P M] (I (fq P M : Nat)) by rw [← ord_fq hv]; exact rorder_any P M)
  have HI := Lib.hid (fun w => isb (e := 6) (v := 0) (by omega) w)
  have hn1 : 1 ≤ (n : Int) := by omega
  by_cases he : e < 0
  · have H2 := Lib.hid (sum_arg P M n e hv (.inr he))
    have HI2 := Lib.hid (fun w => isb (e := 2) (v := 0) (by omega) w)
    unfold KV at *
    clear hv hd
    generalize fq P M = q at *
    generalize mdl M = D at *
    by_cases h3 : 3000 < n
    all_goals
      go_enter Try.func4, Try.ntmps4
      go_wp2_with (first
        | (go_at_call 18; refine (H1.out _).mono ?_; rintro e w' ⟨rfl, hb⟩; replace hB0 := hB0.trans (hb.mono hB0.size); have hn := cells_keep hb hx2 hx0 hx1; clear hx0 hx1 hx2 hb; obtain ⟨hx0, hx1, hx2⟩ := hn)
        | (go_at_call 19; refine (H2.out _).mono ?_; rintro e w' ⟨rfl, hb⟩; replace hB0 := hB0.trans (hb.mono hB0.size); have hn := cells_keep hb hx2 hx0 hx1; clear hx0 hx1 hx2 hb; obtain ⟨hx0, hx1, hx2⟩ := hn)
        | (go_at_call 17; refine (Hv.out _).mono ?_; rintro e w' ⟨rfl, hb⟩; replace hB0 := hB0.trans (hb.mono hB0.size); have hn := cells_keep hb hx2 hx0 hx1; clear hx0 hx1 hx2 hb; obtain ⟨hx0, hx1, hx2⟩ := hn)
        | (go_at_call 10; refine (Hro.out _).mono ?_; rintro e w' ⟨rfl, hb⟩; replace hB0 := hB0.trans (hb.mono hB0.size); have hn := cells_keep hb hx2 hx0 hx1; clear hx0 hx1 hx2 hb; obtain ⟨hx0, hx1, hx2⟩ := hn)
        | (go_at_call 20; refine (Hof.out _).mono ?_; rintro e w' ⟨rfl, hb⟩; replace hB0 := hB0.trans (hb.mono hB0.size); have hn := cells_keep hb hx2 hx0 hx1; clear hx0 hx1 hx2 hb; obtain ⟨hx0, hx1, hx2⟩ := hn)
        | (go_at_call 21; refine (H3.out _).mono ?_; rintro e w' ⟨rfl, hb⟩; have hB2 := (hB0.alloc hB0.size (.cells #[I P, I M, I q, I D] 35)).trans (hb.mono (by have := hB0.size; simp; omega)); clear hb)
        | (go_at_call 15; (first | (with_reducible refine (HI.out _).mono ?_) | (with_reducible refine (HI2.out _).mono ?_)); rintro e w' ⟨rfl, rfl⟩)
        | (go_at_call 16; refine (Hal.out _).mono ?_; rintro e w' ⟨rfl, hb⟩; replace hB2 := hB2.trans (hb.mono hB2.size); clear hb))
      go_ret
      exact ⟨rfl, hB2⟩
  · obtain ⟨e, rfl⟩ := Int.eq_ofNat_of_zero_le (show 0 ≤ e by omega)
    have H2 := Lib.hid (sum_none P M n e hv hn hd)
    have HI2 := Lib.hid (fun w => isb (e := 2) (v := 0) (by omega) w)
    unfold KV at *
    clear hv hd
    generalize fq P M = q at *
    generalize mdl M = D at *
    by_cases h3 : 3000 < n
    all_goals
      go_enter Try.func4, Try.ntmps4
      go_wp2_with (first
        | (go_at_call 18; refine (H1.out _).mono ?_; rintro e w' ⟨rfl, hb⟩; replace hB0 := hB0.trans (hb.mono hB0.size); have hn := cells_keep hb hx2 hx0 hx1; clear hx0 hx1 hx2 hb; obtain ⟨hx0, hx1, hx2⟩ := hn)
        | (go_at_call 19; refine (H2.out _).mono ?_; rintro e w' ⟨rfl, hb⟩; replace hB0 := hB0.trans (hb.mono hB0.size); have hn := cells_keep hb hx2 hx0 hx1; clear hx0 hx1 hx2 hb; obtain ⟨hx0, hx1, hx2⟩ := hn)
        | (go_at_call 17; refine (Hv.out _).mono ?_; rintro e w' ⟨rfl, hb⟩; replace hB0 := hB0.trans (hb.mono hB0.size); have hn := cells_keep hb hx2 hx0 hx1; clear hx0 hx1 hx2 hb; obtain ⟨hx0, hx1, hx2⟩ := hn)
        | (go_at_call 10; refine (Hro.out _).mono ?_; rintro e w' ⟨rfl, hb⟩; replace hB0 := hB0.trans (hb.mono hB0.size); have hn := cells_keep hb hx2 hx0 hx1; clear hx0 hx1 hx2 hb; obtain ⟨hx0, hx1, hx2⟩ := hn)
        | (go_at_call 20; refine (Hof.out _).mono ?_; rintro e w' ⟨rfl, hb⟩; replace hB0 := hB0.trans (hb.mono hB0.size); have hn := cells_keep hb hx2 hx0 hx1; clear hx0 hx1 hx2 hb; obtain ⟨hx0, hx1, hx2⟩ := hn)
        | (go_at_call 21; refine (H3.out _).mono ?_; rintro e w' ⟨rfl, hb⟩; have hB2 := (hB0.alloc hB0.size (.cells #[I P, I M, I q, I D] 35)).trans (hb.mono (by have := hB0.size; simp; omega)); clear hb)
        | (go_at_call 15; (first | (with_reducible refine (HI.out _).mono ?_) | (with_reducible refine (HI2.out _).mono ?_)); rintro e w' ⟨rfl, rfl⟩)
        | (go_at_call 16; refine (Hal.out _).mono ?_; rintro e w' ⟨rfl, hb⟩; replace hB2 := hB2.trans (hb.mono hB2.size); clear hb))
      go_ret
      exact ⟨rfl, hB2⟩

set_option maxHeartbeats 4000000 in
theorem roots_big (P M n : Nat) (e : Int) (hv : FV P M) (hn : 3000 < n) (hd : (fq P M - 1) % n = 0) : Fn 4 #[A2 P M, I n, I e] (.bool true) := by
  intro w
  have Hal := Lib.hid alive_any
  obtain ⟨hx0, hx1, hx2⟩ := box_cells (w := w) (P := P) (M := M) (t := 23) (Below.refl _ _)
  have hB0 : Below w.heap.size w (w.alloc (.cells #[I P, I M] 23)) := (Below.refl _ _).alloc (Nat.le_refl _) _
  have hq := fq_cases hv
  have hc0 : ((((fq P M : Nat) : Int) - 1) % (n : Int) == 0) = true := by
    rw [beq_iff_eq, show ((fq P M : Nat) : Int) - 1 = ((fq P M - 1 : Nat) : Int) by omega]
    exact_mod_cast hd
  have Hv := Lib.hid (rvalid_yes (P := P) (M := M) hv)
  have Hro := Lib.hid (show Fn 10 #[A2 P M] (I (fq P M : Nat)) by rw [← ord_fq hv]; exact rorder_any P M)
  have hn1 : 1 ≤ (n : Int) := by omega
  clear hv hd
  generalize fq P M = q at *
  go_enter Try.func4, Try.ntmps4
  go_wp2_with (first
    | (go_at_call 17; refine (Hv.out _).mono ?_; rintro e w' ⟨rfl, hb⟩; replace hB0 := hB0.trans (hb.mono hB0.size); have hn := cells_keep hb hx2 hx0 hx1; clear hx0 hx1 hx2 hb; obtain ⟨hx0, hx1, hx2⟩ := hn)
    | (go_at_call 10; refine (Hro.out _).mono ?_; rintro e w' ⟨rfl, hb⟩; replace hB0 := hB0.trans (hb.mono hB0.size); have hn := cells_keep hb hx2 hx0 hx1; clear hx0 hx1 hx2 hb; obtain ⟨hx0, hx1, hx2⟩ := hn)
    | (go_at_call 16; refine (Hal.out _).mono ?_; rintro e w' ⟨rfl, hb⟩; replace hB0 := hB0.trans (hb.mono hB0.size); clear hb))
  go_ret
  exact ⟨rfl, hB0⟩

set_option maxHeartbeats 4000000 in
theorem roots_ok (P M n : Nat) (e : Int) (hv : FV P M) (hn : 1 ≤ n) (hn3 : n ≤ 3000) (he3 : e < 9223372036854775808) (hd : (fq P M - 1) % n = 0) : Fn 4 #[A2 P M, I n, I e] (.bool true) := by
  intro w
  have Hal := Lib.hid alive_any
  obtain ⟨hx0, hx1, hx2⟩ := box_cells (w := w) (P := P) (M := M) (t := 23) (Below.refl _ _)
  have hB0 : Below w.heap.size w (w.alloc (.cells #[I P, I M] 23)) := (Below.refl _ _).alloc (Nat.le_refl _) _
  have hq := fq_cases hv
  have hc1 : ((((fq P M : Nat) : Int) - 1) % (n : Int) != 0) = false := by
    rw [bne_eq_false_iff_eq, show ((fq P M : Nat) : Int) - 1 = ((fq P M - 1 : Nat) : Int) by omega]
    exact_mod_cast hd
  obtain ⟨r0, hr1, hr2, ho, hR1, hR3⟩ := root_both hv hn hd
  have H1 := Lib.hid hR1
  have H3 := Lib.hid hR3
  have Hv := Lib.hid (rvalid_yes (P := P) (M := M) hv)
  have Hof := Lib.hid (of_kit P M hv)
  have HI := Lib.hid (fun w => iso (r0 : Nat) w)
  have hn1 : 1 ≤ (n : Int) := by omega
  by_cases he : e < 0
  · have H2 := Lib.hid (sum_arg P M n e hv (.inr he))
    have HI2 := Lib.hid (fun w => isb (e := 2) (v := 0) (by omega) w)
    unfold KV at *
    clear hv hd hR1 hR3 ho he3
    generalize fq P M = q at *
    generalize mdl M = D at *
    go_enter Try.func4, Try.ntmps4
    go_wp2_with (first
      | (go_at_call 18; refine (H1.out _).mono ?_; rintro e w' ⟨rfl, hb⟩; replace hB0 := hB0.trans (hb.mono hB0.size); have hn := cells_keep hb hx2 hx0 hx1; clear hx0 hx1 hx2 hb; obtain ⟨hx0, hx1, hx2⟩ := hn)
      | (go_at_call 19; refine (H2.out _).mono ?_; rintro e w' ⟨rfl, hb⟩; replace hB0 := hB0.trans (hb.mono hB0.size); have hn := cells_keep hb hx2 hx0 hx1; clear hx0 hx1 hx2 hb; obtain ⟨hx0, hx1, hx2⟩ := hn)
      | (go_at_call 17; refine (Hv.out _).mono ?_; rintro e w' ⟨rfl, hb⟩; replace hB0 := hB0.trans (hb.mono hB0.size); have hn := cells_keep hb hx2 hx0 hx1; clear hx0 hx1 hx2 hb; obtain ⟨hx0, hx1, hx2⟩ := hn)
      | (go_at_call 20; refine (Hof.out _).mono ?_; rintro e w' ⟨rfl, hb⟩; replace hB0 := hB0.trans (hb.mono hB0.size); have hn := cells_keep hb hx2 hx0 hx1; clear hx0 hx1 hx2 hb; obtain ⟨hx0, hx1, hx2⟩ := hn)
      | (go_at_call 21; refine (H3.out _).mono ?_; rintro e w' ⟨rfl, hb⟩; have hB2 := (hB0.alloc hB0.size (.cells #[I P, I M, I q, I D] 35)).trans (hb.mono (by have := hB0.size; simp; omega)); clear hb)
      | (go_at_call 15; (first | (with_reducible refine (HI.out _).mono ?_) | (with_reducible refine (HI2.out _).mono ?_)); rintro e w' ⟨rfl, rfl⟩)
      | (go_at_call 16; refine (Hal.out _).mono ?_; rintro e w' ⟨rfl, hb⟩; replace hB2 := hB2.trans (hb.mono hB2.size); clear hb))
    go_ret
    exact ⟨rfl, hB2⟩
  · obtain ⟨e, rfl⟩ := Int.eq_ofNat_of_zero_le (show 0 ≤ e by omega)
    have hee : e < 2 ^ 63 := by omega
    have H2 := Lib.hid (sumV hv hn hd hee hr2 hR1)
    have H4 := Lib.hid (ksum P M n e r0 hv (by omega) hee hr2 hR3)
    have Hse := Lib.hid (sum_eq (n := n) (e := e) hv hr2)
    rw [Hse.out] at H2
    have HI2 := Lib.hid (fun w => iso (sumR P M r0 e n 0 1 : Nat) w)
    unfold KV at *
    clear hv hd hR1 hR3 ho he3 hee Hse
    generalize sumR P M r0 e n 0 1 = S at *
    generalize fq P M = q at *
    generalize mdl M = D at *
    go_enter Try.func4, Try.ntmps4
    go_wp2_with (first
      | (go_at_call 18; refine (H1.out _).mono ?_; rintro e w' ⟨rfl, hb⟩; replace hB0 := hB0.trans (hb.mono hB0.size); have hn := cells_keep hb hx2 hx0 hx1; clear hx0 hx1 hx2 hb; obtain ⟨hx0, hx1, hx2⟩ := hn)
      | (go_at_call 19; refine (H2.out _).mono ?_; rintro e w' ⟨rfl, hb⟩; replace hB0 := hB0.trans (hb.mono hB0.size); have hn := cells_keep hb hx2 hx0 hx1; clear hx0 hx1 hx2 hb; obtain ⟨hx0, hx1, hx2⟩ := hn)
      | (go_at_call 17; refine (Hv.out _).mono ?_; rintro e w' ⟨rfl, hb⟩; replace hB0 := hB0.trans (hb.mono hB0.size); have hn := cells_keep hb hx2 hx0 hx1; clear hx0 hx1 hx2 hb; obtain ⟨hx0, hx1, hx2⟩ := hn)
      | (go_at_call 20; refine (Hof.out _).mono ?_; rintro e w' ⟨rfl, hb⟩; replace hB0 := hB0.trans (hb.mono hB0.size); have hn := cells_keep hb hx2 hx0 hx1; clear hx0 hx1 hx2 hb; obtain ⟨hx0, hx1, hx2⟩ := hn))
    refine (H3.out _).mono ?_
    rintro e1 w1 ⟨rfl, hb⟩
    obtain ⟨k0, k1, k2, k3⟩ := four_keep (g := w'.heap.size) hb (by simp) kit_cells
    have hB1 : Below w.heap.size w w1 := (hB0.alloc hB0.size _).trans (hb.mono (by have := hB0.size; simp; omega))
    clear hb hB0 hx0 hx1 hx2
    go_wp2_with (first
      | (go_at_call 15; (first | (with_reducible refine (HI.out _).mono ?_) | (with_reducible refine (HI2.out _).mono ?_)); rintro e w' ⟨rfl, rfl⟩)
      | (go_at_call 22; refine (H4.out _).mono ?_; rintro e w' ⟨rfl, hb⟩; replace hB1 := hB1.trans (hb.mono hB1.size); clear hb)
      | (go_at_call 16; refine (Hal.out _).mono ?_; rintro e w' ⟨rfl, hb⟩; replace hB1 := hB1.trans (hb.mono hB1.size); clear hb))
    go_ret
    exact ⟨rfl, hB1⟩

theorem fieldRoots_any (P M n e : Int) (hn : n < 9223372036854775808) (he : e < 9223372036854775808) : Fn 4 #[A2 P M, I n, I e] (.bool true) := by
  by_cases hv : vld P M = true
  · have hs := vld_spec hv
    obtain ⟨p, rfl⟩ := Int.eq_ofNat_of_zero_le (show 0 ≤ P by omega)
    obtain ⟨m, rfl⟩ := Int.eq_ofNat_of_zero_le (show 0 ≤ M by omega)
    by_cases h1 : n < 1
    · exact roots_arg p m n e hv h1
    · obtain ⟨k, rfl⟩ := Int.eq_ofNat_of_zero_le (show 0 ≤ n by omega)
      by_cases hd : (fq p m - 1) % k = 0
      · by_cases h3 : 3000 < k
        · exact roots_big p m k e hv h3 hd
        · exact roots_ok p m k e hv (by omega) (by omega) he hd
      · exact roots_none p m k e hv (by omega) hd
  · exact roots_form P M n e (Bool.eq_false_iff.2 hv)

end Go.Proofs.Ytbddhccbmieokaa
