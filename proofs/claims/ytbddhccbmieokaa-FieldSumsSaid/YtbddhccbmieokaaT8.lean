/- Walks through the functions of the field and of its reference: what each call returns; no memory that was there is changed. -/
import Derived.Test.YtbddhccbmieokaaT7
namespace Go.Proofs.Ytbddhccbmieokaa
open Go.RowKit FieldMath

set_option maxHeartbeats 1000000 in
theorem root_form (P M k : Int) (hv : vld P M = false) : Fn 18 #[A2 P M, I k] (T2 0 1) := by
  intro w
  have Hv := Lib.hid hv
  clear hv
  go_enter Try.func18, Try.ntmps18
  go_wp2_with (go_at_call 13; refine (valid_not Hv.out _).mono ?_; rintro e w' ⟨rfl, hb⟩)
  go_ret2
  exact ⟨rfl, ((Below.refl _ _).alloc (Nat.le_refl _) _).trans (hb.mono (by simp))⟩
set_option maxHeartbeats 1000000 in
theorem root_arg (P M k : Int) (hv : vld P M = true) (hk : k < 1) : Fn 18 #[A2 P M, I k] (T2 0 2) := by
  intro w
  have Hv := Lib.hid hv
  clear hv
  go_enter Try.func18, Try.ntmps18
  go_wp2_with (go_at_call 13; refine (valid_yes Hv.out _).mono ?_; rintro e w' ⟨rfl, hb⟩)
  go_ret2
  exact ⟨rfl, ((Below.refl _ _).alloc (Nat.le_refl _) _).trans (hb.mono (by simp))⟩
set_option maxHeartbeats 1000000 in
theorem root_none (P M : Nat) (k : Nat) (hv : FV P M) (hk : 1 ≤ k) (hk2 : (fq P M - 1) % k ≠ 0) : Fn 18 #[A2 P M, I k] (T2 0 6) := by
  intro w
  have hq := fq_cases hv
  have hc0 : ((((fq P M : Nat) : Int) - 1) % (k : Int) != 0) = true := by
    rw [bne_iff_ne, show ((fq P M : Nat) : Int) - 1 = ((fq P M - 1 : Nat) : Int) by omega]
    exact_mod_cast hk2
  have Hv := Lib.hid hv
  have Ho := Lib.hid (order_fv hv)
  clear hv hk2
  generalize fq P M = q at *
  go_enter Try.func18, Try.ntmps18
  go_wp2_with (first
    | (go_at_call 13; refine (valid_yes Hv.out _).mono ?_; rintro e w' ⟨rfl, hb⟩; obtain ⟨hx0, hx1, hx2⟩ := box_cells (by simpa using hb); have hB : Below w.heap.size w w' := ((Below.refl _ _).alloc (Nat.le_refl _) _).trans (hb.mono (by simp)); clear hb)
    | (go_at_call 14; refine (Ho.out _).mono ?_; rintro e w' ⟨rfl, hb⟩; replace hB := hB.trans (hb.mono hB.size); clear hb hx0 hx1 hx2))
  go_ret2
  exact ⟨rfl, hB⟩
set_option maxHeartbeats 1000000 in
theorem sum_form (P M k n : Int) (hv : vld P M = false) : Fn 19 #[A2 P M, I k, I n] (T2 0 1) := by
  intro w
  have Hv := Lib.hid hv
  clear hv
  go_enter Try.func19, Try.ntmps19
  go_wp2_with (go_at_call 13; refine (valid_not Hv.out _).mono ?_; rintro e w' ⟨rfl, hb⟩)
  go_ret2
  exact ⟨rfl, ((Below.refl _ _).alloc (Nat.le_refl _) _).trans (hb.mono (by simp))⟩
set_option maxHeartbeats 1000000 in
theorem sum_arg (P M k n : Int) (hv : vld P M = true) (hk : k < 1 ∨ n < 0) : Fn 19 #[A2 P M, I k, I n] (T2 0 2) := by
  intro w
  have Hv := Lib.hid hv
  clear hv
  by_cases h1 : k < 1
  · clear hk
    go_enter Try.func19, Try.ntmps19
    go_wp2_with (go_at_call 13; refine (valid_yes Hv.out _).mono ?_; rintro e w' ⟨rfl, hb⟩)
    go_ret2
    exact ⟨rfl, ((Below.refl _ _).alloc (Nat.le_refl _) _).trans (hb.mono (by simp))⟩
  · have h2 : n < 0 := by omega
    clear hk
    go_enter Try.func19, Try.ntmps19
    go_wp2_with (go_at_call 13; refine (valid_yes Hv.out _).mono ?_; rintro e w' ⟨rfl, hb⟩)
    go_ret2
    exact ⟨rfl, ((Below.refl _ _).alloc (Nat.le_refl _) _).trans (hb.mono (by simp))⟩
set_option maxHeartbeats 1000000 in
theorem sum_none (P M k : Nat) (n : Nat) (hv : FV P M) (hk : 1 ≤ k) (hk2 : (fq P M - 1) % k ≠ 0) : Fn 19 #[A2 P M, I k, I n] (T2 0 6) := by
  intro w
  have Hv := Lib.hid hv
  have Hr := Lib.hid (root_none P M k hv hk hk2)
  clear hv hk2
  go_enter Try.func19, Try.ntmps19
  go_wp2_with (first
    | (go_at_call 13; refine (valid_yes Hv.out _).mono ?_; rintro e w' ⟨rfl, hb⟩; obtain ⟨hx0, hx1, hx2⟩ := box_cells (by simpa using hb); have hB : Below w.heap.size w w' := ((Below.refl _ _).alloc (Nat.le_refl _) _).trans (hb.mono (by simp)); clear hb)
    | (go_at_call 18; refine (Hr.out _).mono ?_; rintro e w' ⟨rfl, hb⟩; replace hB := hB.trans (hb.mono hB.size); clear hb hx0 hx1 hx2))
  go_ret2
  exact ⟨rfl, hB⟩

def sumL (P M step : Nat) : Nat → Nat → Nat → Nat
  | 0, out, _ => out
  | n + 1, out, y => sumL P M step n (fadd P M out y) (fmul P M y step)

set_option maxHeartbeats 2000000 in
theorem sum_res (P k n r0 : Nat) (hv : FV P 1) (hk : 1 ≤ k) (hn : n < 2 ^ 63) (hkq : k ≤ 65536) (hr0 : r0 < P) (hr : Fn 18 #[A2 P (1 : Nat), I k] (T2 r0 0)) : Fn 19 #[A2 P (1 : Nat), I k, I n] (T2 (sumL P 1 (fpow P 1 r0 n) k 0 1 : Nat) 0) := by
  intro w
  have hs := hv.spec
  have h1 := hs.1; have h2 := hs.2.1
  have hq1 : 1 < P := by omega
  have Hst : fpow P 1 r0 n < P := powL_bd _ P (fun a b _ _ => Nat.mod_lt _ (show P > 0 by omega)) n 1 r0 (by omega) hr0
  have hm1 := m_radd P
  have hm2 := m_rmul P
  have Hp := Lib.hid (power_any P 1 r0 n hv hr0 hn)
  have Hi := Lib.hid (show ifc P 1 = .iface 53 (AR P) by unfold ifc; rw [if_pos rfl])
  rw [Hi.out] at Hp
  have Hv := Lib.hid hv
  have Hr := Lib.hid hr
  have Hadd := fun x y => Lib.hid (show fadd P 1 x y = (x + y) % P by unfold fadd; rw [if_pos rfl])
  have Hmul := fun y s => Lib.hid (show fmul P 1 y s = y * s % P by unfold fmul; rw [if_pos rfl])
  clear hv hr hs hn Hi
  generalize fpow P 1 r0 n = s at *
  obtain ⟨R, HR⟩ : ∃ R, Hid (sumL P 1 s k 0 1 = R) := ⟨_, Lib.hid rfl⟩
  rw [show T2 (sumL P 1 s k 0 1 : Nat) 0 = T2 (R : Nat) 0 by rw [HR.out]]
  go_enter Try.func19, Try.ntmps19
  go_wp2_with (first
    | (go_at_call 13; refine (valid_yes Hv.out _).mono ?_; rintro e w' ⟨rfl, hb⟩; obtain ⟨hx0, hx1, hx2⟩ := box_cells (by simpa using hb); have hB : Below w.heap.size w w' := ((Below.refl _ _).alloc (Nat.le_refl _) _).trans (hb.mono (by simp)); clear hb)
    | (go_at_call 18; refine (Hr.out _).mono ?_; rintro e w' ⟨rfl, hb⟩; have hx0' := (hb.cell (p := ⟨w.heap.size, 0, none⟩) hx2).trans hx0; have hx1' := (hb.cell (p := ⟨w.heap.size, 1, none⟩) hx2).trans hx1; replace hB := hB.trans (hb.mono hB.size); clear hb hx0 hx1 hx2)
    | (go_at_call 41; refine (of_res Hv.out _).mono ?_; rintro e w' ⟨rfl, hb⟩; replace hB := hB.trans (hb.mono hB.size); clear hb hx0' hx1')
    | (go_at_call 42; refine (Hp.out _).mono ?_; rintro e w' ⟨rfl, hb⟩; replace hB := hB.trans (hb.mono hB.size); clear hb))
  go_loopw [12, 13, 39] (fun u v i wr => ∃ x y j : Nat, x < P ∧ y < P ∧ j ≤ k ∧ Hid (sumL P 1 s (k - j) x y = R) ∧ u = I x ∧ v = I y ∧ i = I j ∧ Below w.heap.size w wr) (fun _ _ i _ => k - (intOf i).toNat)
  case atStart => exact ⟨0, 1, 0, by omega, hq1, by omega, HR, rfl, rfl, rfl, hB⟩
  case round =>
    clear hB HR
    obtain ⟨x, y, j, hx, hy, hj, H, rfl, rfl, rfl, hB⟩ := hrel
    by_cases hlt : j < k
    · have H' := Lib.hid (show sumL P 1 s (k - (j + 1)) ((x + y) % P) (y * s % P) = R by
        rw [← H.out, show k - j = (k - (j + 1)) + 1 by omega, sumL, (Hadd x y).out, (Hmul y s).out])
      clear H
      have Hx := Lib.hid (show (x + y) % P < P from Nat.mod_lt _ (show P > 0 by omega))
      have Hy := Lib.hid (show y * s % P < P from Nat.mod_lt _ (show P > 0 by omega))
      go_wp2_with (first
        | (go_at_call 59; refine (radd' P _ _ h1 h2 (by assumption) (by assumption) _).mono ?_; rintro e w' ⟨rfl, hb⟩; replace hB := hB.trans (hb.mono hB.size); clear hb)
        | (go_at_call 60; refine (rmul' P _ _ h1 h2 (by assumption) (by assumption) _).mono ?_; rintro e w' ⟨rfl, hb⟩; replace hB := hB.trans (hb.mono hB.size); clear hb))
      go_roundw
      case rel => exact ⟨_, _, j + 1, Hx.out, Hy.out, by omega, H', rfl, rfl, by go_num, hB⟩
      case measure => simp [intOf]; omega
    · have H' := Lib.hid (show x = R by rw [← H.out, show k - j = 0 by omega]; rfl)
      clear H
      go_wp2
      go_ret2
      exact ⟨rt2 (by rw [H'.out]) rfl, hB⟩

set_option maxHeartbeats 2000000 in
theorem sum_bit (P M k n r0 : Nat) (hv : FV P M) (hM : M ≠ 1) (hk : 1 ≤ k) (hn : n < 2 ^ 63) (hkq : k ≤ 65536) (hr0 : r0 < 2 ^ M) (hr : Fn 18 #[A2 P M, I k] (T2 r0 0)) : Fn 19 #[A2 P M, I k, I n] (T2 (sumL P M (fpow P M r0 n) k 0 1 : Nat) 0) := by
  intro w
  have hs := hv.spec
  have h1 : 2 ≤ M := by omega
  have h2 := hs.2.2.2.1
  have hp2 := pow2_bd h2
  have HM := Lib.hid hM
  have Ht := Lib.hid (modT_top h1 h2)
  have Htb := Lib.hid (modT_bd h1 h2)
  have hq1 : 1 < 2 ^ M := Nat.one_lt_two_pow (by omega)
  have Hst : fpow P M r0 n < 2 ^ M := powL_bd _ (2 ^ M) (fun a b ha _ => by unfold fmul; rw [if_neg hM]; exact pmul_bd M (modT M) Ht.out b a 0 ha (by omega)) n 1 r0 (by omega) hr0
  have hm1 := m_badd M (modT M)
  have hm2 := m_bmul M (modT M)
  have Hp := Lib.hid (power_any P M r0 n hv (by unfold fq; rw [if_neg hM]; exact hr0) hn)
  have Hi := Lib.hid (show ifc P M = .iface 55 (AB M (modT M)) by unfold ifc; rw [if_neg hM])
  rw [Hi.out] at Hp
  have Hv := Lib.hid hv
  have Hr := Lib.hid hr
  have Hadd := fun x y => Lib.hid (show fadd P M x y = x ^^^ y by unfold fadd; rw [if_neg hM])
  have Hmul := fun y s => Lib.hid (show fmul P M y s = pmul M (modT M) y s 0 by unfold fmul; rw [if_neg hM])
  clear hv hr hs hn Hi hM
  generalize fpow P M r0 n = s at *
  obtain ⟨R, HR⟩ : ∃ R, Hid (sumL P M s k 0 1 = R) := ⟨_, Lib.hid rfl⟩
  rw [show T2 (sumL P M s k 0 1 : Nat) 0 = T2 (R : Nat) 0 by rw [HR.out]]
  go_enter Try.func19, Try.ntmps19
  go_wp2_with (first
    | (go_at_call 13; refine (valid_yes Hv.out _).mono ?_; rintro e w' ⟨rfl, hb⟩; obtain ⟨hx0, hx1, hx2⟩ := box_cells (by simpa using hb); have hB : Below w.heap.size w w' := ((Below.refl _ _).alloc (Nat.le_refl _) _).trans (hb.mono (by simp)); clear hb)
    | (go_at_call 18; refine (Hr.out _).mono ?_; rintro e w' ⟨rfl, hb⟩; have hx0' := (hb.cell (p := ⟨w.heap.size, 0, none⟩) hx2).trans hx0; have hx1' := (hb.cell (p := ⟨w.heap.size, 1, none⟩) hx2).trans hx1; replace hB := hB.trans (hb.mono hB.size); clear hb hx0 hx1 hx2)
    | (go_at_call 41; refine (of_bit Hv.out HM.out _).mono ?_; rintro e w' ⟨rfl, hb⟩; replace hB := hB.trans (hb.mono hB.size); clear hb hx0' hx1')
    | (go_at_call 42; refine (Hp.out _).mono ?_; rintro e w' ⟨rfl, hb⟩; replace hB := hB.trans (hb.mono hB.size); clear hb))
  go_loopw [12, 13, 39] (fun u v i wr => ∃ x y j : Nat, x < 2 ^ M ∧ y < 2 ^ M ∧ j ≤ k ∧ Hid (sumL P M s (k - j) x y = R) ∧ u = I x ∧ v = I y ∧ i = I j ∧ Below w.heap.size w wr) (fun _ _ i _ => k - (intOf i).toNat)
  case atStart => exact ⟨0, 1, 0, by omega, hq1, by omega, HR, rfl, rfl, rfl, hB⟩
  case round =>
    clear hB HR
    obtain ⟨x, y, j, hx, hy, hj, H, rfl, rfl, rfl, hB⟩ := hrel
    by_cases hlt : j < k
    · have H' := Lib.hid (show sumL P M s (k - (j + 1)) (x ^^^ y) (pmul M (modT M) y s 0) = R by
        rw [← H.out, show k - j = (k - (j + 1)) + 1 by omega, sumL, (Hadd x y).out, (Hmul y s).out])
      clear H
      have Hx := Lib.hid (show x ^^^ y < 2 ^ M from Nat.xor_lt_two_pow hx hy)
      have Hy := Lib.hid (show pmul M (modT M) y s 0 < 2 ^ M from pmul_bd M (modT M) Ht.out s y 0 hy (by omega))
      go_wp2_with (first
        | (go_at_call 62; refine (badd M (modT M) _ _ (by omega) (by omega) _).mono ?_; rintro e w' ⟨rfl, hb⟩; replace hB := hB.trans (hb.mono hB.size); clear hb)
        | (go_at_call 63; refine (bmul M (modT M) _ _ h1 h2 Ht.out Htb.out (by assumption) (by assumption) _).mono ?_; rintro e w' ⟨rfl, hb⟩; replace hB := hB.trans (hb.mono hB.size); clear hb))
      go_roundw
      case rel => exact ⟨_, _, j + 1, Hx.out, Hy.out, by omega, H', rfl, rfl, by go_num, hB⟩
      case measure => simp [intOf]; omega
    · have H' := Lib.hid (show x = R by rw [← H.out, show k - j = 0 by omega]; rfl)
      clear H
      go_wp2
      go_ret2
      exact ⟨rt2 (by rw [H'.out]) rfl, hB⟩

end Go.Proofs.Ytbddhccbmieokaa
