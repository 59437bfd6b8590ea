/- Walks through the functions of the field and of its reference: what each call returns; no memory that was there is changed. -/
import Derived.Test.YtbddhccbmieokaaT2
namespace Go.Proofs.Ytbddhccbmieokaa
open Go.RowKit FieldMath

theorem m_radd (p : Int) (w : World) : (method 174 53 (AR p) "commodatum/field.add").run Try.prog w = .ok (59, AR p) w := by kernel_rfl
theorem m_rmul (p : Int) (w : World) : (method 174 53 (AR p) "commodatum/field.mul").run Try.prog w = .ok (60, AR p) w := by kernel_rfl
theorem m_rneg (p : Int) (w : World) : (method 174 53 (AR p) "commodatum/field.negate").run Try.prog w = .ok (61, AR p) w := by kernel_rfl
theorem m_badd (m k : Int) (w : World) : (method 174 55 (AB m k) "commodatum/field.add").run Try.prog w = .ok (62, AB m k) w := by kernel_rfl
theorem m_bmul (m k : Int) (w : World) : (method 174 55 (AB m k) "commodatum/field.mul").run Try.prog w = .ok (63, AB m k) w := by kernel_rfl
theorem m_bneg (m k : Int) (w : World) : (method 174 55 (AB m k) "commodatum/field.negate").run Try.prog w = .ok (64, AB m k) w := by kernel_rfl

set_option maxHeartbeats 1000000 in
theorem power_res (p a k : Nat) (hp : 2 ≤ p) (hp2 : p ≤ 65536) (ha : a < p) (hk : k < 2 ^ 63) : Fn 42 #[.iface 53 (AR p), I a, I k] (I (powL (fun x y => x * y % p) 1 a k)) := by
  intro w
  have m1 := m_rmul p
  obtain ⟨R, HR⟩ : ∃ R, Hid (powL (fun x y => x * y % p) 1 a k = R) := ⟨_, Lib.hid rfl⟩
  rw [show I (powL (fun x y => x * y % p) 1 a k) = I R by rw [HR.out]]
  have Hk := Lib.hid hk
  clear hk
  go_enter Try.func42, Try.ntmps42
  go_wp2
  go_loopw [1,2,7] (fun u v x wr => ∃ a k c : Nat, a < p ∧ Hid (k < 2 ^ 63) ∧ c < p ∧ Hid (powL (fun x y => x * y % p) c a k = R) ∧ u = .int .i64 a ∧ v = .int .i64 k ∧ x = .int .i64 c ∧ Below w.heap.size w wr) (fun _ v _ _ => (intOf v).toNat)
  case atStart => exact ⟨a, k, 1, ha, Hk, by omega, HR, rfl, rfl, rfl, Below.refl _ _⟩
  case round =>
    clear ha HR Hk
    obtain ⟨a, k, c, ha, Hk, hc, H, rfl, rfl, rfl, hB⟩ := hrel
    by_cases h : 0 < k
    · have H' := Lib.hid (show powL (fun x y => x * y % p) (if k % 2 = 1 then c * a % p else c) (a * a % p) (k / 2) = R by rw [← H.out]; conv => rhs; rw [powL, if_pos h])
      clear H
      have Hm1 := Lib.hid (Nat.mod_lt (a * a) (show p > 0 by omega))
      have Hm2 := Lib.hid (Nat.mod_lt (c * a) (show p > 0 by omega))
      by_cases ho : k % 2 = 1
      · have ho' := odd_yes Hk.out ho
        have Ho := Lib.hid ho
        clear ho
        go_wp2_with (go_at_call 60; refine (rmul p _ _ (by omega) (by omega) (by omega) (by omega) (by omega) _).mono ?_; rintro e w' ⟨rfl, hb⟩; replace hB := hB.trans (hb.mono hB.size); clear hb)
        go_roundw
        case rel => exact ⟨a * a % p, k / 2, c * a % p, Hm1.out, Lib.hid (by have := Hk.out; omega), Hm2.out, Lib.hid (by rw [← H'.out, if_pos Ho.out]), by exact iv (by simp), by go_num, by exact iv (by simp), hB⟩
        case measure => simp [intOf]; omega
      · have ho' := odd_no Hk.out ho
        have Ho := Lib.hid ho
        clear ho
        go_wp2_with (go_at_call 60; refine (rmul p _ _ (by omega) (by omega) (by omega) (by omega) (by omega) _).mono ?_; rintro e w' ⟨rfl, hb⟩; replace hB := hB.trans (hb.mono hB.size); clear hb)
        go_roundw
        case rel => exact ⟨a * a % p, k / 2, c, Hm1.out, Lib.hid (by have := Hk.out; omega), hc, Lib.hid (by rw [← H'.out, if_neg Ho.out]), by exact iv (by simp), by go_num, rfl, hB⟩
        case measure => simp [intOf]; omega
    · have H' := Lib.hid (show c = R by rw [← H.out, powL, if_neg h])
      clear H
      go_wp2
      go_ret
      exact ⟨ri (by rw [H'.out]), hB⟩


set_option maxHeartbeats 1000000 in
theorem power_bits (m a k : Nat) (hm1 : 2 ≤ m) (hm : m ≤ 16) (ha : a < 2 ^ m) (hk : k < 2 ^ 63) : Fn 42 #[.iface 55 (AB m (modT m)), I a, I k] (I (powL (fun x y => pmul m (modT m) x y 0) 1 a k)) := by
  intro w
  have m1 := m_bmul m (modT m)
  obtain ⟨R, HR⟩ : ∃ R, Hid (powL (fun x y => pmul m (modT m) x y 0) 1 a k = R) := ⟨_, Lib.hid rfl⟩
  rw [show I (powL (fun x y => pmul m (modT m) x y 0) 1 a k) = I R by rw [HR.out]]
  have Hk := Lib.hid hk
  have Ht := Lib.hid (modT_top hm1 hm)
  have Htb := Lib.hid (modT_bd hm1 hm)
  have H1 : 1 < 2 ^ m := Nat.one_lt_two_pow (by omega)
  have Hbd := Lib.hid (pmul_bd m (modT m) Ht.out)
  have hp2 := pow2_bd hm
  clear hk
  generalize modT m = t at *
  go_enter Try.func42, Try.ntmps42
  go_wp2
  go_loopw [1,2,7] (fun u v x wr => ∃ a k c : Nat, a < 2 ^ m ∧ Hid (k < 2 ^ 63) ∧ c < 2 ^ m ∧ Hid (powL (fun x y => pmul m t x y 0) c a k = R) ∧ u = .int .i64 a ∧ v = .int .i64 k ∧ x = .int .i64 c ∧ Below w.heap.size w wr) (fun _ v _ _ => (intOf v).toNat)
  case atStart => exact ⟨a, k, 1, ha, Hk, by omega, HR, rfl, rfl, rfl, Below.refl _ _⟩
  case round =>
    clear ha HR Hk
    obtain ⟨a, k, c, ha, Hk, hc, H, rfl, rfl, rfl, hB⟩ := hrel
    by_cases h : 0 < k
    · have H' := Lib.hid (show powL (fun x y => pmul m t x y 0) (if k % 2 = 1 then pmul m t c a 0 else c) (pmul m t a a 0) (k / 2) = R by rw [← H.out]; conv => rhs; rw [powL, if_pos h])
      clear H
      have Hm1 := Lib.hid (Hbd.out a a 0 ha (by omega))
      have Hm2 := Lib.hid (Hbd.out a c 0 hc (by omega))
      by_cases ho : k % 2 = 1
      · have ho' := odd_yes Hk.out ho
        have Ho := Lib.hid ho
        clear ho
        go_wp2_with (go_at_call 63; refine (bmul m t _ _ hm1 hm Ht.out Htb.out (by first | exact ha | exact hc) (by exact ha) _).mono ?_; rintro e w' ⟨rfl, hb⟩; replace hB := hB.trans (hb.mono hB.size); clear hb)
        go_roundw
        case rel => exact ⟨pmul m t a a 0, k / 2, pmul m t c a 0, Hm1.out, Lib.hid (by have := Hk.out; omega), Hm2.out, Lib.hid (by rw [← H'.out, if_pos Ho.out]), rfl, by go_num, rfl, hB⟩
        case measure => simp [intOf]; omega
      · have ho' := odd_no Hk.out ho
        have Ho := Lib.hid ho
        clear ho
        go_wp2_with (go_at_call 63; refine (bmul m t _ _ hm1 hm Ht.out Htb.out (by exact ha) (by exact ha) _).mono ?_; rintro e w' ⟨rfl, hb⟩; replace hB := hB.trans (hb.mono hB.size); clear hb)
        go_roundw
        case rel => exact ⟨pmul m t a a 0, k / 2, c, Hm1.out, Lib.hid (by have := Hk.out; omega), hc, Lib.hid (by rw [← H'.out, if_neg Ho.out]), rfl, by go_num, rfl, hB⟩
        case measure => simp [intOf]; omega
    · have H' := Lib.hid (show c = R by rw [← H.out, powL, if_neg h])
      clear H
      go_wp2
      go_ret
      exact ⟨ri (by rw [H'.out]), hB⟩

/-- the interface value of a field's arithmetic -/
def ifc (P M : Nat) : Value := if M = 1 then .iface 53 (AR P) else .iface 55 (AB M (modT M))
def FV (P M : Nat) : Prop := vld P M = true
theorem FV.spec {P M : Nat} (h : FV P M) : 2 ≤ P ∧ P ≤ 65536 ∧ 1 ≤ M ∧ M ≤ 16 ∧ (M ≠ 1 → P = 2) := by
  have := vld_spec h
  omega
theorem fq_cases {P M : Nat} (h : FV P M) : 2 ≤ fq P M ∧ fq P M ≤ 65536 := by
  have hs := h.spec
  unfold fq
  split
  · omega
  · have h1 : 2 ^ 1 ≤ 2 ^ M := Nat.pow_le_pow_right (by omega) (by omega)
    have := pow2_bd hs.2.2.2.1
    omega

theorem power_any (P M a k : Nat) (hv : FV P M) (ha : a < fq P M) (hk : k < 2 ^ 63) : Fn 42 #[ifc P M, I a, I k] (I (fpow P M a k)) := by
  have hs := hv.spec
  by_cases h1 : M = 1
  · subst h1
    have e : fpow P 1 a k = powL (fun x y => x * y % P) 1 a k := rfl
    rw [e]
    exact power_res P a k hs.1 hs.2.1 ha hk
  · have e : fpow P M a k = powL (fun x y => pmul M (modT M) x y 0) 1 a k := by
      unfold fpow
      congr 1
      funext x y
      unfold fmul
      rw [if_neg h1]
    rw [e]
    unfold ifc
    rw [if_neg h1]
    unfold fq at ha
    rw [if_neg h1] at ha
    exact power_bits M a k (by omega) hs.2.2.2.1 ha hk

set_option maxHeartbeats 400000 in
theorem of_any (P M : Nat) (hv : FV P M) : Fn 41 #[A2 P M] (ifc P M) := by
  intro w
  have hs := hv.spec
  have h3 := hs.2.2.1; have h4 := hs.2.2.2.1
  clear hs
  by_cases h1 : M = 1
  · subst h1
    go_enter Try.func41, Try.ntmps41
    go_wp2
    go_ret
    exact ⟨rfl, (Below.refl _ _).alloc (Nat.le_refl _) _⟩
  · have hi := Lib.hid (show ifc P M = .iface 55 (AB M (modT M)) by unfold ifc; rw [if_neg h1])
    have hd : ((M : Int) == 1) = false := by rw [beq_eq_false_iff_ne]; omega
    have hm : 2 ≤ M := by omega
    clear h1
    go_enter Try.func41, Try.ntmps41
    go_wp2
    go_quiet ((go_at_call 39; exact Calls.quiet_of_same ((moduli_any M hm h4 _).mono (fun _ _ ⟨a, b⟩ => ⟨a, b.symm⟩))))
    go_wp2
    go_ret
    refine ⟨?_, (((Below.refl _ _).alloc (Nat.le_refl _) _).trans ⟨rfl, rfl, rfl, Nat.le_refl _, fun _ _ => rfl⟩)⟩
    rw [hi.out]
    rfl

end Go.Proofs.Ytbddhccbmieokaa
