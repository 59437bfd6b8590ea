/- The cost of a formula is the cost of a derivation. -/
import Derived.Test.YtpfbommaddaijaaZfPa
import Derived.Test.YtpfbommaddaijaaZfV7
namespace Go.Proofs.Ytpfbommaddaijaa
open Go.RowKit
set_option linter.unusedVariables false
set_option linter.unusedSimpArgs false

def cst (leaf : Int) (J : Int → Int → Int) : Fx → Int
  | .leaf _ _ => leaf
  | .not a => cst leaf J a
  | .bin _ a b => J (cst leaf J a) (cst leaf J b)
theorem cst_size : ∀ t : Fx, cst 1 Js t = t.size
  | .leaf _ _ => rfl
  | .not a => cst_size a
  | .bin k a b => by rw [cst, cst_size a, cst_size b, Fx.size]; show (_ : Int) + _ = _; omega
theorem cst_dep {n : Int} : ∀ {t : Fx}, t.ok n → t.has 5 = false → cst 0 Jm t = t.dep
  | .leaf k v, h, h5 => by
    rw [cst, Fx.dep]
    rcases h with ⟨rfl, _⟩ | ⟨rfl, _⟩ <;> rfl
  | .not a, h, h5 => by
    simp only [Fx.has, Bool.or_eq_false_iff] at h5
    exact cst_dep (t := a) h h5.2
  | .bin k a b, h, h5 => by
    obtain ⟨hk, ha, hb⟩ := h
    simp only [Fx.has, Bool.or_eq_false_iff] at h5
    obtain ⟨⟨h6, h7⟩, h8⟩ := h5
    rw [cst, cst_dep ha h7, cst_dep hb h8, Fx.dep]
    have hc : cost k = 1 := by
      rcases hk with rfl | rfl | rfl
      · rfl
      · rfl
      · simp at h6
    rw [hc]
    show (1 : Int) + max _ _ = _
    omega
theorem tn_eq {f : Nat → Bool} {N z : Nat} (hz : z < 2 ^ N) (h : ∀ u, u < N → z.testBit u = f u) : tn f N = z := by
  apply Nat.eq_of_testBit_eq
  intro u
  rw [tn_testBit]
  by_cases hu : u < N
  · rw [h u hu]; simp [hu]
  · rw [Nat.testBit_lt_two_pow (Nat.lt_of_lt_of_le hz (Nat.pow_le_pow_right (by decide) (by omega)))]
    simp [hu]
theorem tn_same {f g : Nat → Bool} : ∀ {N : Nat}, (∀ u, u < N → f u = g u) → tn f N = tn g N
  | 0, _ => rfl
  | N + 1, h => by rw [tn, tn, tn_same fun u hu => h u (by omega), h N (by omega)]
theorem fx_der {n M : Nat} (hn : n ≤ 3) (hM : M + 1 = 2 ^ 2 ^ n) {leaf : Int} {xor : Bool} {J : Int → Int → Int} : ∀ {t : Fx}, t.ok n → (xor = true ∨ t.has 5 = false) → Der n M leaf xor J (tn t.val (2 ^ n)) (cst leaf J t)
  | .leaf k v, h, _ => by
    rw [cst]
    rcases h with ⟨rfl, h1, h2⟩ | ⟨rfl, rfl | rfl⟩
    · obtain ⟨v, rfl⟩ := Int.eq_ofNat_of_zero_le h1
      have hv : v < n := by omega
      rw [tn_eq (z := lf v (2 ^ n)) (lf_lt ⟨n, by omega⟩ ⟨v, by omega⟩ hv) fun u hu => by rw [lf_testBit hn hv hu]; simp [Fx.val]]
      exact .leaf (.inr ⟨v, hv, rfl⟩)
    · rw [tn_eq (z := 0) (Nat.two_pow_pos _) fun u hu => by simp [Fx.val]]
      exact .leaf (.inl rfl)
    · rw [show tn (Fx.val · (.leaf 1 1)) (2 ^ n) = M - 0 by
        refine tn_eq (by omega) fun u hu => ?_
        have e : M - 0 = 2 ^ 2 ^ n - 1 := by omega
        rw [e, Nat.testBit_two_pow_sub_one]
        simp [Fx.val, hu]]
      exact .neg (by omega) (.leaf (.inl rfl))
  | .not a, h, hx => by
    have ih := fx_der hn hM (leaf := leaf) (xor := xor) (J := J) (t := a) h (hx.imp id fun h => by simp only [Fx.has, Bool.or_eq_false_iff] at h; exact h.2)
    have := tn_not (fun u => a.val u) hM
    rw [cst, show tn (Fx.val · (.not a)) (2 ^ n) = M - tn (fun u => a.val u) (2 ^ n) from this]
    exact .neg (tn_le _ hM) ih
  | .bin k a b, h, hx => by
    obtain ⟨hk, ha, hb⟩ := h
    have hxa : xor = true ∨ a.has 5 = false := hx.imp id fun h => by simp only [Fx.has, Bool.or_eq_false_iff] at h; exact h.1.2
    have hxb : xor = true ∨ b.has 5 = false := hx.imp id fun h => by simp only [Fx.has, Bool.or_eq_false_iff] at h; exact h.2
    have ia := fx_der hn hM (leaf := leaf) (xor := xor) (J := J) (t := a) ha hxa
    have ib := fx_der hn hM (leaf := leaf) (xor := xor) (J := J) (t := b) hb hxb
    have la := tn_le (fun u => a.val u) hM
    have lb := tn_le (fun u => b.val u) hM
    rw [cst]
    rcases hk with rfl | rfl | rfl
    · rw [show tn (Fx.val · (.bin 3 a b)) (2 ^ n) = tn (fun u => a.val u) (2 ^ n) &&& tn (fun u => b.val u) (2 ^ n) by
        refine tn_eq (Nat.and_lt_two_pow _ (tn_lt _ _)) fun u hu => ?_
        rw [Nat.testBit_and, tn_testBit, tn_testBit]
        simp [Fx.val, hu]]
      exact .and la lb ia ib
    · have e : tn (Fx.val · (.bin 4 a b)) (2 ^ n) = M - ((M - tn (fun u => a.val u) (2 ^ n)) &&& (M - tn (fun u => b.val u) (2 ^ n))) := by
        rw [← tn_not _ hM, ← tn_not _ hM]
        rw [show tn (fun i => !a.val i) (2 ^ n) &&& tn (fun i => !b.val i) (2 ^ n) = tn (fun i => !a.val i && !b.val i) (2 ^ n) by
          refine (tn_eq (Nat.and_lt_two_pow _ (tn_lt _ _)) fun u hu => ?_).symm
          rw [Nat.testBit_and, tn_testBit, tn_testBit]
          simp [hu]]
        rw [← tn_not _ hM]
        refine tn_same fun u hu => ?_
        simp [Fx.val]
      rw [e]
      refine .neg ?_ (.and (by omega) (by omega) (.neg la ia) (.neg lb ib))
      exact Nat.le_trans Nat.and_le_left (by omega)
    · have hxt : xor = true := by
        rcases hx with h | h
        · exact h
        · simp [Fx.has] at h
      rw [show tn (Fx.val · (.bin 5 a b)) (2 ^ n) = tn (fun u => a.val u) (2 ^ n) ^^^ tn (fun u => b.val u) (2 ^ n) by
        refine tn_eq (Nat.xor_lt_two_pow (tn_lt _ _) (tn_lt _ _)) fun u hu => ?_
        rw [Nat.testBit_xor, tn_testBit, tn_testBit]
        simp [Fx.val, hu]]
      exact .xor hxt la lb ia ib
end Go.Proofs.Ytpfbommaddaijaa

