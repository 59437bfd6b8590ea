/- The examples of the chapter, computed. No program here. -/
import Derived.Test.YtbddhccbmieokaaFb
namespace FieldMath
def pmulF (m k : Nat) : Nat → Nat → Nat → Nat → Nat
  | 0, _, _, c => c
  | n + 1, a, b, c => if 0 < b then pmulF m k n (if 2 * a / 2 ^ m = 1 then (2 * a) ^^^ k else 2 * a) (b / 2) (if b % 2 = 1 then c ^^^ a else c) else c
theorem pmulF_eq (m k : Nat) : ∀ n a b c, b < 2 ^ n → pmulF m k n a b c = pmul m k a b c
  | 0, a, b, c, h => by rw [pmul, if_neg (by simp at h; omega)]; rfl
  | n + 1, a, b, c, h => by
    rw [pmul, pmulF]
    split
    · exact pmulF_eq m k n _ _ _ (by rw [Nat.pow_succ] at h; omega)
    · rfl
def fmulF (P M a b : Nat) : Nat := if M = 1 then a * b % P else pmulF M (modT M) 20 a b 0
theorem fmulF_eq {P M a b : Nat} (h : b < 2 ^ 20) : fmulF P M a b = fmul P M a b := by
  unfold fmulF fmul
  split
  · rfl
  · rw [pmulF_eq _ _ _ _ _ _ h]
def powF (P M : Nat) : Nat → Nat → Nat → Nat → Nat
  | 0, out, _, _ => out
  | n + 1, out, a, k => if 0 < k then powF P M n (if k % 2 = 1 then fmulF P M out a else out) (fmulF P M a a) (k / 2) else out
theorem powF_eq {P M q : Nat} (hq : q ≤ 2 ^ 20) (hb : ∀ a b, a < q → b < q → fmul P M a b < q) : ∀ n out a k, out < q → a < q → k < 2 ^ n → powF P M n out a k = powL (fmul P M) out a k
  | 0, out, a, k, _, _, h => by rw [powL, if_neg (by simp at h; omega)]; rfl
  | n + 1, out, a, k, ho, ha, h => by
    rw [powL, powF, fmulF_eq (by omega), fmulF_eq (by omega)]
    split
    · refine powF_eq hq hb n _ _ _ ?_ (hb _ _ ha ha) (by rw [Nat.pow_succ] at h; omega)
      split
      · exact hb _ _ ho ha
      · exact ho
    · rfl
theorem fpow_eq {P M q : Nat} (hq : q ≤ 2 ^ 20) (hq1 : 1 < q) (hb : ∀ a b, a < q → b < q → fmul P M a b < q) {a k : Nat} (ha : a < q) (hk : k < 2 ^ 20) : fpow P M a k = powF P M 20 1 a k :=
  (powF_eq hq hb 20 1 a k hq1 ha hk).symm
theorem bd7 : ∀ a b, a < 7 → b < 7 → fmul 7 1 a b < 7 := fun a b _ _ => by unfold fmul; rw [if_pos rfl]; exact Nat.mod_lt _ (by omega)
theorem bd16 : ∀ a b, a < 16 → b < 16 → fmul 2 4 a b < 16 := fun a b ha hb => by
  unfold fmul
  rw [if_neg (by omega)]
  exact pmul_bd 4 _ (by decide) b a 0 ha (by omega)
theorem pw7 {a k : Nat} (ha : a < 7) (hk : k < 2 ^ 20) : fpow 7 1 a k = powF 7 1 20 1 a k := fpow_eq (by decide) (by decide) bd7 ha hk
theorem pw16 {a k : Nat} (ha : a < 16) (hk : k < 2 ^ 20) : fpow 2 4 a k = powF 2 4 20 1 a k := fpow_eq (by decide) (by decide) bd16 ha hk
theorem prm5 : Prm 5 := by decide
theorem ex_mul : fmul 2 2 2 2 = 3 := by rw [← fmulF_eq (by decide)]; decide
theorem ex7_2 : fpow 7 1 2 3 = 1 ∧ fpow 7 1 2 1 = 2 ∧ fpow 7 1 1 1 = 1 := by
  rw [pw7 (by decide) (by decide), pw7 (by decide) (by decide), pw7 (by decide) (by decide)]; decide
theorem ex16 : fpow 2 4 8 5 = 1 ∧ fpow 2 4 8 1 = 8 ∧ fpow 2 4 1 1 = 1 ∧ (∀ r, r < 8 → 2 ≤ r → fpow 2 4 r 5 ≠ 1) := by
  refine ⟨by rw [pw16 (by decide) (by decide)]; decide, by rw [pw16 (by decide) (by decide)]; decide, by rw [pw16 (by decide) (by decide)]; decide, fun r hr h2 => ?_⟩
  rw [pw16 (by omega) (by decide)]
  revert r
  decide
theorem ex_step : fpow 2 4 8 10 = 1 := by rw [pw16 (by decide) (by decide)]; decide
end FieldMath
