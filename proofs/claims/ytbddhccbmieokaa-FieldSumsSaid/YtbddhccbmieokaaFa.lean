/- Plain definitions and small facts for the field laws: no program here. -/
namespace FieldMath
set_option linter.unusedVariables false

def Prm (n : Nat) : Prop := 2 ≤ n ∧ ∀ d, d < n → 2 ≤ d → n % d ≠ 0
instance (n : Nat) : Decidable (Prm n) := by unfold Prm; infer_instance

theorem Prm.of_small {n d : Nat} (hn : 2 ≤ n) (h : ∀ c, c < d → 2 ≤ c → n % c ≠ 0) (hd : n < d * d) : Prm n := by
  refine ⟨hn, fun e he h2 h0 => ?_⟩
  have hm : n = e * (n / e) := by have := Nat.div_add_mod n e; omega
  have h1 : ¬ e < d := fun hl => h e hl h2 h0
  have hf : n / e < d := by
    rcases Nat.lt_or_ge (n / e) d with hl | hl
    · exact hl
    · have : d * d ≤ e * (n / e) := Nat.mul_le_mul (by omega) hl
      omega
  have hf2 : 2 ≤ n / e := by
    generalize n / e = q at hm hf ⊢
    match q, hm with
    | 0, hm => simp at hm; omega
    | 1, hm => simp at hm; omega
    | q + 2, _ => omega
  refine h (n / e) hf hf2 ?_
  have : n = n / e * e := by rw [Nat.mul_comm]; exact hm
  rw [Nat.mod_eq_zero_of_dvd ⟨e, this⟩]

theorem Prm.not_of {n d : Nat} (h2 : 2 ≤ d) (hd : d * d ≤ n) (h0 : n % d = 0) : ¬ Prm n := fun h => by
  refine h.2 d ?_ h2 h0
  have : 2 * d ≤ d * d := Nat.mul_le_mul_right d h2
  omega

theorem sq_bd {d : Nat} (h : d * d ≤ 65536) : d ≤ 256 := by
  rcases Nat.lt_or_ge d 257 with hl | hl
  · omega
  · have : 257 * 257 ≤ d * d := Nat.mul_le_mul hl hl
    omega

def vld (P M : Int) : Bool := decide (2 ≤ P ∧ P ≤ 65536 ∧ 1 ≤ M ∧ M ≤ 16 ∧ (1 < M → P = 2) ∧ Prm P.toNat)
def modT (d : Nat) : Nat := [7, 11, 19, 37, 67, 131, 283, 515, 1033, 2053, 4105, 8219, 16417, 32771, 65579].getD (d - 2) 0
def ord (P M : Int) : Int := if vld P M = true then (if 1 < M then 2 ^ M.toNat else P) else 0

theorem vld_spec {P M : Int} (h : vld P M = true) : 2 ≤ P ∧ P ≤ 65536 ∧ 1 ≤ M ∧ M ≤ 16 ∧ (1 < M → P = 2) ∧ Prm P.toNat := of_decide_eq_true h

theorem pow_bd {M : Int} (h : M ≤ 16) : (2 : Int) ^ M.toNat ≤ 65536 := by
  have : (2 : Nat) ^ M.toNat ≤ 2 ^ 16 := Nat.pow_le_pow_right (by omega) (by omega)
  have e : ((2 ^ M.toNat : Nat) : Int) = (2 : Int) ^ M.toNat := by rw [Int.natCast_pow]; rfl
  have e2 : (2 : Nat) ^ 16 = 65536 := by decide
  omega

theorem ord_bd (P M : Int) : 0 ≤ ord P M ∧ ord P M ≤ 65536 := by
  unfold ord
  split
  · rename_i h
    have := vld_spec h
    split
    · exact ⟨Int.pow_nonneg (by omega), pow_bd this.2.2.2.1⟩
    · omega
  · omega

theorem ord_pos {P M : Int} (h : vld P M = true) : 2 ≤ ord P M := by
  have hv := vld_spec h
  unfold ord
  rw [if_pos h]
  split
  · have : (2 : Nat) ^ 1 ≤ 2 ^ M.toNat := Nat.pow_le_pow_right (by omega) (by omega)
    have e : ((2 ^ M.toNat : Nat) : Int) = (2 : Int) ^ M.toNat := by rw [Int.natCast_pow]; rfl
    omega
  · exact hv.1


/-- the product loop of the program: a doubled and reduced, b halved -/
def pmul (m k : Nat) (a b c : Nat) : Nat :=
  if 0 < b then pmul m k (if 2 * a / 2 ^ m = 1 then (2 * a) ^^^ k else 2 * a) (b / 2) (if b % 2 = 1 then c ^^^ a else c) else c
termination_by b
decreasing_by omega

theorem xor_top {m x y : Nat} (hx : x < 2 ^ (m + 1)) (hy : y < 2 ^ (m + 1)) (hx1 : x / 2 ^ m = 1) (hy1 : y / 2 ^ m = 1) : x ^^^ y < 2 ^ m := by
  have h : x ^^^ y < 2 ^ (m + 1) := Nat.xor_lt_two_pow hx hy
  have hd : (x ^^^ y) / 2 ^ m = 0 := by
    rw [← Nat.shiftRight_eq_div_pow, Nat.shiftRight_xor_distrib, Nat.shiftRight_eq_div_pow, Nat.shiftRight_eq_div_pow, hx1, hy1]; rfl
  have hp : 0 < 2 ^ m := Nat.two_pow_pos m
  rcases Nat.lt_or_ge (x ^^^ y) (2 ^ m) with hl | hl
  · exact hl
  · have := Nat.div_pos hl hp
    omega

theorem dbl_bd {m k a : Nat} (hk1 : k / 2 ^ m = 1) (ha : a < 2 ^ m) : (if 2 * a / 2 ^ m = 1 then (2 * a) ^^^ k else 2 * a) < 2 ^ m := by
  have hp : 0 < 2 ^ m := Nat.two_pow_pos m
  have h2 : 2 ^ (m + 1) = 2 * 2 ^ m := by rw [Nat.pow_succ, Nat.mul_comm]
  have hk : k < 2 ^ (m + 1) := by
    have := Nat.div_add_mod k (2 ^ m)
    have := Nat.mod_lt k hp
    rw [hk1] at *
    omega
  split
  · rename_i h
    exact xor_top (by omega) hk h hk1
  · rename_i h
    rcases Nat.lt_or_ge (2 * a) (2 ^ m) with hl | hl
    · exact hl
    · exfalso
      apply h
      have h1 : 2 * a / 2 ^ m < 2 := Nat.div_lt_of_lt_mul (by omega)
      have h3 : 0 < 2 * a / 2 ^ m := Nat.div_pos hl hp
      omega

theorem modT_top {m : Nat} (h1 : 2 ≤ m) (h2 : m ≤ 16) : modT m / 2 ^ m = 1 := by
  have hd : m = 2 ∨ m = 3 ∨ m = 4 ∨ m = 5 ∨ m = 6 ∨ m = 7 ∨ m = 8 ∨ m = 9 ∨ m = 10 ∨ m = 11 ∨ m = 12 ∨ m = 13 ∨ m = 14 ∨ m = 15 ∨ m = 16 := by omega
  rcases hd with rfl | rfl | rfl | rfl | rfl | rfl | rfl | rfl | rfl | rfl | rfl | rfl | rfl | rfl | rfl <;> decide

theorem modT_bd {m : Nat} (h1 : 2 ≤ m) (h2 : m ≤ 16) : modT m < 131072 := by
  have hd : m = 2 ∨ m = 3 ∨ m = 4 ∨ m = 5 ∨ m = 6 ∨ m = 7 ∨ m = 8 ∨ m = 9 ∨ m = 10 ∨ m = 11 ∨ m = 12 ∨ m = 13 ∨ m = 14 ∨ m = 15 ∨ m = 16 := by omega
  rcases hd with rfl | rfl | rfl | rfl | rfl | rfl | rfl | rfl | rfl | rfl | rfl | rfl | rfl | rfl | rfl <;> decide

theorem pow2_bd {m : Nat} (h2 : m ≤ 16) : 2 ^ m ≤ 65536 := Nat.pow_le_pow_right (n := 2) (j := 16) (by omega) h2

theorem pmul_bd (m k : Nat) (hk1 : k / 2 ^ m = 1) (b : Nat) : ∀ a c, a < 2 ^ m → c < 2 ^ m → pmul m k a b c < 2 ^ m := by
  induction b using Nat.strongRecOn with
  | ind b ih =>
    intro a c ha hc
    rw [pmul]
    split
    · refine ih (b / 2) (by omega) _ _ (dbl_bd hk1 ha) ?_
      split
      · exact Nat.xor_lt_two_pow hc ha
      · exact hc
    · exact hc

/-- square and multiply -/
def powL (mul : Nat → Nat → Nat) (out a k : Nat) : Nat :=
  if 0 < k then powL mul (if k % 2 = 1 then mul out a else out) (mul a a) (k / 2) else out
termination_by k
decreasing_by omega

theorem powL_bd (mul : Nat → Nat → Nat) (q : Nat) (hm : ∀ a b, a < q → b < q → mul a b < q) (k : Nat) : ∀ out a, out < q → a < q → powL mul out a k < q := by
  induction k using Nat.strongRecOn with
  | ind k ih =>
    intro out a ho ha
    rw [powL]
    split
    · refine ih (k / 2) (by omega) _ _ ?_ (hm _ _ ha ha)
      split
      · exact hm _ _ ho ha
      · exact ho
    · exact ho

/-- the three operations of a field, P and M -/
def fadd (P M a b : Nat) : Nat := if M = 1 then (a + b) % P else a ^^^ b
def fneg (P M a : Nat) : Nat := if M = 1 then (P - a) % P else a
def fmul (P M a b : Nat) : Nat := if M = 1 then a * b % P else pmul M (modT M) a b 0
def fq (P M : Nat) : Nat := if M = 1 then P else 2 ^ M
def fpow (P M a k : Nat) : Nat := powL (fmul P M) 1 a k


/-- the number of binary digits -/
def sz (a : Nat) : Nat := if a = 0 then 0 else Nat.log2 a + 1
theorem sz_zero : sz 0 = 0 := rfl
theorem sz_half {a : Nat} (h : 0 < a) : sz a = sz (a / 2) + 1 := by
  unfold sz
  rw [if_neg (by omega)]
  by_cases h1 : a / 2 = 0
  · rw [if_pos h1]
    have : a = 1 := by omega
    subst this; rfl
  · rw [if_neg h1, Nat.log2_def a, if_pos (by omega)]
theorem sz_lt {a n : Nat} (h : a < 2 ^ n) : sz a ≤ n := by
  unfold sz
  split
  · omega
  · rename_i h0
    have := (Nat.log2_lt h0).2 h
    omega
theorem lt_sz (a : Nat) : a < 2 ^ sz a := by
  unfold sz
  split
  · rename_i h; subst h; decide
  · rename_i h0
    exact (Nat.log2_lt h0).1 (by omega)
theorem sz_le {a : Nat} (h : 0 < a) : 2 ^ (sz a - 1) ≤ a := by
  unfold sz
  rw [if_neg (by omega)]
  exact Nat.log2_self_le (by omega)
theorem sz_pos {a : Nat} (h : 0 < a) : 0 < sz a := by unfold sz; rw [if_neg (by omega)]; omega
theorem sz_eq {a n : Nat} (h1 : 2 ^ n ≤ a) (h2 : a < 2 ^ (n + 1)) : sz a = n + 1 := by
  have hp : 0 < 2 ^ n := Nat.two_pow_pos n
  have h3 := sz_lt h2
  have h4 := lt_sz a
  rcases Nat.lt_or_ge (sz a) (n + 1) with hl | hl
  · have : 2 ^ sz a ≤ 2 ^ n := Nat.pow_le_pow_right (by omega) (by omega)
    omega
  · omega

/-- one step of the division of polynomials over the field of two elements -/
theorem rst_dec {a b : Nat} (hb : 0 < b) (h : sz b ≤ sz a) : sz (a ^^^ b <<< (sz a - sz b)) < sz a := by
  have hsb := sz_pos hb
  have ha : 0 < a := by
    rcases Nat.eq_zero_or_pos a with h0 | h0
    · subst h0; rw [sz_zero] at h; omega
    · exact h0
  have h1 := lt_sz a
  have h2 := sz_le ha
  have h3 := lt_sz b
  have h4 := sz_le hb
  obtain ⟨n, hn⟩ : ∃ n, sz a = n + 1 := ⟨sz a - 1, by omega⟩
  have e : b <<< (sz a - sz b) = b * 2 ^ (sz a - sz b) := Nat.shiftLeft_eq b _
  have hp : 0 < 2 ^ (sz a - sz b) := Nat.two_pow_pos _
  have h5 : b <<< (sz a - sz b) < 2 ^ (n + 1) := by
    rw [e, ← hn]
    calc b * 2 ^ (sz a - sz b) < 2 ^ sz b * 2 ^ (sz a - sz b) := Nat.mul_lt_mul_of_pos_right h3 hp
      _ = 2 ^ sz a := by rw [← Nat.pow_add]; congr 1; omega
  have h6 : 2 ^ n ≤ b <<< (sz a - sz b) := by
    rw [e]
    calc 2 ^ n = 2 ^ (sz b - 1) * 2 ^ (sz a - sz b) := by rw [← Nat.pow_add]; congr 1; omega
      _ ≤ b * 2 ^ (sz a - sz b) := Nat.mul_le_mul_right _ h4
  have top : ∀ x, 2 ^ n ≤ x → x < 2 ^ (n + 1) → x / 2 ^ n = 1 := fun x hx hx2 => by
    have hp : 0 < 2 ^ n := Nat.two_pow_pos n
    have h7 : x / 2 ^ n < 2 := Nat.div_lt_of_lt_mul (by rw [← Nat.pow_succ]; exact hx2)
    have h8 : 0 < x / 2 ^ n := Nat.div_pos hx hp
    omega
  have h9 : a ^^^ b <<< (sz a - sz b) < 2 ^ n := xor_top (by rw [← hn]; exact h1) h5 (top a (by rw [show n = sz a - 1 by omega]; exact h2) (by rw [← hn]; exact h1)) (top _ h6 h5)
  have := sz_lt h9
  omega

/-- the remainder of the division of a by b, polynomials over the field of two elements -/
def rst (a b : Nat) : Nat := if h : 0 < b ∧ sz b ≤ sz a then rst (a ^^^ b <<< (sz a - sz b)) b else a
termination_by sz a
decreasing_by exact rst_dec h.1 h.2

theorem rst_step {a b : Nat} (hb : 0 < b) (h : sz b ≤ sz a) : rst (a ^^^ b <<< (sz a - sz b)) b = rst a b := by
  conv => rhs; rw [rst, dif_pos ⟨hb, h⟩]
theorem rst_end {a b : Nat} (h : ¬ sz b ≤ sz a) : rst a b = a := by rw [rst, dif_neg (by omega)]

end FieldMath
