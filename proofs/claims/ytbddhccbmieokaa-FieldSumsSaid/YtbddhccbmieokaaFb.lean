/- Polynomials over the field of two elements, as numbers: the product, remainders, the arithmetic modulo a polynomial. No program here. -/
import Derived.Test.YtbddhccbmieokaaFa
namespace FieldMath

theorem two_mul_xor (a b : Nat) : 2 * (a ^^^ b) = 2 * a ^^^ 2 * b := by
  have h := Nat.shiftLeft_xor_distrib (a := a) (b := b) (i := 1)
  simp only [Nat.shiftLeft_eq, Nat.pow_one] at h
  rw [Nat.mul_comm 2, Nat.mul_comm 2, Nat.mul_comm 2]
  exact h
theorem xor_swap (a b c d : Nat) : (a ^^^ b) ^^^ (c ^^^ d) = (a ^^^ c) ^^^ (b ^^^ d) := by
  rw [Nat.xor_assoc, Nat.xor_assoc, ← Nat.xor_assoc b, Nat.xor_comm b c, Nat.xor_assoc c]
theorem xor_half (a b : Nat) : (a ^^^ b) / 2 = a / 2 ^^^ b / 2 := by
  have h := Nat.shiftRight_xor_distrib (a := a) (b := b) (i := 1)
  simpa only [Nat.shiftRight_eq_div_pow, Nat.pow_one] using h
theorem xor_odd (a b : Nat) : (a ^^^ b) % 2 = (a + b) % 2 := by
  have h : (a ^^^ b) % 2 = a % 2 ^^^ b % 2 := by
    have := Nat.xor_mod_two_pow (a := a) (b := b) (n := 1)
    simpa using this
  rw [h]
  have h1 : a % 2 = 0 ∨ a % 2 = 1 := by omega
  have h2 : b % 2 = 0 ∨ b % 2 = 1 := by omega
  rcases h1 with h1 | h1 <;> rcases h2 with h2 | h2 <;> rw [h1, h2] <;> simp <;> omega
theorem xor_cancel {a b : Nat} (h : a ^^^ b = 0) : a = b := by
  have : (a ^^^ b) ^^^ b = b := by rw [h, Nat.zero_xor]
  rwa [Nat.xor_assoc, Nat.xor_self, Nat.xor_zero] at this

/-- the product without carries -/
def cl (a b : Nat) : Nat := if 0 < b then (if b % 2 = 1 then a else 0) ^^^ 2 * cl a (b / 2) else 0
termination_by b
decreasing_by omega

theorem cl_zero (a : Nat) : cl a 0 = 0 := by rw [cl, if_neg (by omega)]
theorem cl_bit (a b e : Nat) (he : e < 2) : cl a (2 * b + e) = (if e = 1 then a else 0) ^^^ 2 * cl a b := by
  by_cases h : 0 < 2 * b + e
  · rw [cl, if_pos h, show (2 * b + e) % 2 = e by omega, show (2 * b + e) / 2 = b by omega]
  · obtain rfl : b = 0 := by omega
    obtain rfl : e = 0 := by omega
    simp [cl_zero]
theorem cl_one (a : Nat) : cl a 1 = a := by
  have := cl_bit a 0 1 (by omega)
  simpa [cl_zero] using this
theorem cl_two (a b : Nat) : cl a (2 * b) = 2 * cl a b := by
  have := cl_bit a b 0 (by omega)
  simpa using this
theorem bit_ind {p : Nat → Prop} (h0 : p 0) (hs : ∀ b e, e < 2 → 0 < 2 * b + e → p b → p (2 * b + e)) : ∀ n, p n := by
  intro n
  induction n using Nat.strongRecOn with
  | ind n ih =>
    rcases Nat.eq_zero_or_pos n with h | h
    · subst h; exact h0
    · have := hs (n / 2) (n % 2) (by omega) (by omega) (ih (n / 2) (by omega))
      rwa [show 2 * (n / 2) + n % 2 = n by omega] at this
theorem zero_cl (b : Nat) : cl 0 b = 0 := by
  induction b using bit_ind with
  | h0 => exact cl_zero 0
  | hs b e he _ ih => rw [cl_bit _ _ _ he, ih]; simp
theorem xor_cl (a a' b : Nat) : cl (a ^^^ a') b = cl a b ^^^ cl a' b := by
  induction b using bit_ind with
  | h0 => simp [cl_zero]
  | hs b e he _ ih =>
    rw [cl_bit _ _ _ he, cl_bit _ _ _ he, cl_bit _ _ _ he, ih, two_mul_xor, xor_swap]
    congr 1
    split <;> simp
theorem two_cl (a b : Nat) : cl (2 * a) b = 2 * cl a b := by
  induction b using bit_ind with
  | h0 => simp [cl_zero]
  | hs b e he _ ih =>
    rw [cl_bit _ _ _ he, cl_bit _ _ _ he, ih, two_mul_xor]
    congr 1
    split <;> simp
theorem one_cl (b : Nat) : cl 1 b = b := by
  induction b using bit_ind with
  | h0 => exact cl_zero 1
  | hs b e he _ ih =>
    rw [cl_bit _ _ _ he, ih]
    have h : e = 0 ∨ e = 1 := by omega
    rcases h with rfl | rfl
    · simp
    · rw [if_pos rfl, Nat.xor_comm]
      have := Nat.two_pow_add_eq_or_of_lt (i := 1) (b := 1) (by decide) b
      have h2 : 2 * b ^^^ 1 = 2 * b + 1 := by
        have h3 : (2 * b ^^^ 1) / 2 = b := by rw [xor_half]; simp
        have h4 : (2 * b ^^^ 1) % 2 = 1 := by rw [xor_odd]; omega
        omega
      exact h2
theorem bit_xor (b e : Nat) (he : e < 2) : 2 * b ^^^ e = 2 * b + e := by
  have h3 : (2 * b ^^^ e) / 2 = b := by rw [xor_half, show e / 2 = 0 by omega, Nat.xor_zero]; omega
  have h4 : (2 * b ^^^ e) % 2 = e := by rw [xor_odd]; omega
  omega
theorem cl_xor (a : Nat) : ∀ b b', cl a (b ^^^ b') = cl a b ^^^ cl a b' := by
  intro b
  induction b using Nat.strongRecOn with
  | ind b ih =>
    intro b'
    rcases Nat.eq_zero_or_pos b with h | h
    · subst h; simp [cl_zero]
    · have h1 : b ^^^ b' = 2 * (b / 2 ^^^ b' / 2) + (b + b') % 2 := by rw [← xor_half, ← xor_odd]; omega
      rw [h1, cl_bit _ _ _ (by omega), ih (b / 2) (by omega)]
      conv => rhs; rw [show b = 2 * (b / 2) + b % 2 by omega, show b' = 2 * (b' / 2) + b' % 2 by omega, cl_bit _ _ _ (by omega), cl_bit _ _ _ (by omega), xor_swap, ← two_mul_xor]
      congr 1
      have hb : b % 2 = 0 ∨ b % 2 = 1 := by omega
      have hb' : b' % 2 = 0 ∨ b' % 2 = 1 := by omega
      rcases hb with hb | hb <;> rcases hb' with hb' | hb' <;> rw [Nat.add_mod, hb, hb'] <;> simp
theorem cl_comm (a b : Nat) : cl a b = cl b a := by
  induction b using bit_ind with
  | h0 => rw [cl_zero, zero_cl]
  | hs b e he _ ih =>
    rw [cl_bit _ _ _ he, ← bit_xor _ _ he, xor_cl, two_cl, ih, Nat.xor_comm]
    congr 1
    have h : e = 0 ∨ e = 1 := by omega
    rcases h with rfl | rfl
    · simp [zero_cl]
    · simp [one_cl]
theorem cl_assoc (a b c : Nat) : cl (cl a b) c = cl a (cl b c) := by
  induction c using bit_ind with
  | h0 => simp [cl_zero]
  | hs c e he _ ih =>
    rw [cl_bit _ _ _ he, cl_bit _ _ _ he, cl_xor, cl_two, ih]
    congr 1
    split <;> simp [cl_zero]

/-! ### the degree of a product -/
theorem xor_top_keep {x y n : Nat} (h1 : 2 ^ n ≤ x) (h2 : x < 2 ^ (n + 1)) (hy : y < 2 ^ n) : 2 ^ n ≤ x ^^^ y ∧ x ^^^ y < 2 ^ (n + 1) := by
  have hp : 0 < 2 ^ n := Nat.two_pow_pos n
  have hpp : 2 ^ (n + 1) = 2 * 2 ^ n := by rw [Nat.pow_succ, Nat.mul_comm]
  refine ⟨?_, Nat.xor_lt_two_pow h2 (by omega)⟩
  have e : (x ^^^ y) / 2 ^ n = x / 2 ^ n := by
    rw [← Nat.shiftRight_eq_div_pow, Nat.shiftRight_xor_distrib, Nat.shiftRight_eq_div_pow, Nat.shiftRight_eq_div_pow, Nat.div_eq_of_lt hy, Nat.xor_zero]
  have h3 : 0 < x / 2 ^ n := Nat.div_pos h1 hp
  rcases Nat.lt_or_ge (x ^^^ y) (2 ^ n) with hl | hl
  · rw [Nat.div_eq_of_lt hl] at e; omega
  · exact hl
theorem cl_deg {a i : Nat} (ha1 : 2 ^ i ≤ a) (ha2 : a < 2 ^ (i + 1)) (b : Nat) : ∀ j, 2 ^ j ≤ b → b < 2 ^ (j + 1) → 2 ^ (i + j) ≤ cl a b ∧ cl a b < 2 ^ (i + j + 1) := by
  induction b using bit_ind with
  | h0 => intro j h; have := Nat.two_pow_pos j; omega
  | hs b e he hpos ih =>
    intro j h1 h2
    cases j with
    | zero =>
      have : 2 * b + e = 1 := by simp at h2; omega
      rw [this, cl_one]
      exact ⟨ha1, ha2⟩
    | succ j =>
      rw [Nat.pow_succ] at h1 h2
      obtain ⟨g1, g2⟩ := ih j (by omega) (by omega)
      have g3 : 2 ^ (i + (j + 1)) ≤ 2 * cl a b := by rw [show i + (j + 1) = (i + j) + 1 by omega, Nat.pow_succ]; omega
      have g4 : 2 * cl a b < 2 ^ (i + (j + 1) + 1) := by rw [Nat.pow_succ, show i + (j + 1) = (i + j) + 1 by omega]; omega
      rw [cl_bit _ _ _ he, Nat.xor_comm]
      refine xor_top_keep g3 g4 ?_
      split
      · exact Nat.lt_of_lt_of_le ha2 (Nat.pow_le_pow_right (by omega) (by omega))
      · exact Nat.two_pow_pos _
theorem sz_spec {a : Nat} (h : 0 < a) : 2 ^ (sz a - 1) ≤ a ∧ a < 2 ^ (sz a - 1 + 1) := ⟨sz_le h, by rw [show sz a - 1 + 1 = sz a by have := sz_pos h; omega]; exact lt_sz a⟩
theorem cl_sz {a b : Nat} (ha : 0 < a) (hb : 0 < b) : sz (cl a b) = sz a + sz b - 1 := by
  have h1 := sz_spec ha
  have h2 := sz_spec hb
  have h3 := cl_deg h1.1 h1.2 b _ h2.1 h2.2
  have h4 := sz_eq h3.1 h3.2
  have := sz_pos ha
  have := sz_pos hb
  omega
theorem cl_pos {a b : Nat} (ha : 0 < a) (hb : 0 < b) : 0 < cl a b := by
  have h := cl_sz ha hb
  have := sz_pos ha
  have := sz_pos hb
  rcases Nat.eq_zero_or_pos (cl a b) with h0 | h0
  · rw [h0, sz_zero] at h; omega
  · exact h0

/-! ### modulo a polynomial -/
/-- a and b differ by a multiple of k -/
def Cg (k a b : Nat) : Prop := ∃ q, a ^^^ b = cl q k
theorem Cg.refl (k a : Nat) : Cg k a a := ⟨0, by rw [Nat.xor_self, zero_cl]⟩
theorem Cg.symm {k a b : Nat} (h : Cg k a b) : Cg k b a := let ⟨q, hq⟩ := h; ⟨q, by rw [Nat.xor_comm]; exact hq⟩
theorem Cg.trans {k a b c : Nat} (h : Cg k a b) (h' : Cg k b c) : Cg k a c := by
  obtain ⟨q, hq⟩ := h
  obtain ⟨r, hr⟩ := h'
  refine ⟨q ^^^ r, ?_⟩
  rw [xor_cl, ← hq, ← hr, Nat.xor_assoc, ← Nat.xor_assoc b, Nat.xor_self, Nat.zero_xor]
theorem Cg.xor {k a b c d : Nat} (h : Cg k a b) (h' : Cg k c d) : Cg k (a ^^^ c) (b ^^^ d) := by
  obtain ⟨q, hq⟩ := h
  obtain ⟨r, hr⟩ := h'
  exact ⟨q ^^^ r, by rw [xor_cl, ← hq, ← hr, xor_swap]⟩
theorem Cg.cl_left {k a b : Nat} (h : Cg k a b) (c : Nat) : Cg k (cl a c) (cl b c) := by
  obtain ⟨q, hq⟩ := h
  refine ⟨cl q c, ?_⟩
  rw [← xor_cl, hq, cl_assoc, cl_comm k c, ← cl_assoc]
theorem Cg.cl_right {k a b : Nat} (h : Cg k a b) (c : Nat) : Cg k (cl c a) (cl c b) := by
  rw [cl_comm c a, cl_comm c b]
  exact h.cl_left c
theorem Cg.two {k a b : Nat} (h : Cg k a b) : Cg k (2 * a) (2 * b) := by
  obtain ⟨q, hq⟩ := h
  exact ⟨2 * q, by rw [two_cl, ← hq, two_mul_xor]⟩
/-- small numbers that are congruent are equal -/
theorem Cg.eq {k a b n : Nat} (hk : 2 ^ n ≤ k) (h : Cg k a b) (ha : a < 2 ^ n) (hb : b < 2 ^ n) : a = b := by
  obtain ⟨q, hq⟩ := h
  have hlt : cl q k < 2 ^ n := by rw [← hq]; exact Nat.xor_lt_two_pow ha hb
  rcases Nat.eq_zero_or_pos q with h0 | h0
  · subst h0
    rw [zero_cl] at hq
    exact xor_cancel hq
  · exfalso
    have hkp : 0 < k := Nat.lt_of_lt_of_le (Nat.two_pow_pos n) hk
    have h1 := cl_sz h0 hkp
    have h2 := sz_pos h0
    have h3 := sz_lt hlt
    have h4 := lt_sz k
    have h5 : n < sz k := by
      rcases Nat.lt_or_ge n (sz k) with hl | hl
      · exact hl
      · have : 2 ^ sz k ≤ 2 ^ n := Nat.pow_le_pow_right (by omega) hl
        omega
    omega
theorem cl_pow (a : Nat) : ∀ i, cl a (2 ^ i) = a * 2 ^ i
  | 0 => by simpa using cl_one a
  | i + 1 => by rw [Nat.pow_succ, Nat.mul_comm, cl_two, cl_pow a i, Nat.mul_left_comm]
theorem rst_cg (b : Nat) (n : Nat) : ∀ a, sz a = n → Cg b (rst a b) a := by
  induction n using Nat.strongRecOn with
  | ind n ih =>
    intro a ha
    by_cases h : 0 < b ∧ sz b ≤ sz a
    · rw [← rst_step h.1 h.2]
      refine (ih _ (by rw [← ha]; exact rst_dec h.1 h.2) _ rfl).trans ⟨2 ^ (sz a - sz b), ?_⟩
      rw [cl_comm, cl_pow, Nat.shiftLeft_eq, Nat.xor_comm, ← Nat.xor_assoc, Nat.xor_self, Nat.zero_xor]
    · rw [rst, dif_neg h]
      exact Cg.refl _ _
theorem rst_lt {b : Nat} (hb : 0 < b) (n : Nat) : ∀ a, sz a = n → rst a b < 2 ^ (sz b - 1) := by
  have hsb := sz_pos hb
  induction n using Nat.strongRecOn with
  | ind n ih =>
    intro a ha
    by_cases h : sz b ≤ sz a
    · rw [← rst_step hb h]
      exact ih _ (by rw [← ha]; exact rst_dec hb h) _ rfl
    · rw [rst_end h]
      exact Nat.lt_of_lt_of_le (lt_sz a) (Nat.pow_le_pow_right (by omega) (by omega))

theorem pmul_cg (m k : Nat) (b : Nat) : ∀ a c, Cg k (pmul m k a b c) (c ^^^ cl a b) := by
  induction b using Nat.strongRecOn with
  | ind b ih =>
    intro a c
    rw [pmul]
    split
    · rename_i hb
      refine (ih (b / 2) (by omega) _ _).trans ?_
      have h1 : Cg k (cl (if 2 * a / 2 ^ m = 1 then (2 * a) ^^^ k else 2 * a) (b / 2)) (2 * cl a (b / 2)) := by
        rw [← two_cl]
        refine Cg.cl_left ?_ _
        split
        · exact ⟨1, by rw [Nat.xor_comm, ← Nat.xor_assoc, Nat.xor_self, Nat.zero_xor, one_cl]⟩
        · exact Cg.refl _ _
      have h2 : c ^^^ cl a b = (if b % 2 = 1 then c ^^^ a else c) ^^^ 2 * cl a (b / 2) := by
        conv => lhs; rw [show b = 2 * (b / 2) + b % 2 by omega, cl_bit _ _ _ (by omega), ← Nat.xor_assoc]
        congr 1
        split <;> simp
      rw [h2]
      exact (Cg.refl _ _).xor h1
    · rename_i hb
      rw [show b = 0 by omega, cl_zero, Nat.xor_zero]
      exact Cg.refl _ _

/-- the reference's product loop -/
def clA (a b : Nat) : Nat → Nat
  | 0 => 0
  | i + 1 => if b / 2 ^ i % 2 = 1 then clA a b i ^^^ a <<< i else clA a b i
theorem clA_cl (a b : Nat) : ∀ i, clA a b i = cl a (b % 2 ^ i)
  | 0 => by simp [clA, Nat.mod_one, cl_zero]
  | i + 1 => by
    have hp : 0 < 2 ^ i := Nat.two_pow_pos i
    rw [clA, clA_cl a b i]
    have e : b % 2 ^ (i + 1) = b / 2 ^ i % 2 * 2 ^ i + b % 2 ^ i := by
      rw [Nat.pow_succ, Nat.mod_mul, Nat.mul_comm (2 ^ i), Nat.add_comm]
    have hx : ∀ r, r < 2 ^ i → 2 ^ i + r = r ^^^ 2 ^ i := fun r hr => by
      rw [Nat.xor_comm]
      have h1 : (2 ^ i ^^^ r) / 2 ^ i = 1 := by
        rw [← Nat.shiftRight_eq_div_pow, Nat.shiftRight_xor_distrib, Nat.shiftRight_eq_div_pow, Nat.shiftRight_eq_div_pow, Nat.div_eq_of_lt hr, Nat.xor_zero, Nat.div_self hp]
      have h2 : (2 ^ i ^^^ r) % 2 ^ i = r := by
        rw [Nat.xor_mod_two_pow, Nat.mod_self, Nat.zero_xor, Nat.mod_eq_of_lt hr]
      have := Nat.div_add_mod (2 ^ i ^^^ r) (2 ^ i)
      rw [h1, h2] at this
      omega
    split
    · rename_i h
      rw [e, h, Nat.one_mul, hx _ (Nat.mod_lt _ hp), cl_xor, cl_pow, Nat.shiftLeft_eq]
    · rename_i h
      rw [e, show b / 2 ^ i % 2 = 0 by omega, Nat.zero_mul, Nat.zero_add]

theorem top_sz {m k : Nat} (h : k / 2 ^ m = 1) : 2 ^ m ≤ k ∧ k < 2 ^ (m + 1) := by
  have hp : 0 < 2 ^ m := Nat.two_pow_pos m
  have h1 := Nat.div_add_mod k (2 ^ m)
  have h2 := Nat.mod_lt k hp
  rw [h] at h1
  rw [Nat.pow_succ]
  omega
theorem mul_ref {m k a b : Nat} (hk : k / 2 ^ m = 1) (ha : a < 2 ^ m) (hb : b < 2 ^ m) : rst (clA a b m) k = pmul m k a b 0 := by
  have ht := top_sz hk
  have hp : 0 < 2 ^ m := Nat.two_pow_pos m
  have hsz : sz k = m + 1 := sz_eq ht.1 ht.2
  have h1 : rst (clA a b m) k < 2 ^ m := by
    have := rst_lt (show 0 < k by omega) _ (clA a b m) rfl
    rwa [hsz] at this
  have h2 := pmul_bd m k hk b a 0 ha hp
  refine Cg.eq ht.1 ?_ h1 h2
  refine (rst_cg k _ (clA a b m) rfl).trans ?_
  have h3 := pmul_cg m k b a 0
  rw [Nat.zero_xor] at h3
  rw [clA_cl, Nat.mod_eq_of_lt hb]
  exact h3.symm


/-! ### the least irreducible polynomials -/
def rstF : Nat → Nat → Nat → Nat
  | 0, a, _ => a
  | n + 1, a, b => if sz b ≤ sz a then rstF n (a ^^^ b <<< (sz a - sz b)) b else a
theorem rstF_eq {b : Nat} (hb : 0 < b) : ∀ n a, sz a ≤ n → rstF n a b = rst a b
  | 0, a, h => by
    have := sz_pos hb
    rw [rst_end (by omega)]
    rfl
  | n + 1, a, h => by
    rw [rstF]
    split
    · rename_i h1
      rw [← rst_step hb h1]
      exact rstF_eq hb n _ (by have := rst_dec hb h1; omega)
    · rename_i h1
      rw [rst_end h1]
/-- no divisor of at most half the degree -/
def IrrAt (m a : Nat) : Prop := ∀ b, b < 2 ^ (m / 2 + 1) → 2 ≤ b → rst a b ≠ 0
def irrB (m a : Nat) : Bool := (List.range (2 ^ (m / 2 + 1))).all fun b => Nat.ble b 1 || rstF 20 a b != 0
theorem irrB_spec {m a : Nat} (ha : a < 2 ^ 20) : irrB m a = true ↔ IrrAt m a := by
  unfold irrB IrrAt
  rw [List.all_eq_true]
  constructor
  · intro h b hb h2 h0
    have := h b (List.mem_range.2 hb)
    rw [rstF_eq (by omega) 20 a (sz_lt ha), h0] at this
    have h3 : Nat.ble b 1 = false := by
      rw [Bool.eq_false_iff]
      intro h4
      have := Nat.le_of_ble_eq_true h4
      omega
    rw [h3] at this
    simp at this
  · intro h b hb
    rcases Nat.lt_or_ge b 2 with hl | hl
    · rw [Nat.ble_eq_true_of_le (by omega : b ≤ 1)]; rfl
    · have := h b (List.mem_range.1 hb) hl
      rw [rstF_eq (by omega) 20 a (sz_lt ha)]
      simp [this]
def firstB (m : Nat) : Bool := irrB m (modT m) && (List.range (modT m - 2 ^ m)).all fun i => !irrB m (2 ^ m + i)
theorem first_all : ((List.range 15).all fun i => firstB (i + 2)) = true := by decide +kernel
theorem modT_first {m : Nat} (h1 : 2 ≤ m) (h2 : m ≤ 16) : IrrAt m (modT m) ∧ ∀ a, 2 ^ m ≤ a → a < modT m → ¬ IrrAt m a := by
  have h := List.all_eq_true.1 first_all (m - 2) (List.mem_range.2 (by omega))
  rw [show m - 2 + 2 = m by omega, firstB, Bool.and_eq_true, List.all_eq_true] at h
  have hb := modT_bd h1 h2
  refine ⟨(irrB_spec (by omega)).1 h.1, fun a ha1 ha2 hi => ?_⟩
  have h3 := h.2 (a - 2 ^ m) (List.mem_range.2 (by omega))
  rw [show 2 ^ m + (a - 2 ^ m) = a by omega, (irrB_spec (by omega)).2 hi] at h3
  simp at h3

end FieldMath
