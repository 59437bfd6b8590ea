/- The least costs as numbers: every function of at most three inputs has a formula; what LeastSize, LeastDepth and Binary answer. -/
import Derived.Test.YtpfbommaddaijaaZfKb
import Derived.Test.YtpfbommaddaijaaZfKc
import Derived.Test.YtpfbommaddaijaaZfWWords
namespace Go.Proofs.Ytpfbommaddaijaa
set_option linter.unusedVariables false
set_option linter.unusedSimpArgs false

/-- the functions that the pairs of a level give -/
def lvl (M S : Nat) : List (Nat × Nat) → Nat → Nat
  | [], T => T
  | p :: r, T => lvl M S r (if S.testBit p.1 && S.testBit p.2 && decide (p.1 ≤ M) && decide (p.2 ≤ M) then T ||| 2 ^ (p.1 &&& p.2) ||| 2 ^ (M - (p.1 &&& p.2)) else T)
def lvls (M : Nat) : List (List (Nat × Nat)) → Nat → Nat
  | [], S => S
  | w :: r, S => lvls M r (lvl M S w S)
def lv0 (n M : Nat) : Nat → Nat
  | 0 => 1 ||| 2 ^ M
  | v + 1 => lv0 n M v ||| 2 ^ lf v (2 ^ n) ||| 2 ^ (M - lf v (2 ^ n))
def Wn : Nat → List (List (Nat × Nat))
  | 2 => [[(5, 3), (10, 3), (12, 5), (12, 10)], [(13, 11)]]
  | 3 => [[(51, 15), (85, 15), (85, 51), (170, 15), (170, 51), (204, 15), (204, 85), (204, 170), (240, 51), (240, 85), (240, 170), (240, 204)], [(5, 3), (10, 3), (12, 5), (12, 10), (48, 17), (48, 34), (80, 68), (85, 63), (95, 51), (95, 63), (119, 15), (119, 63), (119, 95), (160, 136), (170, 63), (175, 51), (175, 63), (175, 119), (187, 15), (187, 63), (187, 95), (187, 175), (204, 95), (204, 175), (207, 85), (207, 95), (207, 119), (207, 170), (207, 175), (207, 187), (221, 15), (221, 63), (221, 95), (221, 175), (221, 187), (221, 207), (238, 15), (238, 63), (238, 95), (238, 175), (238, 207), (243, 95), (243, 175), (243, 207), (245, 63), (245, 175), (245, 207)], [(13, 11), (14, 7), (29, 27), (46, 39), (49, 35), (50, 19), (53, 39), (53, 46), (55, 31), (58, 27), (58, 29), (59, 47), (60, 21), (60, 29), (60, 42), (60, 46), (60, 53), (60, 58), (78, 71), (81, 69), (83, 71), (83, 78), (90, 76), (90, 78), (90, 83), (92, 90), (93, 79), (112, 102), (114, 102), (116, 102), (117, 115), (141, 139), (162, 138), (163, 139), (163, 141), (165, 140), (165, 141), (165, 163), (172, 165), (176, 153), (177, 153), (184, 153), (197, 195), (202, 195), (213, 191), (220, 191), (223, 179), (223, 186), (241, 239), (242, 223), (244, 191), (247, 143), (247, 174), (247, 206), (251, 205), (253, 171)], [(30, 23), (45, 43), (77, 75), (101, 99), (108, 106), (123, 111), (125, 111), (125, 123), (215, 190)]]
  | _ => []
theorem all_full : ∀ n : Fin 4, lvls (2 ^ 2 ^ n.val - 1) (Wn n.val) (lv0 n.val (2 ^ 2 ^ n.val - 1) n.val) = 2 ^ 2 ^ 2 ^ n.val - 1 := by decide +kernel
section
variable {n M : Nat} {leaf : Int} {xor : Bool} {J : Int → Int → Int}
theorem lvl_ok (hJ : ∀ a b, 0 ≤ a → 0 ≤ b → 0 ≤ J a b ∧ J a b ≤ a + b + 1) {S : Nat} {B : Int} (hS : ∀ f, S.testBit f = true → f ≤ M → ∃ c, Der n M leaf xor J f c ∧ 0 ≤ c ∧ c ≤ B) :
    ∀ (W : List (Nat × Nat)) (T : Nat), (∀ f, T.testBit f = true → f ≤ M → ∃ c, Der n M leaf xor J f c ∧ 0 ≤ c ∧ c ≤ 2 * B + 1) → ∀ f, (lvl M S W T).testBit f = true → f ≤ M → ∃ c, Der n M leaf xor J f c ∧ 0 ≤ c ∧ c ≤ 2 * B + 1
  | [], T, hT => hT
  | p :: r, T, hT => by
    rw [lvl]
    refine lvl_ok hJ hS r _ fun f hf hM => ?_
    by_cases e : (S.testBit p.1 && S.testBit p.2 && decide (p.1 ≤ M) && decide (p.2 ≤ M)) = true
    · rw [if_pos e] at hf
      simp only [Bool.and_eq_true, decide_eq_true_eq] at e
      obtain ⟨⟨⟨e1, e2⟩, e3⟩, e4⟩ := e
      obtain ⟨a, d1, a0, a1⟩ := hS _ e1 e3
      obtain ⟨b, d2, b0, b1⟩ := hS _ e2 e4
      have hj := hJ a b a0 b0
      have da := Der.and e3 e4 d1 d2
      have hle : p.1 &&& p.2 ≤ M := Nat.le_trans Nat.and_le_left e3
      rw [Nat.testBit_or, Nat.testBit_or, Nat.testBit_two_pow, Nat.testBit_two_pow] at hf
      simp only [Bool.or_eq_true, decide_eq_true_eq] at hf
      rcases hf with (hf | hf) | hf
      · exact hT f hf hM
      · rw [← hf]; exact ⟨_, da, hj.1, by omega⟩
      · rw [← hf]; exact ⟨_, .neg hle da, hj.1, by omega⟩
    · rw [if_neg e] at hf
      exact hT f hf hM
theorem lvls_ok (hJ : ∀ a b, 0 ≤ a → 0 ≤ b → 0 ≤ J a b ∧ J a b ≤ a + b + 1) : ∀ (W : List (List (Nat × Nat))) (S : Nat) (B : Int), 0 ≤ B → (∀ f, S.testBit f = true → f ≤ M → ∃ c, Der n M leaf xor J f c ∧ 0 ≤ c ∧ c ≤ B) →
    ∀ f, (lvls M W S).testBit f = true → f ≤ M → ∃ c, Der n M leaf xor J f c ∧ 0 ≤ c ∧ c ≤ (B + 1) * 2 ^ W.length - 1
  | [], S, B, _, hS => fun f hf hM => by obtain ⟨c, h1, h2, h3⟩ := hS f hf hM; exact ⟨c, h1, h2, by simp; omega⟩
  | w :: r, S, B, hB, hS => fun f hf hM => by
    rw [lvls] at hf
    obtain ⟨c, h1, h2, h3⟩ := lvls_ok hJ r _ (2 * B + 1) (by omega) (lvl_ok hJ hS w S fun f hf hM => by obtain ⟨c, h1, h2, h3⟩ := hS f hf hM; exact ⟨c, h1, h2, by omega⟩) f hf hM
    refine ⟨c, h1, h2, ?_⟩
    have e : (2 * B + 1 + 1) * 2 ^ r.length = (B + 1) * 2 ^ (w :: r).length := by
      rw [List.length_cons, Int.pow_succ]
      have : 2 * B + 1 + 1 = (B + 1) * 2 := by omega
      rw [this, Int.mul_assoc, Int.mul_comm 2]
    rw [e] at h3
    exact h3
theorem lv0_ok (hM : ∀ l, LS n l → l ≤ M) (h0 : 0 ≤ leaf) : ∀ v, v ≤ n → ∀ f, (lv0 n M v).testBit f = true → f ≤ M → ∃ c, Der n M leaf xor J f c ∧ 0 ≤ c ∧ c ≤ leaf
  | 0, _, f, hf, hfM => by
    rw [lv0, Nat.testBit_or, Nat.testBit_two_pow, show (1 : Nat) = 2 ^ 0 from rfl, Nat.testBit_two_pow] at hf
    simp only [Bool.or_eq_true, decide_eq_true_eq] at hf
    rcases hf with hf | hf
    · rw [← hf]; exact ⟨leaf, .leaf (.inl rfl), h0, by omega⟩
    · rw [← hf]; exact ⟨leaf, .neg (f := 0) (by omega) (.leaf (.inl rfl)), h0, by omega⟩
  | v + 1, hv, f, hf, hfM => by
    rw [lv0, Nat.testBit_or, Nat.testBit_or, Nat.testBit_two_pow, Nat.testBit_two_pow] at hf
    simp only [Bool.or_eq_true, decide_eq_true_eq] at hf
    have hl : LS n (lf v (2 ^ n)) := .inr ⟨v, by omega, rfl⟩
    rcases hf with (hf | hf) | hf
    · exact lv0_ok hM h0 v (by omega) f hf hfM
    · rw [← hf]; exact ⟨leaf, .leaf hl, h0, by omega⟩
    · rw [← hf]; exact ⟨leaf, .neg (hM _ hl) (.leaf hl), h0, by omega⟩
/-- there is a formula -/
theorem der_ex (hn : n ≤ 3) (hM : M + 1 = 2 ^ 2 ^ n) (hJ : ∀ a b, 0 ≤ a → 0 ≤ b → 0 ≤ J a b ∧ J a b ≤ a + b + 1) (h0 : 0 ≤ leaf) (h1 : leaf ≤ 1) {f : Nat} (hf : f ≤ M) : ∃ c, Der n M leaf xor J f c ∧ c < BIG := by
  have hLS : ∀ l, LS n l → l ≤ M := fun l h => by have := LS_lt hn h; omega
  have e : M = 2 ^ 2 ^ n - 1 := by omega
  have hfull := all_full ⟨n, by omega⟩
  simp only at hfull
  rw [← e] at hfull
  have hb : (lvls M (Wn n) (lv0 n M n)).testBit f = true := by
    rw [hfull, ← hM, Nat.testBit_two_pow_sub_one]
    simp
    omega
  obtain ⟨c, d, c0, c1⟩ := lvls_ok (xor := xor) hJ (Wn n) _ leaf h0 (lv0_ok hLS h0 n (Nat.le_refl _)) f hb hf
  have hl : (Wn n).length ≤ 8 := by
    have : ∀ m : Fin 4, (Wn m.val).length ≤ 8 := by decide +kernel
    exact this ⟨n, by omega⟩
  have hp : (2 : Int) ^ (Wn n).length ≤ 256 := by
    have : (2 : Nat) ^ (Wn n).length ≤ 2 ^ 8 := Nat.pow_le_pow_right (by decide) hl
    have h2 : ((2 : Nat) : Int) ^ (Wn n).length = ((2 ^ (Wn n).length : Nat) : Int) := by push_cast; rfl
    have h3 : (2 : Int) = ((2 : Nat) : Int) := rfl
    rw [h3, h2]
    omega
  have hm : (leaf + 1) * 2 ^ (Wn n).length ≤ 2 * 256 := Int.mul_le_mul (by omega) hp (Int.pow_nonneg (by decide)) (by decide)
  exact ⟨c, d, by show c < 1048576; omega⟩
end
/-- the least cost of a function: what the search of the program says -/
theorem least_is {n M : Nat} {leaf : Int} {xor : Bool} {J : Int → Int → Int} {E : Nat → Ent} (hn : n ≤ 3) (hM : M + 1 = 2 ^ 2 ^ n) (hJ : Join J) (hJ2 : ∀ a b, 0 ≤ a → 0 ≤ b → 0 ≤ J a b ∧ J a b ≤ a + b + 1) (h0 : 0 ≤ leaf) (h1 : leaf ≤ 1) (hi : Inv n M leaf xor J E) (hc : Clo n M leaf xor J E) {f : Nat} (hf : f ≤ M) :
    cs E f < BIG ∧ Der n M leaf xor J f (cs E f) ∧ ∀ c, Der n M leaf xor J f c → cs E f ≤ c := by
  have hLS : ∀ l, LS n l → l ≤ M := fun l h => by have := LS_lt hn h; omega
  obtain ⟨c, hd, hcB⟩ := der_ex (xor := xor) hn hM hJ2 h0 h1 hf
  have hle := (hc.least hi hJ ⟨_, hM⟩ hLS hd).2 hcB
  have hlt : cs E f < BIG := by have : BIG = 1048576 := rfl; omega
  refine ⟨hlt, hi.hd f hf hlt, fun c' hd' => ?_⟩
  by_cases h : c' < BIG
  · exact (hc.least hi hJ ⟨_, hM⟩ hLS hd').2 h
  · have : BIG = 1048576 := rfl; omega
theorem js_ok : ∀ a b : Int, 0 ≤ a → 0 ≤ b → 0 ≤ Js a b ∧ Js a b ≤ a + b + 1 := fun a b h1 h2 => by show 0 ≤ a + b ∧ a + b ≤ a + b + 1; omega
theorem jm_ok : ∀ a b : Int, 0 ≤ a → 0 ≤ b → 0 ≤ Jm a b ∧ Jm a b ≤ a + b + 1 := fun a b h1 h2 => by show 0 ≤ 1 + max a b ∧ 1 + max a b ≤ a + b + 1; omega
end Go.Proofs.Ytpfbommaddaijaa
namespace Go.Proofs.Ytpfbommaddaijaa
set_option linter.unusedVariables false
set_option linter.unusedSimpArgs false

theorem tn_testBit (f : Nat → Bool) : ∀ (N u : Nat), (tn f N).testBit u = (decide (u < N) && f u)
  | 0, u => by simp [tn]
  | N + 1, u => by
    rw [tn, Nat.testBit_or, tn_testBit f N u]
    by_cases hf : f N = true
    · rw [if_pos hf, Nat.testBit_two_pow]
      by_cases h : u = N
      · subst h; simp [hf]
      · have h1 : ¬ N = u := fun e => h e.symm
        have h2 : (u < N) ↔ (u < N + 1) := by omega
        simp [h1, h2]
    · rw [if_neg hf]
      by_cases h : u = N
      · subst h; simp [hf]
      · have h2 : (u < N) ↔ (u < N + 1) := by omega
        simp [h2]
theorem tn_not (f : Nat → Bool) {N M : Nat} (hM : M + 1 = 2 ^ N) : tn (fun i => !f i) N = M - tn f N := by
  apply Nat.eq_of_testBit_eq
  intro u
  have hlt := tn_lt f N
  rw [tn_testBit]
  have e : M - tn f N = 2 ^ N - (tn f N + 1) := by omega
  rw [e, Nat.testBit_two_pow_sub_succ hlt, tn_testBit]
  by_cases h : u < N <;> simp [h]
section
variable {n M : Nat} {E E' : Nat → Ent}
end
end Go.Proofs.Ytpfbommaddaijaa
namespace Go.Proofs.Ytpfbommaddaijaa
set_option linter.unusedVariables false
set_option linter.unusedSimpArgs false

theorem der_0 {n M : Nat} {leaf : Int} {xor : Bool} {J : Int → Int → Int} (hJ : ∀ a b, 0 ≤ a → 0 ≤ b → 0 ≤ J a b ∧ J a b ≤ a + b + 1) (h0 : 0 ≤ leaf) {f : Nat} {c : Int} (h : Der n M leaf xor J f c) : 0 ≤ c := by
  induction h with
  | leaf _ => exact h0
  | neg _ _ ih => exact ih
  | and _ _ _ _ i1 i2 => exact (hJ _ _ i1 i2).1
  | xor _ _ _ _ _ i1 i2 => exact (hJ _ _ i1 i2).1
/-- a least cost -/
structure Lc (n M : Nat) (leaf : Int) (xor : Bool) (J : Int → Int → Int) (f : Nat) (c : Int) : Prop where
  d : Der n M leaf xor J f c
  m : ∀ c', Der n M leaf xor J f c' → c ≤ c'
  b : c < BIG
  z : 0 ≤ c
theorem lc_up {n M : Nat} {leaf : Int} {xor : Bool} {J : Int → Int → Int} (hJ : ∀ a b, 0 ≤ a → 0 ≤ b → 0 ≤ J a b ∧ J a b ≤ a + b + 1) (h0 : 0 ≤ leaf) {f : Nat} : ∀ (k : Nat) {c : Int}, c ≤ k → c < BIG → Der n M leaf xor J f c → ∃ c', Lc n M leaf xor J f c'
  | 0, c, hk, hb, h => ⟨c, h, fun c' h' => by have := der_0 hJ h0 h'; omega, hb, der_0 hJ h0 h⟩
  | k + 1, c, hk, hb, h => by
    by_cases e : ∃ c', Der n M leaf xor J f c' ∧ c' < c
    · obtain ⟨c', h1, h2⟩ := e
      exact lc_up hJ h0 k (by omega) (Int.lt_trans h2 hb) h1
    · refine ⟨c, h, fun c' h' => ?_, hb, der_0 hJ h0 h⟩
      by_cases h3 : c ≤ c'
      · exact h3
      · exact absurd ⟨c', h', by omega⟩ e
theorem lc_ex {n M : Nat} {leaf : Int} {xor : Bool} {J : Int → Int → Int} (hn : n ≤ 3) (hM : M + 1 = 2 ^ 2 ^ n) (hJ : ∀ a b, 0 ≤ a → 0 ≤ b → 0 ≤ J a b ∧ J a b ≤ a + b + 1) (h0 : 0 ≤ leaf) (h1 : leaf ≤ 1) {f : Nat} (hf : f ≤ M) : ∃ c, Lc n M leaf xor J f c := by
  obtain ⟨c, hd, hb⟩ := der_ex (xor := xor) hn hM hJ h0 h1 hf
  exact lc_up hJ h0 c.toNat (Int.self_le_toNat _) hb hd
theorem Lc.eq {n M : Nat} {leaf : Int} {xor : Bool} {J : Int → Int → Int} {E : Nat → Ent} {f : Nat} {c : Int} (h : Lc n M leaf xor J f c) (hn : n ≤ 3) (hM : M + 1 = 2 ^ 2 ^ n) (hJ : Join J) (hJ2 : ∀ a b, 0 ≤ a → 0 ≤ b → 0 ≤ J a b ∧ J a b ≤ a + b + 1) (h0 : 0 ≤ leaf) (h1 : leaf ≤ 1) (hi : Inv n M leaf xor J E) (hc : Clo n M leaf xor J E) (hf : f ≤ M) : cs E f = c := by
  obtain ⟨_, d1, m1⟩ := least_is hn hM hJ hJ2 h0 h1 hi hc hf
  have := m1 _ h.d
  have := h.m _ d1
  omega
end Go.Proofs.Ytpfbommaddaijaa
namespace Go.Proofs.Ytpfbommaddaijaa
open Go.RowKit Go.Proofs.YtpfbommaddaijaaW.PrintWords
set_option linter.unusedVariables false
set_option linter.unusedSimpArgs false

theorem Bs.congr {w : World} {v : Value} {n : Nat} {f g : Nat → Bool} (h : Bs w v n f) (e : ∀ u, u < n → f u = g u) : Bs w v n g := by
  obtain ⟨a, c, h1, h2, h3, h4, h5⟩ := h.ex
  exact ⟨a, c, h1, h2, h3, h4, fun b hb i hi => by rw [← e i hi]; exact h5 b hb i hi⟩
section
variable {w : World} {v : Value} {n M : Nat} {f : Nat → Bool} {c : Int}
theorem hMe (hM : M + 1 = 2 ^ 2 ^ n) : 2 ^ 2 ^ n - 1 = M := by omega
theorem tn_le (f : Nat → Bool) (hM : M + 1 = 2 ^ 2 ^ n) : tn f (2 ^ n) ≤ M := by have := tn_lt f (2 ^ n); omega
theorem ls_c (hn : n ≤ 3) (hM : M + 1 = 2 ^ 2 ^ n) (hb : Bs w v (2 ^ n) f) (hc : Lc n M 1 false Js (tn f (2 ^ n)) c) : Calls Try.prog 27 #[v] w fun e w' => e = .returned (.tuple #[I c, I 0]) ∧ Below w.heap.size w w' :=
  (leastSize_ok hn hb).mono fun e w' ⟨E, h1, h2, h3, h4⟩ => by
    rw [hMe hM] at h2 h3
    rw [hc.eq hn hM join_sum js_ok (by decide) (by decide) h2 h3 (tn_le f hM)] at h1
    exact ⟨h1, h4⟩
theorem ld_c (hn : n ≤ 3) (hM : M + 1 = 2 ^ 2 ^ n) (hb : Bs w v (2 ^ n) f) (hc : Lc n M 0 false Jm (tn f (2 ^ n)) c) : Calls Try.prog 22 #[v] w fun e w' => e = .returned (.tuple #[I c, I 0]) ∧ Below w.heap.size w w' :=
  (leastDepth_ok hn hb).mono fun e w' ⟨E, h1, h2, h3, h4⟩ => by
    rw [hMe hM] at h2 h3
    rw [hc.eq hn hM join_max jm_ok (by decide) (by decide) h2 h3 (tn_le f hM)] at h1
    exact ⟨h1, h4⟩
theorem bi_c (hn : n ≤ 3) (hM : M + 1 = 2 ^ 2 ^ n) (hb : Bs w v (2 ^ n) f) (hc : Lc n M 1 true Js (tn f (2 ^ n)) c) : Calls Try.prog 29 #[v] w fun e w' => e = .returned (.tuple #[I c, I 0]) ∧ Below w.heap.size w w' :=
  (binary_ok hn hb).mono fun e w' ⟨E, h1, h2, h3, h4⟩ => by
    rw [hMe hM] at h2 h3
    rw [hc.eq hn hM join_sum js_ok (by decide) (by decide) h2 h3 (tn_le f hM)] at h1
    exact ⟨h1, h4⟩
end
theorem Bs.C {w : World} {a : Option Addr} {n c : Nat} {f : Nat → Bool} (h : Bs w (.slice a n c) n f) : Kd.C Kd.bool w a ((List.range n).map f).length ((List.range n).map f) := by
  obtain ⟨a', c', h1, h2, h3, h4, h5⟩ := h.ex
  cases h1
  have hm : maxLen ≤ 9223372036854775807 := by decide
  refine ⟨rfl, by simp; omega, fun hn => ?_⟩
  simp only [List.length_map, List.length_range] at hn
  obtain ⟨b, rfl⟩ := h4 hn
  refine ⟨b, rfl, fun j p hj => ⟨[.bool p], rfl, rfl, fun i u hu => ?_⟩⟩
  obtain rfl : i = 0 := by have := (List.getElem?_eq_some_iff.1 hu).1; simpa using this
  have hjn : j < n := by have := (List.getElem?_eq_some_iff.1 hj).1; simpa using this
  simp [hjn] at hj
  simp at hu
  subst hu
  subst hj
  have hsz : Kd.bool.sz = 1 := rfl
  rw [hsz, Nat.mul_one, Nat.add_zero]
  exact h5 b rfl j hjn
end Go.Proofs.Ytpfbommaddaijaa

