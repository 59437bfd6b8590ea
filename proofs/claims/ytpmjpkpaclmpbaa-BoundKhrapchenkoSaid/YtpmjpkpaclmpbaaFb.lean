/- Plain: the keys of the leaves; the entries ahead of the leaves and behind each. -/
import Derived.Test.YtpmjpkpaclmpbaaFa
namespace Go.Proofs.Ytpmjpkpaclmpbaa
open Go.Maps
set_option linter.unusedVariables false
set_option linter.unusedSimpArgs false

theorem isMap_Dl (n : Nat) : ∀ k, IsMap (Dl n k)
  | 0 => isMap_empty.put _ _
  | k + 1 => (isMap_Dl n k).put _ _
theorem has_Dl (n : Nat) (x : Int) : ∀ k, has (Dl n k) (.int .i64 x) = true ↔ x = 0 ∨ ∃ v, v < k ∧ x = lf v (2 ^ n)
  | 0 => by
    rw [Dl]
    by_cases h : x = 0
    · subst h
      have e := has_put_same (H := Unit) (D := .map []) (k := .int .i64 0) isMap_empty trivial (.agg [.lit (.int .i64 1), .lit (.int .i64 0)])
      simp [e]
    · rw [has_put_other (by intro e; cases e; exact h rfl)]
      simp [has, h]
  | k + 1 => by
    rw [Dl]
    by_cases h : x = lf k (2 ^ n)
    · rw [h]
      have e := has_put_same (k := .int .i64 (lf k (2 ^ n) : Int)) (isMap_Dl n k) trivial (.agg [.lit (.int .i64 0), .lit (.int .i64 k)])
      simp only [e, true_iff]
      exact .inr ⟨k, by omega, rfl⟩
    · rw [has_put_other (by intro e; cases e; exact h rfl), has_Dl n x k]
      refine ⟨fun h1 => ?_, fun h1 => ?_⟩
      · rcases h1 with h1 | ⟨v, h2, h3⟩
        · exact .inl h1
        · exact .inr ⟨v, by omega, h3⟩
      · rcases h1 with h1 | ⟨v, h2, h3⟩
        · exact .inl h1
        · refine .inr ⟨v, ?_, h3⟩
          by_cases e : v = k
          · subst e; exact absurd h3 h
          · omega
theorem has_LS {n : Nat} {x : Int} (h : has (Dl n n) (.int .i64 x) = true) : ∃ l : Nat, LS n l ∧ x = l := by
  rcases (has_Dl n x n).1 h with h | ⟨v, h1, h2⟩
  · exact ⟨0, .inl rfl, by simp [h]⟩
  · exact ⟨_, .inr ⟨v, h1, rfl⟩, h2⟩
theorem LS_has {n l : Nat} (h : LS n l) : has (Dl n n) (.int .i64 (l : Int)) = true := by
  refine (has_Dl n l n).2 ?_
  rcases h with rfl | ⟨v, h1, rfl⟩
  · exact .inl rfl
  · exact .inr ⟨v, h1, rfl⟩
theorem lf_lt : ∀ (n : Fin 4) (v : Fin 3), v.val < n.val → lf v.val (2 ^ n.val) < 2 ^ 2 ^ n.val := by decide +kernel
theorem LS_lt {n l : Nat} (hn : n ≤ 3) (h : LS n l) : l < 2 ^ 2 ^ n := by
  rcases h with rfl | ⟨v, h1, rfl⟩
  · exact Nat.two_pow_pos _
  · exact lf_lt ⟨n, by omega⟩ ⟨v, by omega⟩ h1
/-- ahead of the leaves -/
def E1 (i : Nat) : Nat → Ent := fun f => ⟨if f < i then 1048576 else 0, 0, 0, 0, false⟩
theorem inv_E1 {n M N : Nat} {leaf : Int} {xor : Bool} {J : Int → Int → Int} (hM : M + 1 = N) : Inv n M leaf xor J (E1 N) := by
  have hc : ∀ f, f ≤ M → cs (E1 N) f = BIG := fun f hf => by
    unfold cs E1
    simp only
    rw [if_pos (by omega)]
  refine ⟨fun f hf => by rw [hc f hf]; simp [BIG], fun f hf h => ?_, fun f hf => by rw [hc f hf, hc _ (by omega)], fun f hf h => ?_⟩
  · rw [hc f hf] at h; exact absurd h (by simp)
  · rw [hc f hf] at h; exact absurd h (by simp)
/-- while the leaves are laid: what is still to come, or laid -/
structure Lv (n M : Nat) (leaf : Int) (xor : Bool) (J : Int → Int → Int) (left : Lit → Bool) (E : Nat → Ent) : Prop where
  inv : Inv n M leaf xor J E
  keys : ∀ kl, left kl = true → has (Dl n n) kl = true
  laid : ∀ l, LS n l → left (.int .i64 (l : Int)) = false → cs E l ≤ leaf
theorem Lv.next {n M : Nat} {leaf : Int} {xor : Bool} {J : Int → Int → Int} {left : Lit → Bool} {E : Nat → Ent} (h : Lv n M leaf xor J left E) (hJ : Join J) (hodd : M % 2 = 1) (h0 : 0 ≤ leaf) {l : Nat} (hl : LS n l) (hlM : l ≤ M) (hlB : ∀ l', LS n l' → l' ≤ M) {r : Bool} (hr : r = decide (leaf < cs E l)) :
    Lv n M leaf xor J (fun z => left z && !z.sameKey (.int .i64 (l : Int))) (if r = true then setE M E l ⟨leaf, -1, l, 0, false⟩ else E) := by
  subst hr
  by_cases hc : leaf < cs E l
  · rw [decide_eq_true hc, if_pos rfl]
    refine ⟨h.inv.step hJ hlM hodd hc h0 rfl (.leaf hl) (.inl ⟨rfl, l, hl, rfl, rfl, rfl⟩), fun kl hk => h.keys kl (by simp at hk; exact hk.1), fun l' hl' hf => ?_⟩
    rw [cs_set]
    by_cases e : l' = M - l ∨ l' = l
    · rw [if_pos e]; exact Int.le_refl _
    · rw [if_neg e]
      refine h.laid l' hl' ?_
      by_cases e2 : left (.int .i64 (l' : Int)) = true
      · simp only [e2, Bool.true_and, Bool.not_eq_false'] at hf
        have hne : l' ≠ l := fun e3 => e (.inr e3)
        rw [sameKey_ne (by intro e3; cases e3; exact hne (by omega))] at hf
        cases hf
      · exact eq_false_of_ne_true e2
  · rw [decide_eq_false hc, if_neg (by decide)]
    refine ⟨h.inv, fun kl hk => h.keys kl (by simp at hk; exact hk.1), fun l' hl' hf => ?_⟩
    by_cases e : l' = l
    · rw [e]; omega
    · refine h.laid l' hl' ?_
      by_cases e2 : left (.int .i64 (l' : Int)) = true
      · simp only [e2, Bool.true_and, Bool.not_eq_false'] at hf
        rw [sameKey_ne (by intro e3; cases e3; exact e (by omega))] at hf
        cases hf
      · exact eq_false_of_ne_true e2
/-- within a pass -/
structure Ps (n M : Nat) (leaf : Int) (xor : Bool) (J : Int → Int → Int) (p0 : Nat) (a b : Nat) (mb : Bool) (E : Nat → Ent) : Prop where
  inv : Inv n M leaf xor J E
  lv : ∀ l, LS n l → cs E l ≤ leaf
  ph : phi E (M + 1) ≤ p0
  tr : mb = true → phi E (M + 1) < p0
  nd : mb = false → ∀ x y, y ≤ x → x ≤ M → (x < a ∨ (x = a ∧ y < b)) → J (cs E x) (cs E y) < BIG → cs E (x &&& y) ≤ J (cs E x) (cs E y) ∧ (xor = true → cs E (x ^^^ y) ≤ J (cs E x) (cs E y))
namespace Ps
variable {n M : Nat} {leaf : Int} {xor : Bool} {J : Int → Int → Int} {p0 a b : Nat} {mb : Bool} {E : Nat → Ent}
theorem start (hi : Inv n M leaf xor J E) (hl : ∀ l, LS n l → cs E l ≤ leaf) : Ps n M leaf xor J (phi E (M + 1)) 0 0 false E :=
  ⟨hi, hl, Nat.le_refl _, (fun h => by cases h), (fun _ x y _ _ h => by omega)⟩
theorem set (h : Ps n M leaf xor J p0 a b mb E) (hJ : Join J) (hodd : M % 2 = 1) {f : Nat} {e : Ent} (hf : f ≤ M) (h0 : 0 ≤ e.c) (hn : e.nt = false) (hder : Der n M leaf xor J f e.c) (hshp : Shp n M leaf xor J (cs E) f e) {r : Bool} (hr : r = decide (e.c < cs E f)) :
    Ps n M leaf xor J p0 a b (r || mb) (if r = true then setE M E f e else E) := by
  subst hr
  by_cases hc : e.c < cs E f
  · rw [decide_eq_true hc, if_pos rfl]
    have hle : ∀ u, u < M + 1 → cs (setE M E f e) u ≤ cs E u := fun u hu => by
      rw [cs_set]
      by_cases h1 : u = M - f
      · rw [if_pos (.inl h1), h1, h.inv.hs f hf]; omega
      · by_cases h2 : u = f
        · rw [if_pos (.inr h2), h2]; omega
        · rw [if_neg (by simp [h1, h2])]; omega
    have hlt : phi (setE M E f e) (M + 1) < phi E (M + 1) := phi_lt (M + 1) hle f (by omega) (by rw [cs_set, if_pos (.inr rfl)]; exact h0) (by rw [cs_set, if_pos (.inr rfl)]; exact hc)
    have hp := h.ph
    refine ⟨h.inv.step hJ hf hodd hc h0 hn hder hshp, fun l hl => ?_, by omega, fun _ => by omega, fun hm => by simp at hm⟩
    by_cases hlM : l < M + 1
    · exact Int.le_trans (hle l hlM) (h.lv l hl)
    · rw [cs_set, if_neg (by omega)]
      exact h.lv l hl
  · rw [decide_eq_false hc, if_neg (by decide), Bool.false_or]
    exact h
theorem done (h : Ps n M leaf xor J p0 a b mb E) (hb : b ≤ a) (hp : mb = false → J (cs E a) (cs E b) < BIG → cs E (a &&& b) ≤ J (cs E a) (cs E b) ∧ (xor = true → cs E (a ^^^ b) ≤ J (cs E a) (cs E b))) : Ps n M leaf xor J p0 a (b + 1) mb E :=
  ⟨h.inv, h.lv, h.ph, h.tr, fun hm x y h1 h2 h3 h4 => by
    by_cases e : x = a ∧ y = b
    · obtain ⟨rfl, rfl⟩ := e
      exact hp hm h4
    · exact h.nd hm x y h1 h2 (by omega) h4⟩
theorem row (h : Ps n M leaf xor J p0 a (a + 1) mb E) : Ps n M leaf xor J p0 (a + 1) 0 mb E :=
  ⟨h.inv, h.lv, h.ph, h.tr, fun hm x y h1 h2 h3 h4 => h.nd hm x y h1 h2 (by omega) h4⟩
theorem clo (h : Ps n M leaf xor J p0 (M + 1) 0 false E) : Clo n M leaf xor J E :=
  ⟨h.lv, fun x y h1 h2 h4 => h.nd rfl x y h1 h2 (by omega) h4⟩
/-- a pair, whole -/
theorem pair (h : Ps n M leaf xor J p0 a b mb E) (hJ : Join J) (hodd : M % 2 = 1) (hpow : ∃ k, M + 1 = 2 ^ k) (hb : b ≤ a) (ha : a ≤ M) (hlt : J (cs E a) (cs E b) < BIG) {E1 E2 : Nat → Ent} {r1 r2 : Bool}
    (hr1 : r1 = decide (J (cs E a) (cs E b) < cs E (a &&& b))) (hE1 : E1 = if r1 = true then setE M E (a &&& b) ⟨J (cs E a) (cs E b), 3, a, b, false⟩ else E)
    (hr2 : r2 = (xor && decide (J (cs E a) (cs E b) < cs E1 (a ^^^ b)))) (hE2 : E2 = if r2 = true then setE M E1 (a ^^^ b) ⟨J (cs E a) (cs E b), 5, a, b, false⟩ else E1) :
    Ps n M leaf xor J p0 a (b + 1) (r2 || (r1 || mb)) E2 := by
  have c0 := (h.inv.hb a ha).1
  have c1 := (h.inv.hb b (by omega)).1
  have hBIG : BIG = 1048576 := rfl
  have ha2 : cs E a < BIG := by have := (hJ.pos _ _ c0 c1).1; omega
  have hb2 : cs E b < BIG := by have := (hJ.pos _ _ c0 c1).2; omega
  have hJ0 : 0 ≤ J (cs E a) (cs E b) := by have := (hJ.pos _ _ c0 c1).1; omega
  have da := h.inv.hd a ha ha2
  have db := h.inv.hd b (by omega) hb2
  have hand : a &&& b ≤ M := Nat.le_trans Nat.and_le_left ha
  have hxor : a ^^^ b ≤ M := by
    obtain ⟨k, hk⟩ := hpow
    have := Nat.xor_lt_two_pow (n := k) (x := a) (y := b) (by omega) (by omega)
    omega
  have s1 : Ps n M leaf xor J p0 a b (r1 || mb) E1 := by
    rw [hE1]
    exact h.set hJ hodd (e := ⟨J (cs E a) (cs E b), 3, a, b, false⟩) hand hJ0 rfl (.and ha (by omega) da db) (.inr ⟨a, b, hb, ha, rfl, rfl, Int.le_refl _, ha2, hb2, .inl ⟨rfl, rfl⟩⟩) hr1
  have hle : ∀ u, u ≤ M → cs E1 u ≤ cs E u := fun u hu => by
    rw [hE1, hr1]
    by_cases hc : J (cs E a) (cs E b) < cs E (a &&& b)
    · rw [decide_eq_true hc, if_pos rfl, cs_set]
      by_cases h1 : u = M - (a &&& b)
      · rw [if_pos (.inl h1), h1, h.inv.hs _ hand]; dsimp only; omega
      · by_cases h2 : u = a &&& b
        · rw [if_pos (.inr h2), h2]; dsimp only; omega
        · rw [if_neg (by simp [h1, h2])]; omega
    · rw [decide_eq_false hc, if_neg (by decide)]; omega
  have s2 : Ps n M leaf xor J p0 a b (r2 || (r1 || mb)) E2 := by
    by_cases hx : xor = true
    · rw [hE2]
      have q0 := (s1.inv.hb a ha).1
      have q1 := (s1.inv.hb b (by omega)).1
      have q2 := hle a ha
      have q3 := hle b (by omega)
      exact s1.set hJ hodd (e := ⟨J (cs E a) (cs E b), 5, a, b, false⟩) hxor hJ0 rfl (.xor hx ha (by omega) da db) (.inr ⟨a, b, hb, ha, rfl, rfl, hJ.mono _ _ _ _ q0 q1 q2 q3, by omega, by omega, .inr ⟨hx, rfl, rfl⟩⟩) (by rw [hr2, hx, Bool.true_and])
    · have hx' := eq_false_of_ne_true hx
      have : r2 = false := by rw [hr2, hx', Bool.false_and]
      rw [hE2, this, if_neg (by decide), Bool.false_or]
      exact s1
  refine s2.done hb fun hm hlt2 => ?_
  have e2 : r2 = false := by cases r2 <;> simp at hm ⊢
  have e1 : r1 = false := by cases r1 <;> simp [e2] at hm ⊢
  have hEE : E2 = E := by rw [hE2, e2, if_neg (by decide), hE1, e1, if_neg (by decide)]
  have hE1E : E1 = E := by rw [hE1, e1, if_neg (by decide)]
  rw [hEE]
  rw [e1] at hr1
  have h1 := of_decide_eq_false hr1.symm
  refine ⟨by omega, fun hx => ?_⟩
  rw [e2, hx, Bool.true_and, hE1E] at hr2
  have h2 := of_decide_eq_false hr2.symm
  omega
end Ps
end Go.Proofs.Ytpmjpkpaclmpbaa
