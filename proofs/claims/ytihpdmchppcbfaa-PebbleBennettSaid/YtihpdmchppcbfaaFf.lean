/- Bennett's play of the path: plain. -/
import Derived.Test.YtihpdmchppcbfaaTl
import Derived.Test.YtihpdmchppcbfaaTk
namespace Go.Proofs.Ytihpdmchppcbfaa
set_option linter.unusedVariables false
set_option linter.unusedSimpArgs false

def ben : Nat → Nat → Nat → Bool → List (Bool × Int)
  | 0, a, b, put => [(put, (a : Int))]
  | k + 1, a, b, put => if b - a = 1 then [(put, (a : Int))] else ben k a (a + (b - a) / 2) true ++ (ben k (a + (b - a) / 2) b put ++ ben k a (a + (b - a) / 2) false)
theorem ben_len : ∀ k a b put, (ben k a b put).length ≤ 3 ^ k
  | 0, a, b, put => by simp [ben]
  | k + 1, a, b, put => by
    rw [ben]
    have h3 : 3 ^ (k + 1) = 3 ^ k * 3 := Nat.pow_succ ..
    have h1 : 1 ≤ 3 ^ k := Nat.one_le_pow _ _ (by decide)
    split
    · simp; omega
    · have q1 := ben_len k a (a + (b - a) / 2) true
      have q2 := ben_len k (a + (b - a) / 2) b put
      have q3 := ben_len k a (a + (b - a) / 2) false
      simp only [List.length_append]
      omega
theorem ben_pos : ∀ k a b put, 1 ≤ (ben k a b put).length
  | 0, a, b, put => by simp [ben]
  | k + 1, a, b, put => by
    rw [ben]
    split
    · simp
    · have := ben_pos k a (a + (b - a) / 2) true
      simp only [List.length_append]
      omega
theorem ben_in : ∀ k a b put, a < b → b - a ≤ 2 ^ k → ∀ x ∈ ben k a b put, (a : Int) ≤ x.2 ∧ x.2 < b
  | 0, a, b, put, h, h2, x, hx => by simp [ben] at hx; subst hx; simp; omega
  | k + 1, a, b, put, h, h2, x, hx => by
    rw [ben] at hx
    have hp : 2 ^ (k + 1) = 2 ^ k * 2 := Nat.pow_succ ..
    split at hx
    · simp at hx; subst hx; simp; omega
    · rcases List.mem_append.1 hx with hx | hx
      · have := ben_in k _ _ _ (by omega) (by omega) x hx; omega
      · rcases List.mem_append.1 hx with hx | hx
        · have := ben_in k _ _ _ (by omega) (by omega) x hx; omega
        · have := ben_in k _ _ _ (by omega) (by omega) x hx; omega

def up (f : Nat → Bool) (i : Nat) (p : Bool) : Nat → Bool := fun u => if u = i then p else f u
def nw (now : Int) (p : Bool) : Int := if p = true then now + 1 else now - 1
def bs (now : Int) (p : Bool) : Int := if p = true then now else now - 1
theorem ben_leaf (a : Nat) (put : Bool) (f : Nat → Bool) (hf : f a = !put) (hp : a = 0 ∨ f (a - 1) = true) (rest : List (Bool × Int)) (now most : Int) :
    run Lp Zp true ((put, (a : Int)) :: rest) f now most = run Lp Zp true rest (up f a put) (nw now put) (max most (nw now put)) := by
  rw [run, if_pos]
  · rfl
  · refine ⟨by simp [hf], fun _ i hi => ?_⟩
    simp only [Int.toNat_natCast] at hi ⊢
    unfold Lp at hi
    split at hi
    · omega
    · rcases hp with h | h
      · omega
      · unfold Zp
        rw [show ((a : Int) - 1).toNat = a - 1 by omega]
        exact h
theorem nw_le (now : Int) (p : Bool) (k : Nat) : nw now p ≤ bs now p + k + 1 := by
  cases p <;> simp [nw, bs] <;> omega
theorem ben_run : ∀ k a b put f now most rest, a < b → b - a ≤ 2 ^ k → (∀ u, a ≤ u → u < b → f u = (decide (u = b - 1) && !put)) → (a = 0 ∨ f (a - 1) = true) →
    ∃ M, run Lp Zp true (ben k a b put ++ rest) f now most = run Lp Zp true rest (up f (b - 1) put) (nw now put) M ∧ M ≤ max most (bs now put + k + 1)
  | 0, a, b, put, f, now, most, rest, h, h2, hf, hp => by
    have hb : b - 1 = a := by simp at h2; omega
    rw [hb]
    refine ⟨_, ben_leaf a put f (by rw [hf a (Nat.le_refl _) h]; simp [hb]) hp rest now most, ?_⟩
    have := nw_le now put 0
    omega
  | k + 1, a, b, put, f, now, most, rest, h, h2, hf, hp => by
    have hpw : 2 ^ (k + 1) = 2 ^ k * 2 := Nat.pow_succ ..
    rw [ben]
    by_cases h1 : b - a = 1
    · rw [if_pos h1]
      have hb : b - 1 = a := by omega
      rw [hb]
      refine ⟨_, ben_leaf a put f (by rw [hf a (Nat.le_refl _) h]; simp [hb]) hp rest now most, ?_⟩
      have := nw_le now put (k + 1)
      omega
    · rw [if_neg h1]
      obtain ⟨m, hm⟩ : ∃ m, m = a + (b - a) / 2 := ⟨_, rfl⟩
      rw [← hm]
      have ha : a < m := by omega
      have hmb : m < b := by omega
      have s1 : m - a ≤ 2 ^ k := by omega
      have s2 : b - m ≤ 2 ^ k := by omega
      have fm : f (m - 1) = false := by
        rw [hf (m - 1) (by omega) (by omega)]
        simp
        omega
      rw [List.append_assoc, List.append_assoc]
      obtain ⟨M1, e1, l1⟩ := ben_run k a m true f now most (ben k m b put ++ (ben k a m false ++ rest)) ha s1 (fun u h3 h4 => by
        rw [hf u h3 (by omega)]
        simp
        omega) hp
      rw [e1]
      obtain ⟨M2, e2, l2⟩ := ben_run k m b put (up f (m - 1) true) (nw now true) M1 (ben k a m false ++ rest) hmb s2 (fun u h3 h4 => by
        unfold up
        rw [if_neg (by omega), hf u (by omega) h4]) (.inr (by simp [up]))
      rw [e2]
      obtain ⟨M3, e3, l3⟩ := ben_run k a m false (up (up f (m - 1) true) (b - 1) put) (nw (nw now true) put) M2 rest ha s1 (fun u h3 h4 => by
        unfold up
        rw [if_neg (by omega)]
        by_cases e : u = m - 1
        · simp [e]
        · rw [if_neg e, hf u h3 (by omega)]
          simp [e]
          omega) (by
        rcases hp with hp | hp
        · exact .inl hp
        · by_cases e : a = 0
          · exact .inl e
          · right
            unfold up
            rw [if_neg (by omega), if_neg (by omega)]
            exact hp)
      rw [e3]
      have ef : up (up (up f (m - 1) true) (b - 1) put) (m - 1) false = up f (b - 1) put := by
        funext u
        unfold up
        by_cases e : u = m - 1
        · rw [if_pos e, if_neg (by omega), e, fm]
        · rw [if_neg e]
          by_cases e2 : u = b - 1
          · rw [if_pos e2, if_pos e2]
          · rw [if_neg e2, if_neg e2, if_neg e]
      have en : nw (nw (nw now true) put) false = nw now put := by
        cases put <;> simp [nw] <;> omega
      rw [ef, en]
      refine ⟨M3, rfl, ?_⟩
      clear e1 e2 e3 ef en hf fm
      cases put <;> simp only [nw, bs, if_true, if_false, Bool.false_eq_true] at l1 l2 l3 ⊢ <;> omega
/-- Bennett's play, whole -/
theorem ben_all (n k : Nat) (h1 : 1 ≤ n) (h2 : n ≤ 2 ^ k) : ∃ M : Int, CR n (run Lp Zp true (ben k 0 n true) (fun _ => false) 0 0) = (M, true) ∧ M ≤ k + 1 := by
  obtain ⟨M, e, l⟩ := ben_run k 0 n true (fun _ => false) 0 0 [] (by omega) (by omega) (fun u _ _ => by simp) (.inl rfl)
  rw [List.append_nil] at e
  rw [e, run, CR, if_pos]
  · refine ⟨M, rfl, ?_⟩
    simp [bs] at l
    omega
  · intro u hu
    unfold up
    by_cases e : u = n - 1 <;> simp [e]
theorem ben_mv (n k : Nat) (h1 : 1 ≤ n) (h2 : n ≤ 2 ^ k) (hk : k ≤ 10) : MV n (ben k 0 n true) := by
  refine ⟨?_, fun i hi => ?_⟩
  · have := ben_len k 0 n true
    have h3 : 3 ^ k ≤ 3 ^ 10 := Nat.pow_le_pow_right (by decide) hk
    omega
  · have e : (ben k 0 n true).getD i dm = (ben k 0 n true)[i] := by simp [List.getD, hi]
    rw [e]
    have := ben_in k 0 n true (by omega) (by omega) _ (List.getElem_mem hi)
    unfold okM
    omega
end Go.Proofs.Ytihpdmchppcbfaa
