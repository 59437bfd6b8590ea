/- Plain mathematics: the moves between sets of pebbles, and the list of where each set came from. -/
import Derived.Test.YtihpdmchppcbfaaFa
import Derived.Test.YtihpdmchppcbfaaTd
namespace Go.Proofs.Ytihpdmchppcbfaa
set_option linter.unusedVariables false
set_option linter.unusedSimpArgs false

/-- a move from the set s to the set t -/
def Ed (n : Nat) (need : Nat → Nat) (k : Int) (rev : Bool) (s t : Nat) : Prop := ∃ v, v < n ∧ t = s ^^^ 2 ^ v ∧ ((s < t ∨ rev = true) → s &&& need v = need v) ∧ (pc t : Int) ≤ k

theorem xor_inj {s v v' : Nat} (h : s ^^^ 2 ^ v = s ^^^ 2 ^ v') : v = v' := by
  have h1 : 2 ^ v = 2 ^ v' := by
    have := congrArg (s ^^^ ·) h
    simpa [← Nat.xor_assoc] using this
  rcases Nat.lt_trichotomy v v' with h2 | h2 | h2
  · have := Nat.pow_lt_pow_right (a := 2) (by omega) h2; omega
  · exact h2
  · have := Nat.pow_lt_pow_right (a := 2) (by omega) h2; omega
theorem xor_ne (s v : Nat) : s ^^^ 2 ^ v ≠ s := by
  intro h
  have h1 : 2 ^ v = 0 := by
    have := congrArg (s ^^^ ·) h
    simp only [← Nat.xor_assoc, Nat.xor_self, Nat.zero_xor] at this
    exact this
  have := Nat.two_pow_pos v
  omega
theorem xor_back (s v : Nat) : (s ^^^ 2 ^ v) ^^^ 2 ^ v = s := by simp [Nat.xor_assoc]
theorem xor_lt {s v n : Nat} (hs : s < 2 ^ n) (hv : v < n) : s ^^^ 2 ^ v < 2 ^ n := Nat.xor_lt_two_pow hs (Nat.pow_lt_pow_right (by omega) hv)

/-- fr tells of each set in Q the node whose move led to it -/
structure Fr (E : Nat → Nat → Prop) (n : Nat) (Q : List Nat) (dep : Nat → Nat) (fr : Nat → Int) : Prop where
  vis : ∀ t, t < 2 ^ n → (0 ≤ fr t ↔ t ∈ Q)
  lt : ∀ t, t ∈ Q → t < 2 ^ n
  par : ∀ t, t ∈ Q → t ≠ 0 → ∃ v : Nat, v < n ∧ fr t = v ∧ (t ^^^ 2 ^ v) ∈ Q ∧ dep t = dep (t ^^^ 2 ^ v) + 1 ∧ E (t ^^^ 2 ^ v) t
theorem Fr.start (E : Nat → Nat → Prop) (n : Nat) : Fr E n [0] (fun _ => 0) (fun t => if t = 0 then (n : Int) else -1) where
  vis := fun t _ => by
    by_cases e : t = 0
    · simp [e]
    · simp [e]
  lt := fun t ht => by simp at ht; subst ht; exact Nat.two_pow_pos n
  par := fun t ht h0 => by simp at ht; exact absurd ht h0
theorem Fr.new {E : Nat → Nat → Prop} {n : Nat} {Q : List Nat} {dep : Nat → Nat} {fr : Nat → Int} (h : Fr E n Q dep fr) {s v : Nat} (hs : s ∈ Q) (hv : v < n) (ht : s ^^^ 2 ^ v ∉ Q) (he : E s (s ^^^ 2 ^ v)) :
    Fr E n (Q ++ [s ^^^ 2 ^ v]) (fun x => if x = s ^^^ 2 ^ v then dep s + 1 else dep x) (fun x => if x = s ^^^ 2 ^ v then (v : Int) else fr x) where
  vis := fun t hlt => by
    by_cases e : t = s ^^^ 2 ^ v
    · simp [e]
    · simp only [if_neg e, List.mem_append, List.mem_singleton, e, or_false]
      exact h.vis t hlt
  lt := fun t hm => by
    rcases List.mem_append.1 hm with hm | hm
    · exact h.lt t hm
    · simp at hm
      rw [hm]
      exact xor_lt (h.lt s hs) hv
  par := fun t hm h0 => by
    have hsn : s ≠ s ^^^ 2 ^ v := fun e => xor_ne s v e.symm
    rcases List.mem_append.1 hm with hm | hm
    · have hne : t ≠ s ^^^ 2 ^ v := fun e => ht (e ▸ hm)
      obtain ⟨u, h1, h2, h3, h4, h5⟩ := h.par t hm h0
      have hne2 : t ^^^ 2 ^ u ≠ s ^^^ 2 ^ v := fun e => ht (e ▸ h3)
      refine ⟨u, h1, ?_, List.mem_append.2 (.inl h3), ?_, h5⟩
      · simp only [if_neg hne]; exact h2
      · simp only [if_neg hne, if_neg hne2]; exact h4
    · simp only [List.mem_singleton] at hm
      subst hm
      refine ⟨v, hv, by simp, ?_, ?_, ?_⟩
      · rw [xor_back]; exact List.mem_append.2 (.inl hs)
      · rw [xor_back]
        simp [hsn]
      · rw [xor_back]; exact he

end Go.Proofs.Ytihpdmchppcbfaa
