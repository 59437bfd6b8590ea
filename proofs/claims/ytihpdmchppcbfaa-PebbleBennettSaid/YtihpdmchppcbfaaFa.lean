/- Plain mathematics: a search in breadth finds the shortest ways. -/
namespace Go.Proofs.Ytihpdmchppcbfaa
set_option linter.unusedVariables false
set_option linter.unusedSimpArgs false

section
variable (E : Nat → Nat → Prop)
/-- x is reached from 0 in m steps -/
def Rch : Nat → Nat → Prop
  | 0, x => x = 0
  | m + 1, x => ∃ s, Rch m s ∧ E s x

/-- the state of a search: Q has been found, in this order, its first h elements have been left behind; of the next one the targets in T have been looked at -/
structure Bfs (Q : List Nat) (h : Nat) (dep : Nat → Nat) (T : Nat → Prop) : Prop where
  nodup : Q.Nodup
  root : 0 ∈ Q ∧ dep 0 = 0
  le : h ≤ Q.length
  sorted : ∀ (i j x y : Nat), i ≤ j → Q[i]? = some x → Q[j]? = some y → dep x ≤ dep y
  gap : ∀ (s x : Nat), Q[h]? = some s → x ∈ Q → dep x ≤ dep s + 1
  done : ∀ (i s t : Nat), i < h → Q[i]? = some s → E s t → t ∈ Q ∧ dep t ≤ dep s + 1
  part : ∀ (s t : Nat), Q[h]? = some s → T t → E s t → t ∈ Q ∧ dep t ≤ dep s + 1
  real : ∀ x, x ∈ Q → Rch E (dep x) x
  min : ∀ x, x ∈ Q → ∀ m, Rch E m x → dep x ≤ m
end

namespace Bfs
variable {E : Nat → Nat → Prop} {Q : List Nat} {h : Nat} {dep : Nat → Nat} {T : Nat → Prop}
theorem start (E : Nat → Nat → Prop) : Bfs E [0] 0 (fun _ => 0) (fun _ => False) where
  nodup := by simp
  root := ⟨by simp, rfl⟩
  le := by simp
  sorted := fun i j x y _ _ _ => Nat.le_refl _
  gap := fun s x _ _ => by simp
  done := fun i s t hi => by omega
  part := fun s t _ hT => hT.elim
  real := fun x hx => by simp at hx; subst hx; rfl
  min := fun x _ m _ => Nat.zero_le _

theorem front (b : Bfs E Q h dep T) : ∀ m x, Rch E m x → (x ∈ Q ∧ dep x ≤ m) ∨ ∃ i y, h ≤ i ∧ Q[i]? = some y ∧ dep y + 1 ≤ m
  | 0, x, hx => by
    have : x = 0 := hx
    subst this
    exact .inl ⟨b.root.1, by rw [b.root.2]; exact Nat.le_refl _⟩
  | m + 1, x, ⟨s, hs, he⟩ => by
    rcases front b m s hs with ⟨hq, hd⟩ | ⟨i, y, hi, hy, hd⟩
    · obtain ⟨i, hi, hs'⟩ := List.getElem_of_mem hq
      have hsi : Q[i]? = some s := by rw [List.getElem?_eq_getElem hi, hs']
      rcases Nat.lt_or_ge i h with hl | hl
      · have := b.done i s x hl hsi he
        exact .inl ⟨this.1, by omega⟩
      · exact .inr ⟨i, s, hl, hsi, by omega⟩
    · exact .inr ⟨i, y, hi, hy, by omega⟩

/-- a new target -/
theorem new (b : Bfs E Q h dep T) {s t : Nat} (hs : Q[h]? = some s) (ht : t ∉ Q) (he : E s t) : Bfs E (Q ++ [t]) h (fun x => if x = t then dep s + 1 else dep x) (fun x => T x ∨ x = t) := by
  have hl : h < Q.length := by
    apply Classical.byContradiction
    intro hc
    rw [List.getElem?_eq_none (by omega)] at hs
    cases hs
  have hsQ : s ∈ Q := List.mem_of_getElem? hs
  have hin : ∀ x, x ∈ Q → x ≠ t := fun x hx e => ht (e ▸ hx)
  have hget : ∀ {i x}, (Q ++ [t])[i]? = some x → (Q[i]? = some x ∧ x ≠ t) ∨ (i = Q.length ∧ x = t) := fun {i x} hx => by
    rcases Nat.lt_or_ge i Q.length with hl' | hl'
    · rw [List.getElem?_append_left hl'] at hx
      exact .inl ⟨hx, hin x (List.mem_of_getElem? hx)⟩
    · rw [List.getElem?_append_right hl'] at hx
      have : i - Q.length = 0 := by
        apply Classical.byContradiction
        intro hc
        rw [List.getElem?_eq_none (by simp; omega)] at hx
        cases hx
      rw [this] at hx
      simp at hx
      exact .inr ⟨by omega, hx.symm⟩
  have hsh : ∀ {s'}, (Q ++ [t])[h]? = some s' → s' = s := fun {s'} h' => by
    rw [List.getElem?_append_left hl, hs] at h'
    exact (Option.some.inj h').symm
  refine ⟨?_, ?_, ?_, ?_, ?_, ?_, ?_, ?_, ?_⟩
  · rw [List.nodup_append]
    exact ⟨b.nodup, by simp, fun x hx y hy => by simp at hy; rw [hy]; exact hin x hx⟩
  · refine ⟨by simp [b.root.1], ?_⟩
    rw [if_neg (hin 0 b.root.1)]
    exact b.root.2
  · simp
    have := b.le
    omega
  · intro i j x y hij hx hy
    rcases hget hx with ⟨hx', hxt⟩ | ⟨hi, hxt⟩
    · rcases hget hy with ⟨hy', hyt⟩ | ⟨hj, hyt⟩
      · rw [if_neg hxt, if_neg hyt]
        exact b.sorted i j x y hij hx' hy'
      · rw [if_neg hxt, if_pos hyt]
        exact b.gap s x hs (List.mem_of_getElem? hx')
    · rcases hget hy with ⟨hy', hyt⟩ | ⟨hj, hyt⟩
      · have := (List.getElem?_eq_some_iff.1 hy').1
        omega
      · rw [if_pos hxt, if_pos hyt]
        exact Nat.le_refl _
  · intro s' x h' hx
    rw [hsh h', if_neg (hin s hsQ)]
    rcases List.mem_append.1 hx with hx | hx
    · rw [if_neg (hin x hx)]
      exact b.gap s x hs hx
    · simp at hx
      rw [if_pos hx]
      exact Nat.le_refl _
  · intro i s' x hi h' hex
    rw [List.getElem?_append_left (by omega)] at h'
    have := b.done i s' x hi h' hex
    rw [if_neg (hin x this.1), if_neg (hin s' (List.mem_of_getElem? h'))]
    exact ⟨List.mem_append.2 (.inl this.1), this.2⟩
  · intro s' x h' hT hex
    rw [hsh h'] at hex ⊢
    rw [if_neg (hin s hsQ)]
    rcases hT with hT | hT
    · have := b.part s x hs hT hex
      rw [if_neg (hin x this.1)]
      exact ⟨List.mem_append.2 (.inl this.1), this.2⟩
    · rw [if_pos hT, hT]
      exact ⟨by simp, Nat.le_refl _⟩
  · intro x hx
    rcases List.mem_append.1 hx with hx | hx
    · rw [if_neg (hin x hx)]
      exact b.real x hx
    · simp at hx
      rw [if_pos hx, hx]
      exact ⟨s, b.real s hsQ, he⟩
  · intro x hx m hm
    rcases List.mem_append.1 hx with hx | hx
    · rw [if_neg (hin x hx)]
      exact b.min x hx m hm
    · simp at hx
      rw [if_pos hx]
      rw [hx] at hm
      rcases b.front m t hm with ⟨hq, _⟩ | ⟨i, y, hi, hy, hd⟩
      · exact absurd hq ht
      · have := b.sorted h i s y hi hs hy
        omega

/-- a target that was known, or is none -/
theorem old (b : Bfs E Q h dep T) {s t : Nat} (hs : Q[h]? = some s) (ht : t ∈ Q ∨ ¬ E s t) : Bfs E Q h dep (fun x => T x ∨ x = t) where
  nodup := b.nodup
  root := b.root
  le := b.le
  sorted := b.sorted
  gap := b.gap
  done := b.done
  part := fun s' x h' hT he => by
    rcases hT with hT | hT
    · exact b.part s' x h' hT he
    · subst hT
      rw [hs] at h'
      cases h'
      rcases ht with ht | ht
      · exact ⟨ht, b.gap s x hs ht⟩
      · exact absurd he ht
  real := b.real
  min := b.min

/-- all targets were looked at -/
theorem next (b : Bfs E Q h dep T) {s : Nat} (hs : Q[h]? = some s) (hT : ∀ t, E s t → T t) : Bfs E Q (h + 1) dep (fun _ => False) where
  nodup := b.nodup
  root := b.root
  le := (List.getElem?_eq_some_iff.1 hs).1
  sorted := b.sorted
  gap := fun s' x h' hx => by
    have h1 := b.gap s x hs hx
    have h2 := b.sorted h (h + 1) s s' (by omega) hs h'
    omega
  done := fun i s' x hi h' he => by
    rcases Nat.lt_or_ge i h with hl | hl
    · exact b.done i s' x hl h' he
    · obtain rfl : i = h := by omega
      rw [hs] at h'
      cases h'
      exact b.part s x hs (hT x he) he
  part := fun _ _ _ hf => hf.elim
  real := b.real
  min := b.min

/-- nothing is left: all that is reached was found -/
theorem all (b : Bfs E Q h dep T) (hh : h = Q.length) {m x : Nat} (hx : Rch E m x) : x ∈ Q := by
  rcases b.front m x hx with ⟨hq, _⟩ | ⟨i, y, hi, hy, _⟩
  · exact hq
  · have := (List.getElem?_eq_some_iff.1 hy).1
    omega
theorem some_of {b : Bfs E Q h dep T} {T' : Nat → Prop} (hT : ∀ t, T' t → T t) : Bfs E Q h dep T' := ⟨b.nodup, b.root, b.le, b.sorted, b.gap, b.done, fun s t h1 h2 => b.part s t h1 (hT t h2), b.real, b.min⟩
end Bfs

end Go.Proofs.Ytihpdmchppcbfaa
