/- The lists of the law BoundSizes. -/
import Derived.Test.YtpfbommaddaijaaZfKb
namespace Go.Proofs.Ytpfbommaddaijaa
open Go.RowKit
set_option linter.unusedVariables false
set_option linter.unusedSimpArgs false

/-- the inputs without those that are left out, parted by the table -/
def laz (sk f : Nat → Bool) : Nat → List Int
  | 0 => []
  | x + 1 => if sk x = true then laz sk f x else if f x = true then laz sk f x else laz sk f x ++ [(x : Int)]
def lbz (sk f : Nat → Bool) : Nat → List Int
  | 0 => []
  | x + 1 => if sk x = true then lbz sk f x else if f x = true then lbz sk f x ++ [(x : Int)] else lbz sk f x
theorem laz_len (sk f : Nat → Bool) : ∀ x, (laz sk f x).length ≤ x
  | 0 => Nat.le_refl _
  | x + 1 => by have := laz_len sk f x; rw [laz]; split; · omega
                split; · omega
                simp; omega
theorem lbz_len (sk f : Nat → Bool) : ∀ x, (lbz sk f x).length ≤ x
  | 0 => Nat.le_refl _
  | x + 1 => by have := lbz_len sk f x; rw [lbz]; split; · omega
                split; · simp; omega
                omega
theorem laz_mem {sk f : Nat → Bool} {y : Int} : ∀ {x}, y ∈ laz sk f x → ∃ u : Nat, y = u ∧ u < x ∧ f u = false
  | 0, h => by simp [laz] at h
  | x + 1, h => by
    rw [laz] at h
    by_cases e : sk x = true
    · rw [if_pos e] at h; obtain ⟨u, a, b, c⟩ := laz_mem h; exact ⟨u, a, by omega, c⟩
    rw [if_neg e] at h
    by_cases e2 : f x = true
    · rw [if_pos e2] at h; obtain ⟨u, a, b, c⟩ := laz_mem h; exact ⟨u, a, by omega, c⟩
    rw [if_neg e2, List.mem_append] at h
    rcases h with h | h
    · obtain ⟨u, a, b, c⟩ := laz_mem h; exact ⟨u, a, by omega, c⟩
    · simp at h; exact ⟨x, h, by omega, by simpa using e2⟩
theorem lbz_mem {sk f : Nat → Bool} {y : Int} : ∀ {x}, y ∈ lbz sk f x → ∃ u : Nat, y = u ∧ u < x ∧ f u = true
  | 0, h => by simp [lbz] at h
  | x + 1, h => by
    rw [lbz] at h
    by_cases e : sk x = true
    · rw [if_pos e] at h; obtain ⟨u, a, b, c⟩ := lbz_mem h; exact ⟨u, a, by omega, c⟩
    rw [if_neg e] at h
    by_cases e2 : f x = true
    · rw [if_pos e2, List.mem_append] at h
      rcases h with h | h
      · obtain ⟨u, a, b, c⟩ := lbz_mem h; exact ⟨u, a, by omega, c⟩
      · simp at h; exact ⟨x, h, by omega, e2⟩
    · rw [if_neg e2] at h; obtain ⟨u, a, b, c⟩ := lbz_mem h; exact ⟨u, a, by omega, c⟩
theorem laz_nodup (sk f : Nat → Bool) : ∀ x, (laz sk f x).Nodup
  | 0 => List.nodup_nil
  | x + 1 => by
    rw [laz]; split; · exact laz_nodup sk f x
    split; · exact laz_nodup sk f x
    refine List.nodup_append.2 ⟨laz_nodup sk f x, by simp, fun a ha b hb => ?_⟩
    simp at hb
    obtain ⟨u, rfl, h, _⟩ := laz_mem ha
    omega
theorem lbz_nodup (sk f : Nat → Bool) : ∀ x, (lbz sk f x).Nodup
  | 0 => List.nodup_nil
  | x + 1 => by
    rw [lbz]; split; · exact lbz_nodup sk f x
    split
    · refine List.nodup_append.2 ⟨lbz_nodup sk f x, by simp, fun a ha b hb => ?_⟩
      simp at hb
      obtain ⟨u, rfl, h, _⟩ := lbz_mem ha
      omega
    · exact lbz_nodup sk f x
/-- the blocks of variables -/
def bkz (dp jt : Nat → Bool) : Nat → List (List Int)
  | 0 => []
  | v + 1 => if dp v = false then bkz dp jt v else match (bkz dp jt v).getLast? with
    | none => [[(v : Int)]]
    | some r => if jt v = true then (bkz dp jt v).dropLast ++ [r ++ [(v : Int)]] else bkz dp jt v ++ [[(v : Int)]]
theorem bkz_same {dp jt : Nat → Bool} {v : Nat} (h : dp v = false) : bkz dp jt (v + 1) = bkz dp jt v := by rw [bkz, if_pos h]
theorem bkz_new {dp jt : Nat → Bool} {v : Nat} (h : dp v = true) (h2 : ¬ (0 < (bkz dp jt v).length ∧ jt v = true)) : bkz dp jt (v + 1) = bkz dp jt v ++ [[(v : Int)]] := by
  rw [bkz, if_neg (by rw [h]; decide)]
  cases e : (bkz dp jt v).getLast? with
  | none => simp only; rw [List.getLast?_eq_none_iff.1 e]; rfl
  | some r =>
    simp only
    rw [if_neg fun hj => h2 ⟨?_, hj⟩]
    cases e2 : bkz dp jt v with
    | nil => rw [e2] at e; cases e
    | cons a b => simp
theorem bkz_more {dp jt : Nat → Bool} {v : Nat} {l : List (List Int)} {r : List Int} (h : dp v = true) (h2 : jt v = true) (e : bkz dp jt v = l ++ [r]) : bkz dp jt (v + 1) = l ++ [r ++ [(v : Int)]] := by
  rw [bkz, if_neg (by rw [h]; decide), e]
  simp [h2]
theorem bkz_len (dp jt : Nat → Bool) : ∀ v, (bkz dp jt v).length ≤ v
  | 0 => Nat.le_refl _
  | v + 1 => by
    have ih := bkz_len dp jt v
    by_cases h : dp v = false
    · rw [bkz_same h]; omega
    · have h' : dp v = true := by simpa using h
      by_cases h2 : 0 < (bkz dp jt v).length ∧ jt v = true
      · obtain ⟨l, r, e⟩ : ∃ l r, bkz dp jt v = l ++ [r] := by
          cases e : bkz dp jt v with
          | nil => rw [e] at h2; simp at h2
          | cons a b => exact ⟨(a :: b).dropLast, (a :: b).getLast (by simp), (List.dropLast_concat_getLast (by simp)).symm⟩
        rw [bkz_more h' h2.2 e]
        rw [e] at ih
        simp at ih ⊢; omega
      · rw [bkz_new h' h2]; simp; omega
theorem bkz_row {dp jt : Nat → Bool} {r : List Int} : ∀ {v}, r ∈ bkz dp jt v → r.length ≤ v
  | 0, h => by simp [bkz] at h
  | v + 1, h => by
    by_cases e : dp v = false
    · rw [bkz_same e] at h; have := bkz_row h; omega
    have e' : dp v = true := by simpa using e
    by_cases h2 : 0 < (bkz dp jt v).length ∧ jt v = true
    · obtain ⟨l, q, hq⟩ : ∃ l q, bkz dp jt v = l ++ [q] := by
        cases e : bkz dp jt v with
        | nil => rw [e] at h2; simp at h2
        | cons a b => exact ⟨(a :: b).dropLast, (a :: b).getLast (by simp), (List.dropLast_concat_getLast (by simp)).symm⟩
      rw [bkz_more e' h2.2 hq, List.mem_append] at h
      rcases h with h | h
      · have := bkz_row (r := r) (v := v) (by rw [hq]; exact List.mem_append_left _ h); omega
      · have := bkz_row (r := q) (v := v) (by rw [hq]; simp)
        simp at h; subst h; simp; omega
    · rw [bkz_new e' h2, List.mem_append] at h
      rcases h with h | h
      · have := bkz_row h; omega
      · simp at h; subst h; simp
theorem last_of {α : Type} {l : List α} (h : 0 < l.length) : ∃ l' r, l = l' ++ [r] := by
  cases l with
  | nil => simp at h
  | cons a b => exact ⟨(a :: b).dropLast, (a :: b).getLast (by simp), (List.dropLast_concat_getLast (by simp)).symm⟩
end Go.Proofs.Ytpfbommaddaijaa

