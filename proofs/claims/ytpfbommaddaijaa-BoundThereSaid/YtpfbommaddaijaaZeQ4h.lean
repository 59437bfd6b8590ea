/- What made builds, plainly; lists and split. -/
import Derived.Test.YtpfbommaddaijaaZex34
import Derived.Test.YtpfbommaddaijaaZex19
import Derived.Test.YtpfbommaddaijaaZeH2
namespace Go.Proofs.Ytpfbommaddaijaa
open Go.RowKit Go.Proofs.YtpfbommaddaijaaW.PrintWords Go.Proofs.YtpfbommaddaijaaW.PrintLast PBoundTo
set_option linter.unusedVariables false
set_option linter.unusedSimpArgs false

theorem ons_mem (l : List Bool) (x : Int) : ∀ j i, x ∈ ons l i j ↔ ∃ m : Nat, x = m ∧ i ≤ m ∧ m < i + j ∧ l.getD m false = true
  | 0, i => by simp [ons]; intro m _ h1 h2; omega
  | j + 1, i => by
    rw [ons]
    by_cases e : l.getD i false = true
    · rw [if_pos e, List.mem_cons, ons_mem l x j (i + 1)]
      constructor
      · rintro (h | ⟨m, h1, h2, h3, h4⟩)
        · exact ⟨i, h, by omega, by omega, e⟩
        · exact ⟨m, h1, by omega, by omega, h4⟩
      · rintro ⟨m, h1, h2, h3, h4⟩
        by_cases hm : m = i
        · exact .inl (by rw [h1, hm])
        · exact .inr ⟨m, h1, by omega, by omega, h4⟩
    · rw [if_neg e, ons_mem l x j (i + 1)]
      constructor
      · rintro ⟨m, h1, h2, h3, h4⟩; exact ⟨m, h1, by omega, by omega, h4⟩
      · rintro ⟨m, h1, h2, h3, h4⟩
        have hm : m ≠ i := fun h => e (by rw [← h]; exact h4)
        exact ⟨m, h1, by omega, by omega, h4⟩
theorem zrs_mem (l : List Bool) (x : Int) : ∀ j i, x ∈ zrs l i j ↔ ∃ m : Nat, x = m ∧ i ≤ m ∧ m < i + j ∧ l.getD m false = false
  | 0, i => by simp [zrs]; intro m _ h1 h2; omega
  | j + 1, i => by
    rw [zrs]
    by_cases e : l.getD i false = true
    · rw [if_pos e, zrs_mem l x j (i + 1)]
      constructor
      · rintro ⟨m, h1, h2, h3, h4⟩; exact ⟨m, h1, by omega, by omega, h4⟩
      · rintro ⟨m, h1, h2, h3, h4⟩
        have hm : m ≠ i := fun h => by rw [h, e] at h4; cases h4
        exact ⟨m, h1, by omega, by omega, h4⟩
    · rw [if_neg e, List.mem_cons, zrs_mem l x j (i + 1)]
      constructor
      · rintro (h | ⟨m, h1, h2, h3, h4⟩)
        · exact ⟨i, h, by omega, by omega, Bool.eq_false_iff.2 e⟩
        · exact ⟨m, h1, by omega, by omega, h4⟩
      · rintro ⟨m, h1, h2, h3, h4⟩
        by_cases hm : m = i
        · exact .inl (by rw [h1, hm])
        · exact .inr ⟨m, h1, by omega, by omega, h4⟩
/-- what made answers: a formula, and whether the protocol solves the pairs -/
def comb (k : Int) (x y : Fx × Bool) : Fx × Bool := if (x.2 && y.2) = true then (.bin k x.1 y.1, true) else (.leaf 0 0, false)
def md : Pt → List Int → List Int → Fx × Bool
  | .leaf v, a, b => if a.length = 0 then (.leaf 1 0, true) else if b.length = 0 then (.leaf 1 1, true) else
      (if (a.getD 0 0).toNat.testBit v.toNat = true then .leaf 0 v else .not (.leaf 0 v), !anyb v.toNat ((a.getD 0 0).toNat.testBit v.toNat) a && !anyb v.toNat (!(a.getD 0 0).toNat.testBit v.toNat) b)
  | .node pl ask l r, a, b => if a.length = 0 then (.leaf 1 0, true) else if b.length = 0 then (.leaf 1 1, true) else
      if pl = 1 then comb 3 (md l a (zs ask b)) (md r a (os ask b)) else comb 4 (md l (zs ask a) b) (md r (os ask a) b)
/-- made's answer, in memory -/
def MR (W : World) (q : Fx × Bool) (e : Ending) (w' : World) : Prop := ∃ k n A l c, e = .returned (.tuple #[.agg #[I k, I n, .slice A l c], .bool q.2]) ∧ FmS W.heap.size w'.heap.size w' q.1 [I k, I n, .slice A l c] ∧ Below W.heap.size W w'
end Go.Proofs.Ytpfbommaddaijaa

