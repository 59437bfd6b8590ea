/- Formulas of any shape: what they count, and what formula's node and walk answer. -/
import Derived.Test.YtpfbommaddaijaaZfPa
namespace Go.Proofs.Ytpfbommaddaijaa
open Go.RowKit Go.Proofs.YtpfbommaddaijaaW.PrintWords Go.Proofs.YtpfbommaddaijaaW.PrintLast PBoundTo
set_option linter.unusedVariables false
set_option linter.unusedSimpArgs false

/-- a node is right by itself -/
def nok (k n len : Int) : Bool :=
  if k = 0 then decide (0 ≤ n) && decide (n < 16) && len == 0
  else if k = 1 then (n == 0 || n == 1) && len == 0
  else if k = 2 then n == 0 && len == 1
  else if k = 3 ∨ k = 4 ∨ k = 5 then n == 0 && len == 2
  else false
def cost (k : Int) : Nat := if k = 3 ∨ k = 4 then 1 else if k = 5 then 2 else 0
mutual
def fnd : S24 → Nat
  | ⟨_, _, kids⟩ => 1 + fndL kids
def fndL : List S24 → Nat
  | [] => 0
  | x :: r => fnd x + fndL r
end
mutual
/-- how deep it is nested -/
def fns : S24 → Nat
  | ⟨_, _, kids⟩ => 1 + fnsL kids
def fnsL : List S24 → Nat
  | [] => 0
  | x :: r => max (fns x) (fnsL r)
end
mutual
def fsz : S24 → Nat
  | ⟨_, _, []⟩ => 1
  | ⟨_, _, x :: r⟩ => fsz x + fszL r
def fszL : List S24 → Nat
  | [] => 0
  | x :: r => fsz x + fszL r
end
mutual
def fdp : S24 → Nat
  | ⟨k, _, kids⟩ => fdpL kids + cost k
def fdpL : List S24 → Nat
  | [] => 0
  | x :: r => max (fdp x) (fdpL r)
end
mutual
def fin : S24 → Int
  | ⟨k, n, kids⟩ => max (if k = 0 then n + 1 else 0) (finL kids)
def finL : List S24 → Int
  | [] => -9223372036854775808
  | x :: r => max (fin x) (finL r)
end
mutual
def fsh : S24 → Bool
  | ⟨k, n, kids⟩ => nok k n kids.length && fshL kids
def fshL : List S24 → Bool
  | [] => true
  | x :: r => fsh x && fshL r
end
theorem fnd_eq (x : S24) : fnd x = 1 + fndL x.f2 := by cases x; rw [fnd]
theorem fns_eq (x : S24) : fns x = 1 + fnsL x.f2 := by cases x; rw [fns]
theorem fdp_eq (x : S24) : fdp x = fdpL x.f2 + cost x.f0 := by cases x; rw [fdp]
theorem fin_eq (x : S24) : fin x = max (if x.f0 = 0 then x.f1 + 1 else 0) (finL x.f2) := by cases x; rw [fin]
theorem fsh_eq (x : S24) : fsh x = (nok x.f0 x.f1 x.f2.length && fshL x.f2) := by cases x; rw [fsh]
theorem fsz_leaf (x : S24) (h : x.f2 = []) : fsz x = 1 := by obtain ⟨k, n, kids⟩ := x; simp only at h; subst h; rw [fsz]
theorem fsz_node (x : S24) (h : 0 < x.f2.length) : fsz x = fszL x.f2 := by
  obtain ⟨k, n, kids⟩ := x
  cases kids with
  | nil => exact absurd h (by simp)
  | cons y r => rw [fsz, fszL]
theorem fL_nil : fndL [] = 0 ∧ fnsL [] = 0 ∧ fszL [] = 0 ∧ fdpL [] = 0 ∧ fshL [] = true := by rw [fndL, fnsL, fszL, fdpL, fshL]; simp
theorem fL_cons (x : S24) (r : List S24) : fndL (x :: r) = fnd x + fndL r ∧ fnsL (x :: r) = max (fns x) (fnsL r) ∧ fszL (x :: r) = fsz x + fszL r ∧ fdpL (x :: r) = max (fdp x) (fdpL r) ∧ finL (x :: r) = max (fin x) (finL r) ∧ fshL (x :: r) = (fsh x && fshL r) := by
  rw [fndL, fnsL, fszL, fdpL, finL, fshL]; simp
theorem fdrop (l : List S24) (i : Nat) (h : i < l.length) : l.drop i = rd_T24 l i :: l.drop (i + 1) := by
  rw [List.drop_eq_getElem_cons h]
  congr 1
  simp [rd_T24, List.getD, h]
/-- a child is less nested -/
theorem fns_kid (l : List S24) (i : Nat) (h : i < l.length) : fns (rd_T24 l i) ≤ fnsL l := by
  have key : ∀ (l : List S24) (i : Nat), fnsL (l.drop i) ≤ fnsL l := by
    intro l
    induction l with
    | nil => intro i; simp
    | cons x r ih =>
      intro i
      cases i with
      | zero => simp
      | succ i => have := ih i; rw [List.drop_succ_cons, (fL_cons x r).2.1]; omega
  have := key l i
  rw [fdrop l i h, (fL_cons _ _).2.1] at this
  omega
end Go.Proofs.Ytpfbommaddaijaa

