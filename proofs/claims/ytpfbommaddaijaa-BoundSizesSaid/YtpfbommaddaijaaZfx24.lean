/- Keys that hold a pointer: when two are the same; Look-up and update in a map whose keys hold a pointer: run laws and steps of a walk. -/
import Derived.Test.YtpfbommaddaijaaZfPa
import Derived.Test.YtpfbommaddaijaaZfPCopyx0
import Derived.LaidEqlPtr
import Derived.MapKept
namespace Go.Proofs.Ytpfbommaddaijaa
open Go.RowKit Go.Proofs.YtpfbommaddaijaaW.PrintWords Go.Proofs.YtpfbommaddaijaaW.PrintLast PBoundTo
set_option linter.unusedVariables false
set_option linter.unusedSimpArgs false

abbrev KP (a : Addr) (s m : Int) : Value := .agg #[.pointer (some a), I s, I m]
/-- the address lies in a plain block -/
def Pl (w : World) (a : Addr) : Prop := ∃ cs t, w.heap[a.block]? = some (.cells cs t (0, 0))
/-- one entry of the map of depths -/
structure De where
  a : Addr
  s : Int
  m : Int
  d : Int
/-- the entries, as the map holds them -/
inductive Ents : List De → List MapEntry → Prop
  | nil : Ents [] []
  | cons {x : De} {xs : List De} {es : List MapEntry} {c : Nat} : Ents xs es → Ents (x :: xs) ({ key := KP x.a x.s x.m, val := I x.d, born := c } :: es)
end Go.Proofs.Ytpfbommaddaijaa

namespace Go.Proofs.Ytpfbommaddaijaa
open Go.RowKit Go.Proofs.YtpfbommaddaijaaW.PrintWords Go.Proofs.YtpfbommaddaijaaW.PrintLast PBoundTo
set_option linter.unusedVariables false
set_option linter.unusedSimpArgs false

/-- the map of depths in memory -/
def Dm (w : World) (b : Nat) (xs : List De) : Prop := ∃ es clock, w.heap[b]? = some (.map es clock) ∧ Ents xs es.toList ∧ ∀ x ∈ xs, Pl w x.a
theorem Pl.keep {w w' : World} {a : Addr} {b : Nat} (h : Pl w a) (hk : ∀ k, k ≠ b → w'.heap[k]? = w.heap[k]?) (hne : a.block ≠ b) : Pl w' a := by
  obtain ⟨cs, t, h⟩ := h
  exact ⟨cs, t, (hk _ hne).trans h⟩
theorem Ents.push {xs : List De} {es : List MapEntry} (h : Ents xs es) (x : De) (c : Nat) : Ents (xs ++ [x]) (es ++ [{ key := KP x.a x.s x.m, val := I x.d, born := c }]) := by
  induction h with
  | nil => exact .cons .nil
  | cons _ ih => exact .cons ih
end Go.Proofs.Ytpfbommaddaijaa

