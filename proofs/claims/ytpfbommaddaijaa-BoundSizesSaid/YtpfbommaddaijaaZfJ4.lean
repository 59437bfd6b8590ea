/- protocol: a leaf. -/
import Derived.Test.YtpfbommaddaijaaZfJ3
import Derived.Test.YtpfbommaddaijaaZfV8a
import Derived.Test.YtpfbommaddaijaaZfQ1
import Derived.Test.YtpfbommaddaijaaZfQg
namespace Go.Proofs.Ytpfbommaddaijaa
open Go.RowKit Go.Proofs.YtpfbommaddaijaaW.PrintWords Go.Proofs.YtpfbommaddaijaaW.PrintLast PBoundTo
set_option linter.unusedVariables false
set_option linter.unusedSimpArgs false

/-- a protocol's rows in memory -/
structure Po (w : World) (t : Pt) (A3 A4 : Option Addr) (c3 c4 : Nat) : Prop where
  a : Kd.C Kd.bool w A3 t.toS.f3.length t.toS.f3
  la : t.toS.f3.length ≤ c3
  k : Kd.C k32 w A4 t.toS.f4.length t.toS.f4
  lk : t.toS.f4.length ≤ c4
  pl : ∃ m, PlR m w t.toS.f4 A4
/-- they lie in the blocks from B on, below N, and not in g -/
def PoS (B N g : Nat) (w : World) (t : Pt) (A3 A4 : Option Addr) (c3 c4 : Nat) : Prop := ∀ w' : World, (∀ k, B ≤ k → k < N → k ≠ g → w'.heap[k]? = w.heap[k]?) → Po w' t A3 A4 c3 c4
abbrev pAgg (t : Pt) (A3 A4 : Option Addr) (c3 c4 : Nat) : Value := .agg #[.bool t.toS.f0, I t.toS.f1, I t.toS.f2, .slice A3 t.toS.f3.length c3, .slice A4 t.toS.f4.length c4]
/-- what protocol answers -/
def PrR (w : World) (N : Nat) (q : Pt) (f : Nat → Bool) (e : Ending) (w' : World) : Prop := ∃ A3 c3 A4 c4 g, e = .returned (.tuple #[pAgg q A3 A4 c3 c4, .slice (some ⟨g, 0, none⟩) N N]) ∧ w'.rowIs g 4 N (fun i => .bool (f i)) ∧ w.heap.size ≤ g ∧ PoS w.heap.size w'.heap.size g w' q A3 A4 c3 c4 ∧ Below w.heap.size w w'
end Go.Proofs.Ytpfbommaddaijaa

