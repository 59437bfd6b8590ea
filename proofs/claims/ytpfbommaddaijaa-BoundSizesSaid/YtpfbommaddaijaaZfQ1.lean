/- What bound.Valid answers on any protocol: the same as the reference. -/
import Derived.Test.YtpfbommaddaijaaZfPa
namespace Go.Proofs.Ytpfbommaddaijaa
open Go.RowKit Go.Proofs.YtpfbommaddaijaaW.PrintWords Go.Proofs.YtpfbommaddaijaaW.PrintLast PBoundTo
set_option linter.unusedVariables false
set_option linter.unusedSimpArgs false

/-- what valid answers: r, and the count that is left -/
def VR (W : World) (gn : Nat) (r : Bool) (left : Int) (e : Ending) (W' : World) : Prop := e = .returned (.bool r) ∧ W.grownBy W' (some gn) ∧ (r = true → W'.heap[gn]? = some (.cells #[I left] 3 (0, 0)))
/-- what valid answers -/
def vb (n : Nat) (D : Int) (N : Nat) (x : S32) : Bool := decide (nd x ≤ N) && decide ((hg x : Int) ≤ D) && shp n x
theorem VR.left {W W' : World} {gn : Nat} {r r' : Bool} {a b : Int} {e : Ending} (h : VR W gn r a e W') (hr : r = r') (hl : r = true → a = b) : VR W gn r' b e W' := by
  subst hr
  obtain ⟨h1, h2, h3⟩ := h
  exact ⟨h1, h2, fun hr => by rw [← hl hr]; exact h3 hr⟩
end Go.Proofs.Ytpfbommaddaijaa

