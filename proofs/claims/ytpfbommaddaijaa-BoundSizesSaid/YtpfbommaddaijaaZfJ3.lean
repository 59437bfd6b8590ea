/- Plain: the protocol that is made of a formula, and what it solves. -/
import Derived.Test.YtpfbommaddaijaaZfV7
namespace Go.Proofs.Ytpfbommaddaijaa
open PBoundTo
set_option linter.unusedVariables false
set_option linter.unusedSimpArgs false

/-- without constants and FXor -/
def Fx.pl (n : Int) : Fx → Prop
  | .leaf k v => k = 0 ∧ 0 ≤ v ∧ v < n
  | .not a => a.pl n
  | .bin k a b => (k = 3 ∨ k = 4) ∧ a.pl n ∧ b.pl n
end Go.Proofs.Ytpfbommaddaijaa

