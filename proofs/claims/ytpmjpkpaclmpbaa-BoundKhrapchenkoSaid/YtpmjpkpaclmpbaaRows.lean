/-
  NARROWER THAN 'FOR EVERY INPUT', by the rows' own cells (each row's printed sentence says how): BoundGames: loops · BoundSizes: loops.
  DERIVED. THE GIVEN ROWS OF THIS SEAT. 5 by the template 'for every input the law returns true; each argument reads behind the call as it read before'; 0 by the template 'total and deterministic' (their statements: YtpmjpkpaclmpbaaTotals.lean).
  GIVEN WITH THE SEED: the statements are not yours to turn. If you find one false, say at which input.
  Laid BY PROGRAM, IN A SANDBOX (cutbox-rows.mjs): the forced cells as the released guide's own fill.sh prints them over the translation 32e638422a477de8… (all of the seat's roots in one cut). By AI agents, Wed Nov 11 2026. No macro, syntax, notation, axiom, sorry.
-/
import Derived.Test.YtpmjpkpaclmpbaaChecked
import GoSem.Claim
import GoSem.ClaimJoined
import GoSem.ClaimMapViews
import Derived.JoinedTies
import Derived.KernelRfl
namespace Go.Proofs.Ytpmjpkpaclmpbaa
/- THE CELL 'sum', in the pinned program and in every row, IS THE sha256 OF THE DUMP (.gsa) THAT YtpmjpkpaclmpbaaProg.lean LOADS. Nothing in Lean hashes anything: it is a label: what it is worth is what the hold of that sum in a sandbox is worth. -/
noncomputable def Try.pinned : Pinned := { name := "ytpmjpkpaclmpbaa", sum := "32e638422a477de8e74333b2984ab7ab6c10ff750a9fbf1f61ac04cc4534ed6f", checked := Try.checked }
namespace Rows
def none {H : Type} : Left H := { results := [], args := [] }

/-- 'commodatumlaw23.BoundKhrapchenko': WHATEVER THE INPUT: true; the input reads as it did. -/
def boundKhrapchenkoSpec : ChangeSpec := { name := "boundKhrapchenko", fn := fun _ => fun
  | [d1, d2, d3] => { results := [.lit (.bool true)], args := [d1, d2, d3] }
  | _ => none }
def boundKhrapchenkoRow : OpenClaim := { program := "ytpmjpkpaclmpbaa", sum := "32e638422a477de8e74333b2984ab7ab6c10ff750a9fbf1f61ac04cc4534ed6f", func := "commodatum/commodatumlaw23.BoundKhrapchenko", spec := "boundKhrapchenko", unfollowed := true, recurses := true, apart := false }
def BoundKhrapchenkoSaid : Prop := boundKhrapchenkoRow.holds Try.pinned (OpenSpec.ofChange boundKhrapchenkoSpec)

/-- ITS FALSE NEIGHBOUR: 'it returns false'. Refute it at one input. -/
def boundKhrapchenkoWrong : ChangeSpec := { name := "boundKhrapchenko", fn := fun _ => fun
  | [d1, d2, d3] => { results := [.lit (.bool false)], args := [d1, d2, d3] }
  | _ => none }
def BoundKhrapchenkoWrongFalsely : Prop := boundKhrapchenkoRow.holds Try.pinned (OpenSpec.ofChange boundKhrapchenkoWrong)

/-- 'commodatumlaw23.BoundGames': WHATEVER THE INPUT: true; the input reads as it did. -/
def boundGamesSpec : ChangeSpec := { name := "boundGames", fn := fun _ => fun
  | [d1, d2] => { results := [.lit (.bool true)], args := [d1, d2] }
  | _ => none }
def boundGamesRow : OpenClaim := { program := "ytpmjpkpaclmpbaa", sum := "32e638422a477de8e74333b2984ab7ab6c10ff750a9fbf1f61ac04cc4534ed6f", func := "commodatum/commodatumlaw23.BoundGames", spec := "boundGames", unfollowed := true, recurses := true, loops := true, apart := false }
def BoundGamesSaid : Prop := boundGamesRow.holds Try.pinned (OpenSpec.ofChange boundGamesSpec)

/-- ITS FALSE NEIGHBOUR: 'it returns false'. Refute it at one input. -/
def boundGamesWrong : ChangeSpec := { name := "boundGames", fn := fun _ => fun
  | [d1, d2] => { results := [.lit (.bool false)], args := [d1, d2] }
  | _ => none }
def BoundGamesWrongFalsely : Prop := boundGamesRow.holds Try.pinned (OpenSpec.ofChange boundGamesWrong)

/-- 'commodatumlaw23.BoundLeast': WHATEVER THE INPUT: true; the input reads as it did. -/
def boundLeastSpec : ChangeSpec := { name := "boundLeast", fn := fun _ => fun
  | [d] => { results := [.lit (.bool true)], args := [d] }
  | _ => none }
def boundLeastRow : OpenClaim := { program := "ytpmjpkpaclmpbaa", sum := "32e638422a477de8e74333b2984ab7ab6c10ff750a9fbf1f61ac04cc4534ed6f", func := "commodatum/commodatumlaw23.BoundLeast", spec := "boundLeast", unfollowed := true, recurses := true, apart := false }
def BoundLeastSaid : Prop := boundLeastRow.holds Try.pinned (OpenSpec.ofChange boundLeastSpec)

/-- ITS FALSE NEIGHBOUR: 'it returns false'. Refute it at one input. -/
def boundLeastWrong : ChangeSpec := { name := "boundLeast", fn := fun _ => fun
  | [d] => { results := [.lit (.bool false)], args := [d] }
  | _ => none }
def BoundLeastWrongFalsely : Prop := boundLeastRow.holds Try.pinned (OpenSpec.ofChange boundLeastWrong)

/-- 'commodatumlaw23.BoundNechiporuk': WHATEVER THE INPUT: true; the input reads as it did. -/
def boundNechiporukSpec : ChangeSpec := { name := "boundNechiporuk", fn := fun _ => fun
  | [d1, d2] => { results := [.lit (.bool true)], args := [d1, d2] }
  | _ => none }
def boundNechiporukRow : OpenClaim := { program := "ytpmjpkpaclmpbaa", sum := "32e638422a477de8e74333b2984ab7ab6c10ff750a9fbf1f61ac04cc4534ed6f", func := "commodatum/commodatumlaw23.BoundNechiporuk", spec := "boundNechiporuk", unfollowed := true, recurses := true, apart := false }
def BoundNechiporukSaid : Prop := boundNechiporukRow.holds Try.pinned (OpenSpec.ofChange boundNechiporukSpec)

/-- ITS FALSE NEIGHBOUR: 'it returns false'. Refute it at one input. -/
def boundNechiporukWrong : ChangeSpec := { name := "boundNechiporuk", fn := fun _ => fun
  | [d1, d2] => { results := [.lit (.bool false)], args := [d1, d2] }
  | _ => none }
def BoundNechiporukWrongFalsely : Prop := boundNechiporukRow.holds Try.pinned (OpenSpec.ofChange boundNechiporukWrong)

/-- 'commodatumlaw23.BoundSizes': WHATEVER THE INPUT: true; the input reads as it did. -/
def boundSizesSpec : ChangeSpec := { name := "boundSizes", fn := fun _ => fun
  | [d1, d2, d3] => { results := [.lit (.bool true)], args := [d1, d2, d3] }
  | _ => none }
def boundSizesRow : OpenClaim := { program := "ytpmjpkpaclmpbaa", sum := "32e638422a477de8e74333b2984ab7ab6c10ff750a9fbf1f61ac04cc4534ed6f", func := "commodatum/commodatumlaw23.BoundSizes", spec := "boundSizes", unfollowed := true, recurses := true, loops := true, apart := false }
def BoundSizesSaid : Prop := boundSizesRow.holds Try.pinned (OpenSpec.ofChange boundSizesSpec)

/-- ITS FALSE NEIGHBOUR: 'it returns false'. Refute it at one input. -/
def boundSizesWrong : ChangeSpec := { name := "boundSizes", fn := fun _ => fun
  | [d1, d2, d3] => { results := [.lit (.bool false)], args := [d1, d2, d3] }
  | _ => none }
def BoundSizesWrongFalsely : Prop := boundSizesRow.holds Try.pinned (OpenSpec.ofChange boundSizesWrong)

/- THE SECOND FORM. 'bulk': how many values and letters a reading holds, each counted each time it is reached (what is shared counts as often as it is met; a slice's spare places count too). A statement '..UptoSaid' is the law's where the arguments, and the package variables that the reading takes, are together of bulk at most 1048576: NARROWER than '..Said'. Prove '..Said' where nothing that the law and all that it calls make is longer than what came in: it says more and counts as full. Else prove '..UptoSaid'. A law counts once. -/
mutual
def uptoBulk {H : Type} : DataW H → Nat
  | .lit (.string bytes) => bytes.length + 1
  | .lit _ => 1
  | .nil => 1
  | .ptr d => uptoBulk d + 1
  | .slice elems spare => uptoBulkAll elems + uptoBulkAll spare + 1
  | .agg parts => uptoBulkAll parts + 1
  | .iface _ d => uptoBulk d + 1
  | .map entries => uptoBulkEntries entries + 1
  | .held _ => 1
def uptoBulkAll {H : Type} : List (DataW H) → Nat
  | [] => 0
  | d :: r => uptoBulk d + uptoBulkAll r
def uptoBulkEntries {H : Type} : List (Lit × DataW H) → Nat
  | [] => 0
  | x :: r => uptoBulkEntry x + uptoBulkEntries r
def uptoBulkEntry {H : Type} : Lit × DataW H → Nat
  | (.string bytes, d) => bytes.length + uptoBulk d + 1
  | (_, d) => uptoBulk d + 1
 end
def uptoSmall : (H : Type) → List (DataW H) → Bool := fun _ ds => decide (uptoBulkAll ds ≤ 1048576)
def OpenSpec.upto (s : _root_.Go.ChangeSpec) : _root_.Go.OpenSpec := { _root_.Go.OpenSpec.ofChange s with cond := some uptoSmall }

/-- 'commodatumlaw23.BoundKhrapchenko', WHERE WHAT IT READS IS OF BULK AT MOST 1048576: true; the input reads as it did. -/
def boundKhrapchenkoUptoRow : OpenClaim := { program := "ytpmjpkpaclmpbaa", sum := "32e638422a477de8e74333b2984ab7ab6c10ff750a9fbf1f61ac04cc4534ed6f", func := "commodatum/commodatumlaw23.BoundKhrapchenko", spec := "boundKhrapchenko", unfollowed := true, recurses := true, apart := false, narrowed := true }
def BoundKhrapchenkoUptoSaid : Prop := boundKhrapchenkoUptoRow.holds Try.pinned (OpenSpec.upto boundKhrapchenkoSpec)

/-- 'commodatumlaw23.BoundGames', WHERE WHAT IT READS IS OF BULK AT MOST 1048576: true; the input reads as it did. -/
def boundGamesUptoRow : OpenClaim := { program := "ytpmjpkpaclmpbaa", sum := "32e638422a477de8e74333b2984ab7ab6c10ff750a9fbf1f61ac04cc4534ed6f", func := "commodatum/commodatumlaw23.BoundGames", spec := "boundGames", unfollowed := true, recurses := true, loops := true, apart := false, narrowed := true }
def BoundGamesUptoSaid : Prop := boundGamesUptoRow.holds Try.pinned (OpenSpec.upto boundGamesSpec)

/-- 'commodatumlaw23.BoundLeast', WHERE WHAT IT READS IS OF BULK AT MOST 1048576: true; the input reads as it did. -/
def boundLeastUptoRow : OpenClaim := { program := "ytpmjpkpaclmpbaa", sum := "32e638422a477de8e74333b2984ab7ab6c10ff750a9fbf1f61ac04cc4534ed6f", func := "commodatum/commodatumlaw23.BoundLeast", spec := "boundLeast", unfollowed := true, recurses := true, apart := false, narrowed := true }
def BoundLeastUptoSaid : Prop := boundLeastUptoRow.holds Try.pinned (OpenSpec.upto boundLeastSpec)

/-- 'commodatumlaw23.BoundNechiporuk', WHERE WHAT IT READS IS OF BULK AT MOST 1048576: true; the input reads as it did. -/
def boundNechiporukUptoRow : OpenClaim := { program := "ytpmjpkpaclmpbaa", sum := "32e638422a477de8e74333b2984ab7ab6c10ff750a9fbf1f61ac04cc4534ed6f", func := "commodatum/commodatumlaw23.BoundNechiporuk", spec := "boundNechiporuk", unfollowed := true, recurses := true, apart := false, narrowed := true }
def BoundNechiporukUptoSaid : Prop := boundNechiporukUptoRow.holds Try.pinned (OpenSpec.upto boundNechiporukSpec)

/-- 'commodatumlaw23.BoundSizes', WHERE WHAT IT READS IS OF BULK AT MOST 1048576: true; the input reads as it did. -/
def boundSizesUptoRow : OpenClaim := { program := "ytpmjpkpaclmpbaa", sum := "32e638422a477de8e74333b2984ab7ab6c10ff750a9fbf1f61ac04cc4534ed6f", func := "commodatum/commodatumlaw23.BoundSizes", spec := "boundSizes", unfollowed := true, recurses := true, loops := true, apart := false, narrowed := true }
def BoundSizesUptoSaid : Prop := boundSizesUptoRow.holds Try.pinned (OpenSpec.upto boundSizesSpec)

end Rows
end Go.Proofs.Ytpmjpkpaclmpbaa
