/-
  No cell of these rows narrows 'for every input' (looked for: loops, veiled, ifaces, maps, wideKeys, modest, calm, conditions, laid).
  DERIVED. THE GIVEN ROWS OF THIS SEAT. 6 by the template 'for every input the law returns true; each argument reads behind the call as it read before'; 0 by the template 'total and deterministic' (their statements: YtihpdmchppcbfaaTotals.lean).
  GIVEN WITH THE SEED: the statements are not yours to turn. If you find one false, say at which input.
  Laid BY PROGRAM, IN A SANDBOX (cutbox-rows.mjs): the forced cells as the released guide's own fill.sh prints them over the translation 133d5aa82e76a68f… (all of the seat's roots in one cut). By AI agents, Wed Nov 11 2026. No macro, syntax, notation, axiom, sorry.
-/
import Derived.Test.YtihpdmchppcbfaaChecked
import GoSem.Claim
import GoSem.ClaimJoined
import GoSem.ClaimMapViews
import Derived.JoinedTies
import Derived.KernelRfl
namespace Go.Proofs.Ytihpdmchppcbfaa
/- THE CELL 'sum', in the pinned program and in every row, IS THE sha256 OF THE DUMP (.gsa) THAT YtihpdmchppcbfaaProg.lean LOADS. Nothing in Lean hashes anything: it is a label: what it is worth is what the hold of that sum in a sandbox is worth. -/
noncomputable def Try.pinned : Pinned := { name := "ytihpdmchppcbfaa", sum := "133d5aa82e76a68fbf695f9186e7fa86d973e4786b078566b9cedf5c2b0b0fa9", checked := Try.checked }
namespace Rows
def none {H : Type} : Left H := { results := [], args := [] }

/-- 'commodatumlaw11.PebbleLeast': WHATEVER THE INPUT: true; the input reads as it did. -/
def pebbleLeastSpec : ChangeSpec := { name := "pebbleLeast", fn := fun _ => fun
  | [d1, d2, d3] => { results := [.lit (.bool true)], args := [d1, d2, d3] }
  | _ => none }
def pebbleLeastRow : OpenClaim := { program := "ytihpdmchppcbfaa", sum := "133d5aa82e76a68fbf695f9186e7fa86d973e4786b078566b9cedf5c2b0b0fa9", func := "commodatum/commodatumlaw11.PebbleLeast", spec := "pebbleLeast", apart := false }
def PebbleLeastSaid : Prop := pebbleLeastRow.holds Try.pinned (OpenSpec.ofChange pebbleLeastSpec)

/-- ITS FALSE NEIGHBOUR: 'it returns false'. Refute it at one input. -/
def pebbleLeastWrong : ChangeSpec := { name := "pebbleLeast", fn := fun _ => fun
  | [d1, d2, d3] => { results := [.lit (.bool false)], args := [d1, d2, d3] }
  | _ => none }
def PebbleLeastWrongFalsely : Prop := pebbleLeastRow.holds Try.pinned (OpenSpec.ofChange pebbleLeastWrong)

/-- 'commodatumlaw11.PebbleGraphs': WHATEVER THE INPUT: true; the input reads as it did. -/
def pebbleGraphsSpec : ChangeSpec := { name := "pebbleGraphs", fn := fun _ => fun
  | [d1, d2, d3] => { results := [.lit (.bool true)], args := [d1, d2, d3] }
  | _ => none }
def pebbleGraphsRow : OpenClaim := { program := "ytihpdmchppcbfaa", sum := "133d5aa82e76a68fbf695f9186e7fa86d973e4786b078566b9cedf5c2b0b0fa9", func := "commodatum/commodatumlaw11.PebbleGraphs", spec := "pebbleGraphs", unfollowed := true, recurses := true, apart := false }
def PebbleGraphsSaid : Prop := pebbleGraphsRow.holds Try.pinned (OpenSpec.ofChange pebbleGraphsSpec)

/-- ITS FALSE NEIGHBOUR: 'it returns false'. Refute it at one input. -/
def pebbleGraphsWrong : ChangeSpec := { name := "pebbleGraphs", fn := fun _ => fun
  | [d1, d2, d3] => { results := [.lit (.bool false)], args := [d1, d2, d3] }
  | _ => none }
def PebbleGraphsWrongFalsely : Prop := pebbleGraphsRow.holds Try.pinned (OpenSpec.ofChange pebbleGraphsWrong)

/-- 'commodatumlaw11.PebbleCounts': WHATEVER THE INPUT: true; the input reads as it did. -/
def pebbleCountsSpec : ChangeSpec := { name := "pebbleCounts", fn := fun _ => fun
  | [d1, d2, d3] => { results := [.lit (.bool true)], args := [d1, d2, d3] }
  | _ => none }
def pebbleCountsRow : OpenClaim := { program := "ytihpdmchppcbfaa", sum := "133d5aa82e76a68fbf695f9186e7fa86d973e4786b078566b9cedf5c2b0b0fa9", func := "commodatum/commodatumlaw11.PebbleCounts", spec := "pebbleCounts", unfollowed := true, recurses := true, apart := false }
def PebbleCountsSaid : Prop := pebbleCountsRow.holds Try.pinned (OpenSpec.ofChange pebbleCountsSpec)

/-- ITS FALSE NEIGHBOUR: 'it returns false'. Refute it at one input. -/
def pebbleCountsWrong : ChangeSpec := { name := "pebbleCounts", fn := fun _ => fun
  | [d1, d2, d3] => { results := [.lit (.bool false)], args := [d1, d2, d3] }
  | _ => none }
def PebbleCountsWrongFalsely : Prop := pebbleCountsRow.holds Try.pinned (OpenSpec.ofChange pebbleCountsWrong)

/-- 'commodatumlaw11.PebbleGames': WHATEVER THE INPUT: true; the input reads as it did. -/
def pebbleGamesSpec : ChangeSpec := { name := "pebbleGames", fn := fun _ => fun
  | [d1, d2] => { results := [.lit (.bool true)], args := [d1, d2] }
  | _ => none }
def pebbleGamesRow : OpenClaim := { program := "ytihpdmchppcbfaa", sum := "133d5aa82e76a68fbf695f9186e7fa86d973e4786b078566b9cedf5c2b0b0fa9", func := "commodatum/commodatumlaw11.PebbleGames", spec := "pebbleGames", unfollowed := true, recurses := true, apart := false }
def PebbleGamesSaid : Prop := pebbleGamesRow.holds Try.pinned (OpenSpec.ofChange pebbleGamesSpec)

/-- ITS FALSE NEIGHBOUR: 'it returns false'. Refute it at one input. -/
def pebbleGamesWrong : ChangeSpec := { name := "pebbleGames", fn := fun _ => fun
  | [d1, d2] => { results := [.lit (.bool false)], args := [d1, d2] }
  | _ => none }
def PebbleGamesWrongFalsely : Prop := pebbleGamesRow.holds Try.pinned (OpenSpec.ofChange pebbleGamesWrong)

/-- 'commodatumlaw11.PebbleReversed': WHATEVER THE INPUT: true; the input reads as it did. -/
def pebbleReversedSpec : ChangeSpec := { name := "pebbleReversed", fn := fun _ => fun
  | [d1, d2] => { results := [.lit (.bool true)], args := [d1, d2] }
  | _ => none }
def pebbleReversedRow : OpenClaim := { program := "ytihpdmchppcbfaa", sum := "133d5aa82e76a68fbf695f9186e7fa86d973e4786b078566b9cedf5c2b0b0fa9", func := "commodatum/commodatumlaw11.PebbleReversed", spec := "pebbleReversed", unfollowed := true, recurses := true, apart := false }
def PebbleReversedSaid : Prop := pebbleReversedRow.holds Try.pinned (OpenSpec.ofChange pebbleReversedSpec)

/-- ITS FALSE NEIGHBOUR: 'it returns false'. Refute it at one input. -/
def pebbleReversedWrong : ChangeSpec := { name := "pebbleReversed", fn := fun _ => fun
  | [d1, d2] => { results := [.lit (.bool false)], args := [d1, d2] }
  | _ => none }
def PebbleReversedWrongFalsely : Prop := pebbleReversedRow.holds Try.pinned (OpenSpec.ofChange pebbleReversedWrong)

/-- 'commodatumlaw11.PebbleBennett': WHATEVER THE INPUT: true; the input reads as it did. -/
def pebbleBennettSpec : ChangeSpec := { name := "pebbleBennett", fn := fun _ => fun
  | [d] => { results := [.lit (.bool true)], args := [d] }
  | _ => none }
def pebbleBennettRow : OpenClaim := { program := "ytihpdmchppcbfaa", sum := "133d5aa82e76a68fbf695f9186e7fa86d973e4786b078566b9cedf5c2b0b0fa9", func := "commodatum/commodatumlaw11.PebbleBennett", spec := "pebbleBennett", unfollowed := true, recurses := true, apart := false }
def PebbleBennettSaid : Prop := pebbleBennettRow.holds Try.pinned (OpenSpec.ofChange pebbleBennettSpec)

/-- ITS FALSE NEIGHBOUR: 'it returns false'. Refute it at one input. -/
def pebbleBennettWrong : ChangeSpec := { name := "pebbleBennett", fn := fun _ => fun
  | [d] => { results := [.lit (.bool false)], args := [d] }
  | _ => none }
def PebbleBennettWrongFalsely : Prop := pebbleBennettRow.holds Try.pinned (OpenSpec.ofChange pebbleBennettWrong)

/- THE SECOND FORM. 'bulk': how many values and letters a reading holds, each counted each time it is reached (what is shared counts as often as it is met; a slice's spare places count too). A statement '..UptoSaid' is the law's where the arguments, and the package variables that the reading takes, are together of bulk at most 1048576: NARROWER than '..Said'. Prove '..Said' where nothing that the law and all that it calls make is longer than what came in: it says more and counts as full. Else prove '..UptoSaid'. A law counts once. -/
mutual
def uptoBulk {H : Type} : DataW H → Nat
  | .lit (.string bytes) => bytes.length + 1
  | .lit _ => 1
  | .nil => 1
  | .ptr d => uptoBulk d + 1
  | .slice elems spare => uptoBulkAll elems + uptoBulkAll spare + 1
  | .agg parts => uptoBulkAll parts + 1
  | .iface _ d => uptoBulk d + 1
  | .map entries => uptoBulkEntries entries + 1
  | .held _ => 1
def uptoBulkAll {H : Type} : List (DataW H) → Nat
  | [] => 0
  | d :: r => uptoBulk d + uptoBulkAll r
def uptoBulkEntries {H : Type} : List (Lit × DataW H) → Nat
  | [] => 0
  | x :: r => uptoBulkEntry x + uptoBulkEntries r
def uptoBulkEntry {H : Type} : Lit × DataW H → Nat
  | (.string bytes, d) => bytes.length + uptoBulk d + 1
  | (_, d) => uptoBulk d + 1
 end
def uptoSmall : (H : Type) → List (DataW H) → Bool := fun _ ds => decide (uptoBulkAll ds ≤ 1048576)
def OpenSpec.upto (s : _root_.Go.ChangeSpec) : _root_.Go.OpenSpec := { _root_.Go.OpenSpec.ofChange s with cond := some uptoSmall }

/-- 'commodatumlaw11.PebbleLeast', WHERE WHAT IT READS IS OF BULK AT MOST 1048576: true; the input reads as it did. -/
def pebbleLeastUptoRow : OpenClaim := { program := "ytihpdmchppcbfaa", sum := "133d5aa82e76a68fbf695f9186e7fa86d973e4786b078566b9cedf5c2b0b0fa9", func := "commodatum/commodatumlaw11.PebbleLeast", spec := "pebbleLeast", apart := false, narrowed := true }
def PebbleLeastUptoSaid : Prop := pebbleLeastUptoRow.holds Try.pinned (OpenSpec.upto pebbleLeastSpec)

/-- 'commodatumlaw11.PebbleGraphs', WHERE WHAT IT READS IS OF BULK AT MOST 1048576: true; the input reads as it did. -/
def pebbleGraphsUptoRow : OpenClaim := { program := "ytihpdmchppcbfaa", sum := "133d5aa82e76a68fbf695f9186e7fa86d973e4786b078566b9cedf5c2b0b0fa9", func := "commodatum/commodatumlaw11.PebbleGraphs", spec := "pebbleGraphs", unfollowed := true, recurses := true, apart := false, narrowed := true }
def PebbleGraphsUptoSaid : Prop := pebbleGraphsUptoRow.holds Try.pinned (OpenSpec.upto pebbleGraphsSpec)

/-- 'commodatumlaw11.PebbleCounts', WHERE WHAT IT READS IS OF BULK AT MOST 1048576: true; the input reads as it did. -/
def pebbleCountsUptoRow : OpenClaim := { program := "ytihpdmchppcbfaa", sum := "133d5aa82e76a68fbf695f9186e7fa86d973e4786b078566b9cedf5c2b0b0fa9", func := "commodatum/commodatumlaw11.PebbleCounts", spec := "pebbleCounts", unfollowed := true, recurses := true, apart := false, narrowed := true }
def PebbleCountsUptoSaid : Prop := pebbleCountsUptoRow.holds Try.pinned (OpenSpec.upto pebbleCountsSpec)

/-- 'commodatumlaw11.PebbleGames', WHERE WHAT IT READS IS OF BULK AT MOST 1048576: true; the input reads as it did. -/
def pebbleGamesUptoRow : OpenClaim := { program := "ytihpdmchppcbfaa", sum := "133d5aa82e76a68fbf695f9186e7fa86d973e4786b078566b9cedf5c2b0b0fa9", func := "commodatum/commodatumlaw11.PebbleGames", spec := "pebbleGames", unfollowed := true, recurses := true, apart := false, narrowed := true }
def PebbleGamesUptoSaid : Prop := pebbleGamesUptoRow.holds Try.pinned (OpenSpec.upto pebbleGamesSpec)

/-- 'commodatumlaw11.PebbleReversed', WHERE WHAT IT READS IS OF BULK AT MOST 1048576: true; the input reads as it did. -/
def pebbleReversedUptoRow : OpenClaim := { program := "ytihpdmchppcbfaa", sum := "133d5aa82e76a68fbf695f9186e7fa86d973e4786b078566b9cedf5c2b0b0fa9", func := "commodatum/commodatumlaw11.PebbleReversed", spec := "pebbleReversed", unfollowed := true, recurses := true, apart := false, narrowed := true }
def PebbleReversedUptoSaid : Prop := pebbleReversedUptoRow.holds Try.pinned (OpenSpec.upto pebbleReversedSpec)

/-- 'commodatumlaw11.PebbleBennett', WHERE WHAT IT READS IS OF BULK AT MOST 1048576: true; the input reads as it did. -/
def pebbleBennettUptoRow : OpenClaim := { program := "ytihpdmchppcbfaa", sum := "133d5aa82e76a68fbf695f9186e7fa86d973e4786b078566b9cedf5c2b0b0fa9", func := "commodatum/commodatumlaw11.PebbleBennett", spec := "pebbleBennett", unfollowed := true, recurses := true, apart := false, narrowed := true }
def PebbleBennettUptoSaid : Prop := pebbleBennettUptoRow.holds Try.pinned (OpenSpec.upto pebbleBennettSpec)

end Rows
end Go.Proofs.Ytihpdmchppcbfaa
