/-
  NARROWER THAN 'FOR EVERY INPUT', by the rows' own cells (each row's printed sentence says how): TopBounds: loops · BoundGames: loops · BoundSizes: loops · BoundFrom: loops · BoundProtocols: loops · BoundTo: loops · BoundThere: loops · BoundMemory: loops.
  DERIVED. THE GIVEN ROWS OF THIS SEAT. 10 by the template 'for every input the law returns true; each argument reads behind the call as it read before'; 0 by the template 'total and deterministic' (their statements: YtpfbommaddaijaaTotals.lean).
  GIVEN WITH THE SEED: the statements are not yours to turn. If you find one false, say at which input.
  Laid BY PROGRAM, IN A SANDBOX (cutbox-rows.mjs): the forced cells as the released guide's own fill.sh prints them over the translation edeed2975d588d58… (all of the seat's roots in one cut). By AI agents, Wed Nov 11 2026. No macro, syntax, notation, axiom, sorry.
-/
import Derived.Test.YtpfbommaddaijaaChecked
import GoSem.Claim
import GoSem.ClaimJoined
import GoSem.ClaimMapViews
import Derived.JoinedTies
import Derived.KernelRfl
namespace Go.Proofs.Ytpfbommaddaijaa
/- THE CELL 'sum', in the pinned program and in every row, IS THE sha256 OF THE DUMP (.gsa) THAT YtpfbommaddaijaaProg.lean LOADS. Nothing in Lean hashes anything: it is a label: what it is worth is what the hold of that sum in a sandbox is worth. -/
noncomputable def Try.pinned : Pinned := { name := "ytpfbommaddaijaa", sum := "edeed2975d588d588162b070c80a71af499b0ca40149571a41bdd30124d3cd4c", checked := Try.checked }
namespace Rows
def none {H : Type} : Left H := { results := [], args := [] }

/-- 'commodatumtop.TopBounds': WHATEVER THE INPUT: true; the input reads as it did. -/
def topBoundsSpec : ChangeSpec := { name := "topBounds", fn := fun _ => fun
  | [d] => { results := [.lit (.bool true)], args := [d] }
  | _ => none }
def topBoundsRow : OpenClaim := { program := "ytpfbommaddaijaa", sum := "edeed2975d588d588162b070c80a71af499b0ca40149571a41bdd30124d3cd4c", func := "commodatum/commodatumtop.TopBounds", spec := "topBounds", unfollowed := true, recurses := true, loops := true, plainKeys := false, apart := false }
def TopBoundsSaid : Prop := topBoundsRow.holds Try.pinned (OpenSpec.ofChange topBoundsSpec)

/-- ITS FALSE NEIGHBOUR: 'it returns false'. Refute it at one input. -/
def topBoundsWrong : ChangeSpec := { name := "topBounds", fn := fun _ => fun
  | [d] => { results := [.lit (.bool false)], args := [d] }
  | _ => none }
def TopBoundsWrongFalsely : Prop := topBoundsRow.holds Try.pinned (OpenSpec.ofChange topBoundsWrong)

/-- 'commodatumlaw23.BoundGames': WHATEVER THE INPUT: true; the input reads as it did. -/
def boundGamesSpec : ChangeSpec := { name := "boundGames", fn := fun _ => fun
  | [d1, d2] => { results := [.lit (.bool true)], args := [d1, d2] }
  | _ => none }
def boundGamesRow : OpenClaim := { program := "ytpfbommaddaijaa", sum := "edeed2975d588d588162b070c80a71af499b0ca40149571a41bdd30124d3cd4c", func := "commodatum/commodatumlaw23.BoundGames", spec := "boundGames", unfollowed := true, recurses := true, loops := true, plainKeys := false, apart := false }
def BoundGamesSaid : Prop := boundGamesRow.holds Try.pinned (OpenSpec.ofChange boundGamesSpec)

/-- ITS FALSE NEIGHBOUR: 'it returns false'. Refute it at one input. -/
def boundGamesWrong : ChangeSpec := { name := "boundGames", fn := fun _ => fun
  | [d1, d2] => { results := [.lit (.bool false)], args := [d1, d2] }
  | _ => none }
def BoundGamesWrongFalsely : Prop := boundGamesRow.holds Try.pinned (OpenSpec.ofChange boundGamesWrong)

/-- 'commodatumlaw23.BoundLeast': WHATEVER THE INPUT: true; the input reads as it did. -/
def boundLeastSpec : ChangeSpec := { name := "boundLeast", fn := fun _ => fun
  | [d] => { results := [.lit (.bool true)], args := [d] }
  | _ => none }
def boundLeastRow : OpenClaim := { program := "ytpfbommaddaijaa", sum := "edeed2975d588d588162b070c80a71af499b0ca40149571a41bdd30124d3cd4c", func := "commodatum/commodatumlaw23.BoundLeast", spec := "boundLeast", unfollowed := true, recurses := true, plainKeys := false, apart := false }
def BoundLeastSaid : Prop := boundLeastRow.holds Try.pinned (OpenSpec.ofChange boundLeastSpec)

/-- ITS FALSE NEIGHBOUR: 'it returns false'. Refute it at one input. -/
def boundLeastWrong : ChangeSpec := { name := "boundLeast", fn := fun _ => fun
  | [d] => { results := [.lit (.bool false)], args := [d] }
  | _ => none }
def BoundLeastWrongFalsely : Prop := boundLeastRow.holds Try.pinned (OpenSpec.ofChange boundLeastWrong)

/-- 'commodatumlaw23.BoundNechiporuk': WHATEVER THE INPUT: true; the input reads as it did. -/
def boundNechiporukSpec : ChangeSpec := { name := "boundNechiporuk", fn := fun _ => fun
  | [d1, d2] => { results := [.lit (.bool true)], args := [d1, d2] }
  | _ => none }
def boundNechiporukRow : OpenClaim := { program := "ytpfbommaddaijaa", sum := "edeed2975d588d588162b070c80a71af499b0ca40149571a41bdd30124d3cd4c", func := "commodatum/commodatumlaw23.BoundNechiporuk", spec := "boundNechiporuk", unfollowed := true, recurses := true, plainKeys := false, apart := false }
def BoundNechiporukSaid : Prop := boundNechiporukRow.holds Try.pinned (OpenSpec.ofChange boundNechiporukSpec)

/-- ITS FALSE NEIGHBOUR: 'it returns false'. Refute it at one input. -/
def boundNechiporukWrong : ChangeSpec := { name := "boundNechiporuk", fn := fun _ => fun
  | [d1, d2] => { results := [.lit (.bool false)], args := [d1, d2] }
  | _ => none }
def BoundNechiporukWrongFalsely : Prop := boundNechiporukRow.holds Try.pinned (OpenSpec.ofChange boundNechiporukWrong)

/-- 'commodatumlaw23.BoundSizes': WHATEVER THE INPUT: true; the input reads as it did. -/
def boundSizesSpec : ChangeSpec := { name := "boundSizes", fn := fun _ => fun
  | [d1, d2, d3] => { results := [.lit (.bool true)], args := [d1, d2, d3] }
  | _ => none }
def boundSizesRow : OpenClaim := { program := "ytpfbommaddaijaa", sum := "edeed2975d588d588162b070c80a71af499b0ca40149571a41bdd30124d3cd4c", func := "commodatum/commodatumlaw23.BoundSizes", spec := "boundSizes", unfollowed := true, recurses := true, loops := true, plainKeys := false, apart := false }
def BoundSizesSaid : Prop := boundSizesRow.holds Try.pinned (OpenSpec.ofChange boundSizesSpec)

/-- ITS FALSE NEIGHBOUR: 'it returns false'. Refute it at one input. -/
def boundSizesWrong : ChangeSpec := { name := "boundSizes", fn := fun _ => fun
  | [d1, d2, d3] => { results := [.lit (.bool false)], args := [d1, d2, d3] }
  | _ => none }
def BoundSizesWrongFalsely : Prop := boundSizesRow.holds Try.pinned (OpenSpec.ofChange boundSizesWrong)

/-- 'commodatumlaw23.BoundFrom': WHATEVER THE INPUT: true; the input reads as it did. -/
def boundFromSpec : ChangeSpec := { name := "boundFrom", fn := fun _ => fun
  | [d1, d2] => { results := [.lit (.bool true)], args := [d1, d2] }
  | _ => none }
def boundFromRow : OpenClaim := { program := "ytpfbommaddaijaa", sum := "edeed2975d588d588162b070c80a71af499b0ca40149571a41bdd30124d3cd4c", func := "commodatum/commodatumlaw23.BoundFrom", spec := "boundFrom", unfollowed := true, recurses := true, loops := true, plainKeys := false, apart := false }
def BoundFromSaid : Prop := boundFromRow.holds Try.pinned (OpenSpec.ofChange boundFromSpec)

/-- ITS FALSE NEIGHBOUR: 'it returns false'. Refute it at one input. -/
def boundFromWrong : ChangeSpec := { name := "boundFrom", fn := fun _ => fun
  | [d1, d2] => { results := [.lit (.bool false)], args := [d1, d2] }
  | _ => none }
def BoundFromWrongFalsely : Prop := boundFromRow.holds Try.pinned (OpenSpec.ofChange boundFromWrong)

/-- 'commodatumlaw23.BoundProtocols': WHATEVER THE INPUT: true; the input reads as it did. -/
def boundProtocolsSpec : ChangeSpec := { name := "boundProtocols", fn := fun _ => fun
  | [d1, d2, d3] => { results := [.lit (.bool true)], args := [d1, d2, d3] }
  | _ => none }
def boundProtocolsRow : OpenClaim := { program := "ytpfbommaddaijaa", sum := "edeed2975d588d588162b070c80a71af499b0ca40149571a41bdd30124d3cd4c", func := "commodatum/commodatumlaw23.BoundProtocols", spec := "boundProtocols", unfollowed := true, recurses := true, loops := true, plainKeys := false, apart := false }
def BoundProtocolsSaid : Prop := boundProtocolsRow.holds Try.pinned (OpenSpec.ofChange boundProtocolsSpec)

/-- ITS FALSE NEIGHBOUR: 'it returns false'. Refute it at one input. -/
def boundProtocolsWrong : ChangeSpec := { name := "boundProtocols", fn := fun _ => fun
  | [d1, d2, d3] => { results := [.lit (.bool false)], args := [d1, d2, d3] }
  | _ => none }
def BoundProtocolsWrongFalsely : Prop := boundProtocolsRow.holds Try.pinned (OpenSpec.ofChange boundProtocolsWrong)

/-- 'commodatumlaw23.BoundTo': WHATEVER THE INPUT: true; the input reads as it did. -/
def boundToSpec : ChangeSpec := { name := "boundTo", fn := fun _ => fun
  | [d1, d2] => { results := [.lit (.bool true)], args := [d1, d2] }
  | _ => none }
def boundToRow : OpenClaim := { program := "ytpfbommaddaijaa", sum := "edeed2975d588d588162b070c80a71af499b0ca40149571a41bdd30124d3cd4c", func := "commodatum/commodatumlaw23.BoundTo", spec := "boundTo", unfollowed := true, recurses := true, loops := true, plainKeys := false, apart := false }
def BoundToSaid : Prop := boundToRow.holds Try.pinned (OpenSpec.ofChange boundToSpec)

/-- ITS FALSE NEIGHBOUR: 'it returns false'. Refute it at one input. -/
def boundToWrong : ChangeSpec := { name := "boundTo", fn := fun _ => fun
  | [d1, d2] => { results := [.lit (.bool false)], args := [d1, d2] }
  | _ => none }
def BoundToWrongFalsely : Prop := boundToRow.holds Try.pinned (OpenSpec.ofChange boundToWrong)

/-- 'commodatumlaw23.BoundThere': WHATEVER THE INPUT: true; the input reads as it did. -/
def boundThereSpec : ChangeSpec := { name := "boundThere", fn := fun _ => fun
  | [d1, d2] => { results := [.lit (.bool true)], args := [d1, d2] }
  | _ => none }
def boundThereRow : OpenClaim := { program := "ytpfbommaddaijaa", sum := "edeed2975d588d588162b070c80a71af499b0ca40149571a41bdd30124d3cd4c", func := "commodatum/commodatumlaw23.BoundThere", spec := "boundThere", unfollowed := true, recurses := true, loops := true, plainKeys := false, apart := false }
def BoundThereSaid : Prop := boundThereRow.holds Try.pinned (OpenSpec.ofChange boundThereSpec)

/-- ITS FALSE NEIGHBOUR: 'it returns false'. Refute it at one input. -/
def boundThereWrong : ChangeSpec := { name := "boundThere", fn := fun _ => fun
  | [d1, d2] => { results := [.lit (.bool false)], args := [d1, d2] }
  | _ => none }
def BoundThereWrongFalsely : Prop := boundThereRow.holds Try.pinned (OpenSpec.ofChange boundThereWrong)

/-- 'commodatumlaw23.BoundMemory': WHATEVER THE INPUT: true; the input reads as it did. -/
def boundMemorySpec : ChangeSpec := { name := "boundMemory", fn := fun _ => fun
  | [d1, d2, d3] => { results := [.lit (.bool true)], args := [d1, d2, d3] }
  | _ => none }
def boundMemoryRow : OpenClaim := { program := "ytpfbommaddaijaa", sum := "edeed2975d588d588162b070c80a71af499b0ca40149571a41bdd30124d3cd4c", func := "commodatum/commodatumlaw23.BoundMemory", spec := "boundMemory", unfollowed := true, recurses := true, loops := true, plainKeys := false, apart := false }
def BoundMemorySaid : Prop := boundMemoryRow.holds Try.pinned (OpenSpec.ofChange boundMemorySpec)

/-- ITS FALSE NEIGHBOUR: 'it returns false'. Refute it at one input. -/
def boundMemoryWrong : ChangeSpec := { name := "boundMemory", fn := fun _ => fun
  | [d1, d2, d3] => { results := [.lit (.bool false)], args := [d1, d2, d3] }
  | _ => none }
def BoundMemoryWrongFalsely : Prop := boundMemoryRow.holds Try.pinned (OpenSpec.ofChange boundMemoryWrong)

/- THE SECOND FORM. 'bulk': how many values and letters a reading holds, each counted each time it is reached (what is shared counts as often as it is met; a slice's spare places count too). A statement '..UptoSaid' is the law's where the arguments, and the package variables that the reading takes, are together of bulk at most 1048576: NARROWER than '..Said'. Prove '..Said' where nothing that the law and all that it calls make is longer than what came in: it says more and counts as full. Else prove '..UptoSaid'. A law counts once. -/
mutual
def uptoBulk {H : Type} : DataW H → Nat
  | .lit (.string bytes) => bytes.length + 1
  | .lit _ => 1
  | .nil => 1
  | .ptr d => uptoBulk d + 1
  | .slice elems spare => uptoBulkAll elems + uptoBulkAll spare + 1
  | .agg parts => uptoBulkAll parts + 1
  | .iface _ d => uptoBulk d + 1
  | .map entries => uptoBulkEntries entries + 1
  | .held _ => 1
def uptoBulkAll {H : Type} : List (DataW H) → Nat
  | [] => 0
  | d :: r => uptoBulk d + uptoBulkAll r
def uptoBulkEntries {H : Type} : List (Lit × DataW H) → Nat
  | [] => 0
  | x :: r => uptoBulkEntry x + uptoBulkEntries r
def uptoBulkEntry {H : Type} : Lit × DataW H → Nat
  | (.string bytes, d) => bytes.length + uptoBulk d + 1
  | (_, d) => uptoBulk d + 1
 end
def uptoSmall : (H : Type) → List (DataW H) → Bool := fun _ ds => decide (uptoBulkAll ds ≤ 1048576)
def OpenSpec.upto (s : _root_.Go.ChangeSpec) : _root_.Go.OpenSpec := { _root_.Go.OpenSpec.ofChange s with cond := some uptoSmall }

/-- 'commodatumtop.TopBounds', WHERE WHAT IT READS IS OF BULK AT MOST 1048576: true; the input reads as it did. -/
def topBoundsUptoRow : OpenClaim := { program := "ytpfbommaddaijaa", sum := "edeed2975d588d588162b070c80a71af499b0ca40149571a41bdd30124d3cd4c", func := "commodatum/commodatumtop.TopBounds", spec := "topBounds", unfollowed := true, recurses := true, loops := true, plainKeys := false, apart := false, narrowed := true }
def TopBoundsUptoSaid : Prop := topBoundsUptoRow.holds Try.pinned (OpenSpec.upto topBoundsSpec)

/-- 'commodatumlaw23.BoundGames', WHERE WHAT IT READS IS OF BULK AT MOST 1048576: true; the input reads as it did. -/
def boundGamesUptoRow : OpenClaim := { program := "ytpfbommaddaijaa", sum := "edeed2975d588d588162b070c80a71af499b0ca40149571a41bdd30124d3cd4c", func := "commodatum/commodatumlaw23.BoundGames", spec := "boundGames", unfollowed := true, recurses := true, loops := true, plainKeys := false, apart := false, narrowed := true }
def BoundGamesUptoSaid : Prop := boundGamesUptoRow.holds Try.pinned (OpenSpec.upto boundGamesSpec)

/-- 'commodatumlaw23.BoundLeast', WHERE WHAT IT READS IS OF BULK AT MOST 1048576: true; the input reads as it did. -/
def boundLeastUptoRow : OpenClaim := { program := "ytpfbommaddaijaa", sum := "edeed2975d588d588162b070c80a71af499b0ca40149571a41bdd30124d3cd4c", func := "commodatum/commodatumlaw23.BoundLeast", spec := "boundLeast", unfollowed := true, recurses := true, plainKeys := false, apart := false, narrowed := true }
def BoundLeastUptoSaid : Prop := boundLeastUptoRow.holds Try.pinned (OpenSpec.upto boundLeastSpec)

/-- 'commodatumlaw23.BoundNechiporuk', WHERE WHAT IT READS IS OF BULK AT MOST 1048576: true; the input reads as it did. -/
def boundNechiporukUptoRow : OpenClaim := { program := "ytpfbommaddaijaa", sum := "edeed2975d588d588162b070c80a71af499b0ca40149571a41bdd30124d3cd4c", func := "commodatum/commodatumlaw23.BoundNechiporuk", spec := "boundNechiporuk", unfollowed := true, recurses := true, plainKeys := false, apart := false, narrowed := true }
def BoundNechiporukUptoSaid : Prop := boundNechiporukUptoRow.holds Try.pinned (OpenSpec.upto boundNechiporukSpec)

/-- 'commodatumlaw23.BoundSizes', WHERE WHAT IT READS IS OF BULK AT MOST 1048576: true; the input reads as it did. -/
def boundSizesUptoRow : OpenClaim := { program := "ytpfbommaddaijaa", sum := "edeed2975d588d588162b070c80a71af499b0ca40149571a41bdd30124d3cd4c", func := "commodatum/commodatumlaw23.BoundSizes", spec := "boundSizes", unfollowed := true, recurses := true, loops := true, plainKeys := false, apart := false, narrowed := true }
def BoundSizesUptoSaid : Prop := boundSizesUptoRow.holds Try.pinned (OpenSpec.upto boundSizesSpec)

/-- 'commodatumlaw23.BoundFrom', WHERE WHAT IT READS IS OF BULK AT MOST 1048576: true; the input reads as it did. -/
def boundFromUptoRow : OpenClaim := { program := "ytpfbommaddaijaa", sum := "edeed2975d588d588162b070c80a71af499b0ca40149571a41bdd30124d3cd4c", func := "commodatum/commodatumlaw23.BoundFrom", spec := "boundFrom", unfollowed := true, recurses := true, loops := true, plainKeys := false, apart := false, narrowed := true }
def BoundFromUptoSaid : Prop := boundFromUptoRow.holds Try.pinned (OpenSpec.upto boundFromSpec)

/-- 'commodatumlaw23.BoundProtocols', WHERE WHAT IT READS IS OF BULK AT MOST 1048576: true; the input reads as it did. -/
def boundProtocolsUptoRow : OpenClaim := { program := "ytpfbommaddaijaa", sum := "edeed2975d588d588162b070c80a71af499b0ca40149571a41bdd30124d3cd4c", func := "commodatum/commodatumlaw23.BoundProtocols", spec := "boundProtocols", unfollowed := true, recurses := true, loops := true, plainKeys := false, apart := false, narrowed := true }
def BoundProtocolsUptoSaid : Prop := boundProtocolsUptoRow.holds Try.pinned (OpenSpec.upto boundProtocolsSpec)

/-- 'commodatumlaw23.BoundTo', WHERE WHAT IT READS IS OF BULK AT MOST 1048576: true; the input reads as it did. -/
def boundToUptoRow : OpenClaim := { program := "ytpfbommaddaijaa", sum := "edeed2975d588d588162b070c80a71af499b0ca40149571a41bdd30124d3cd4c", func := "commodatum/commodatumlaw23.BoundTo", spec := "boundTo", unfollowed := true, recurses := true, loops := true, plainKeys := false, apart := false, narrowed := true }
def BoundToUptoSaid : Prop := boundToUptoRow.holds Try.pinned (OpenSpec.upto boundToSpec)

/-- 'commodatumlaw23.BoundThere', WHERE WHAT IT READS IS OF BULK AT MOST 1048576: true; the input reads as it did. -/
def boundThereUptoRow : OpenClaim := { program := "ytpfbommaddaijaa", sum := "edeed2975d588d588162b070c80a71af499b0ca40149571a41bdd30124d3cd4c", func := "commodatum/commodatumlaw23.BoundThere", spec := "boundThere", unfollowed := true, recurses := true, loops := true, plainKeys := false, apart := false, narrowed := true }
def BoundThereUptoSaid : Prop := boundThereUptoRow.holds Try.pinned (OpenSpec.upto boundThereSpec)

/-- 'commodatumlaw23.BoundMemory', WHERE WHAT IT READS IS OF BULK AT MOST 1048576: true; the input reads as it did. -/
def boundMemoryUptoRow : OpenClaim := { program := "ytpfbommaddaijaa", sum := "edeed2975d588d588162b070c80a71af499b0ca40149571a41bdd30124d3cd4c", func := "commodatum/commodatumlaw23.BoundMemory", spec := "boundMemory", unfollowed := true, recurses := true, loops := true, plainKeys := false, apart := false, narrowed := true }
def BoundMemoryUptoSaid : Prop := boundMemoryUptoRow.holds Try.pinned (OpenSpec.upto boundMemorySpec)

end Rows
end Go.Proofs.Ytpfbommaddaijaa
