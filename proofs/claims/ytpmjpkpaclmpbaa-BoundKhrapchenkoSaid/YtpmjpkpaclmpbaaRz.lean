/- Lists that came in, as they lie in memory. -/
import Derived.Test.YtpmjpkpaclmpbaaTi
import Derived.ProofKit
import Derived.Lib.SmallJoins
import Derived.SizedLaws
import Derived.Deep.Matrix
namespace Go.Proofs.Ytpmjpkpaclmpbaa
open Go.ChangeShapes Go.WideShapes Go.ChangeAt Go.RowKit Go.Joins Go.Deep
set_option linter.unusedVariables false

theorem Try.own : ownKnob Try.prog.godebug = none := by kernel_rfl
theorem Try.laidOut : laidOutB Try.prog = true := by kernel_rfl
theorem Try.cells3 : Try.prog.cellsOf 3 = 1 := by kernel_rfl
theorem Try.cells4 : Try.prog.cellsOf 4 = 1 := by kernel_rfl
theorem Try.bytes3 : Try.prog.bytesOf 3 = 8 := by kernel_rfl
theorem Try.bytes4 : Try.prog.bytesOf 4 = 1 := by kernel_rfl
theorem open_numbers {H : Type} {enc : TypeId × Value → H} {W : World} {base fuel : Nat} {held : Bool} {a0 : Option Addr} {len cap : Nat} {d : DataW H} {ps : List MemPlace} {ts : List TypeId} {ds : List (DataW H)} {j : Nat}
    (h : DataW.trod enc Try.prog W base (fun _ => true) held fuel 23 [.slice a0 len cap] = some (d, ps)) (hsz : (DataW.weightsEach Try.prog ts ds).all (· ≤ reachBytes) = true) (ht : ts[j]? = some 23) (hd : ds[j]? = some d) :
    ∃ Z, Is W (.slice a0 len cap) len Z ∧ (a0 = none → cap = 0) ∧ len ≤ 2 ^ 50 := by
  rcases open_ints Try.underlying23 Try.underlying3 Try.cells3 h with ⟨hcs, hx⟩ | ⟨a, len', cap', zs, hcs, _, hl, hm, hz, hx, hcell, hwz⟩
  · simp at hcs
    obtain ⟨rfl, rfl, rfl⟩ := hcs
    exact ⟨fun _ => 0, ⟨none, 0, rfl, by omega, by decide, fun h => by omega, fun b hb => by cases hb⟩, fun _ => rfl, by omega⟩
  · simp at hcs
    obtain ⟨rfl, rfl, rfl⟩ := hcs
    simp only [Prod.mk.injEq] at hx
    obtain ⟨rfl, rfl⟩ := hx
    have h1 := sized_slice hsz ht hd Try.underlying23
    rw [Try.bytes3] at h1
    simp only [lits, List.length_map, List.length_take, List.length_drop, reachBytes] at h1
    have hzl : len ≤ zs.length := by rw [hz]; simp; omega
    refine ⟨fun i => zs.getD i 0, ⟨some a, cap, rfl, hl, hm, fun _ => ⟨a, rfl⟩, fun b hb i hi => ?_⟩, by simp, by omega⟩
    cases hb
    exact hcell i (by omega)
theorem open_truths {H : Type} {enc : TypeId × Value → H} {W : World} {base fuel : Nat} {held : Bool} {a0 : Option Addr} {len cap : Nat} {d : DataW H} {ps : List MemPlace} {ts : List TypeId} {ds : List (DataW H)} {j : Nat}
    (h : DataW.trod enc Try.prog W base (fun _ => true) held fuel 22 [.slice a0 len cap] = some (d, ps)) (hsz : (DataW.weightsEach Try.prog ts ds).all (· ≤ reachBytes) = true) (ht : ts[j]? = some 22) (hd : ds[j]? = some d) :
    ∃ f, Bs W (.slice a0 len cap) len f ∧ (a0 = none → cap = 0) ∧ len ≤ 2 ^ 50 := by
  rcases open_slice1 Try.underlying22 Try.cells4 h with ⟨hcs, hx⟩ | ⟨a, len', cap', m, n, V, D, P, hcs, _, hl, hm, hmm, hx, hi⟩
  · simp at hcs
    obtain ⟨rfl, rfl, rfl⟩ := hcs
    exact ⟨fun _ => false, ⟨none, 0, rfl, by omega, by decide, fun h => by omega, fun b hb => by cases hb⟩, fun _ => rfl, by omega⟩
  · simp at hcs
    obtain ⟨rfl, rfl, rfl⟩ := hcs
    simp only [Prod.mk.injEq] at hx
    obtain ⟨rfl, rfl⟩ := hx
    have h1 := sized_slice hsz ht hd Try.underlying22
    rw [Try.bytes4] at h1
    simp only [List.length_map, List.length_range, reachBytes] at h1
    have hlm : len ≤ m := by rw [hmm]; simp; omega
    have each : ∀ i, ∃ y : Bool, i < len → V i = .bool y := fun i => by
      by_cases hil : i < len
      · obtain ⟨_, t0⟩ := hi i (by omega)
        obtain ⟨b, e0, _⟩ := DataW.trod_bool Try.underlying4 t0
        simp at e0
        exact ⟨b, fun _ => e0⟩
      · exact ⟨false, fun h => absurd h hil⟩
    refine ⟨fun i => Classical.choose (each i), ⟨some a, cap, rfl, hl, hm, fun _ => ⟨a, rfl⟩, fun b hb i hil => ?_⟩, by simp, by omega⟩
    cases hb
    exact ((hi i (by omega)).1).trans (congrArg some (Classical.choose_spec (each i) hil))
end Go.Proofs.Ytpmjpkpaclmpbaa
