/- How a play that came in lies in memory. -/
import Derived.Test.YtihpdmchppcbfaaTg
import Derived.Test.YtihpdmchppcbfaaRz
import Derived.Deep.SlicePairs
import Derived.ChangeArms
namespace Go.Proofs.Ytihpdmchppcbfaa
open Go.ChangeShapes Go.WideShapes Go.ChangeAt Go.RowKit Go.Joins Go.Deep
set_option linter.unusedVariables false

theorem Try.cells49 : Try.prog.cellsOf 49 = 2 := by kernel_rfl
theorem Try.cells4 : Try.prog.cellsOf 4 = 1 := by kernel_rfl
theorem Try.bytes49 : Try.prog.bytesOf 49 = 16 := by kernel_rfl
theorem open_play {H : Type} {enc : TypeId × Value → H} {W : World} {base fuel : Nat} {held : Bool} {a0 : Option Addr} {len cap : Nat} {d : DataW H} {ps : List MemPlace} {ts : List TypeId} {ds : List (DataW H)} {j : Nat}
    (h : DataW.trod enc Try.prog W base (fun _ => true) held fuel 32 [.slice a0 len cap] = some (d, ps)) (hsz : (DataW.weightsEach Try.prog ts ds).all (· ≤ reachBytes) = true) (ht : ts[j]? = some 32) (hd : ds[j]? = some d) :
    ∃ ms, Pl W (.slice a0 len cap) ms ∧ (a0 = none → cap = 0) ∧ ms.length = len ∧ len * 16 ≤ reachBytes := by
  rcases open_slice_pairs Try.underlying32 Try.underlying49 Try.cells49 rfl rfl Try.cells4 Try.cells3 h with ⟨hcs, hx⟩ | ⟨a, len', cap', m, n, V0, V1, D0, D1, P0, P1, hcs, _, hl, hm, hmm, hx, hi⟩
  · simp at hcs
    obtain ⟨rfl, rfl, rfl⟩ := hcs
    exact ⟨[], Pl.nil W, fun _ => rfl, rfl, by decide⟩
  · simp at hcs
    obtain ⟨rfl, rfl, rfl⟩ := hcs
    simp only [Prod.mk.injEq] at hx
    obtain ⟨rfl, rfl⟩ := hx
    have h1 := sized_slice hsz ht hd Try.underlying32
    rw [Try.bytes49] at h1
    simp only [List.length_map, List.length_range] at h1
    have hlm : len ≤ m := by rw [hmm]; simp; omega
    have each : ∀ i, ∃ y : Bool × Int, i < len → V0 i = .bool y.1 ∧ V1 i = .int .i64 y.2 := fun i => by
      by_cases hil : i < len
      · obtain ⟨_, _, t0, t1⟩ := hi i (by omega)
        obtain ⟨b, e0, _⟩ := DataW.trod_bool Try.underlying4 t0
        obtain ⟨z, e1, _⟩ := DataW.trod_int Try.underlying3 t1
        simp at e0 e1
        exact ⟨(b, z), fun _ => ⟨e0, e1⟩⟩
      · exact ⟨(false, 0), fun h => absurd h hil⟩
    refine ⟨(List.range len).map fun i => Classical.choose (each i), ⟨some a, cap, by simp, by simpa using hl, hm, by simp, ?_⟩, by simp, by simp, by omega⟩
    intro b hb i hil
    cases hb
    have hil' : i < len := by simpa using hil
    have e : ((List.range len).map fun i => Classical.choose (each i)).getD i (false, 0) = Classical.choose (each i) := by simp [List.getD, hil']
    rw [e]
    obtain ⟨c0, c1, _, _⟩ := hi i (by omega)
    obtain ⟨e0, e1⟩ := Classical.choose_spec (each i) hil'
    rw [e0] at c0
    rw [e1] at c1
    have hadd : a.add (i * 2 + 1) = ⟨(a.add (i * 2)).block, (a.add (i * 2)).off + 1, none⟩ := by
      unfold Addr.add
      by_cases h : i * 2 = 0
      · simp [h]
      · simp [h, Nat.add_assoc]
    rw [hadd] at c1
    exact ⟨c0, c1⟩
end Go.Proofs.Ytihpdmchppcbfaa
