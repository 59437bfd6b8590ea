/- How a graph that came in lies in memory. -/
import Derived.Test.YtihpdmchppcbfaaTb
import Derived.ProofKit
import Derived.Lib.SmallJoins
import Derived.SizedLaws
import Derived.Deep.Matrix
namespace Go.Proofs.Ytihpdmchppcbfaa
open Go.ChangeShapes Go.WideShapes Go.ChangeAt Go.RowKit Go.Joins Go.Deep
set_option linter.unusedVariables false

theorem Try.own : ownKnob Try.prog.godebug = none := by kernel_rfl
theorem Try.laidOut : laidOutB Try.prog = true := by kernel_rfl
theorem Try.cells56 : Try.prog.cellsOf 56 = 1 := by kernel_rfl
theorem Try.cells3 : Try.prog.cellsOf 3 = 1 := by kernel_rfl
theorem Try.bytes56 : Try.prog.bytesOf 56 = 24 := by kernel_rfl
theorem Try.bytes3 : Try.prog.bytesOf 3 = 8 := by kernel_rfl

theorem weightsAll_mem {H : Type} {P : Program} {e : TypeId} : ∀ {l : List (DataW H)} {d : DataW H}, d ∈ l → ∀ n ∈ d.weights P e, n ∈ DataW.weightsAll P e l
  | d' :: r, d, hd, n, hn => by
    simp only [DataW.weightsAll, List.mem_append]
    rcases List.mem_cons.1 hd with rfl | h
    · exact Or.inl hn
    · exact Or.inr (weightsAll_mem h n hn)
theorem sized_inner {H : Type} {P : Program} {ts : List TypeId} {ds : List (DataW H)} (h : (DataW.weightsEach P ts ds).all (· ≤ reachBytes) = true) {j : Nat} {t e q : TypeId} {elems spare e' sp' : List (DataW H)}
    (ht : ts[j]? = some t) (hd : ds[j]? = some (.slice elems spare)) (hu : P.underlying t = some (.slice e)) (hu2 : P.underlying e = some (.slice q)) (hx : DataW.slice e' sp' ∈ elems) : (e'.length + sp'.length) * P.bytesOf q ≤ reachBytes := by
  refine of_decide_eq_true (List.all_eq_true.1 h _ (DataW.weights_mem_each ht hd _ ?_))
  simp only [DataW.weights, hu, List.mem_cons, List.mem_append]
  exact Or.inr (Or.inl (weightsAll_mem hx _ (by simp [DataW.weights, hu2])))

/-- A graph that came in, in memory. -/
theorem open_graph {H : Type} {enc : TypeId × Value → H} {W : World} {base fuel : Nat} {held : Bool} {a0 : Option Addr} {len cap : Nat} {d : DataW H} {ps : List MemPlace} {ts : List TypeId} {ds : List (DataW H)} {j : Nat}
    (h : DataW.trod enc Try.prog W base (fun _ => true) held fuel 23 [.slice a0 len cap] = some (d, ps)) (hsz : (DataW.weightsEach Try.prog ts ds).all (· ≤ reachBytes) = true) (ht : ts[j]? = some 23) (hd : ds[j]? = some d) :
    ∃ A L C Z, Dg W (.slice a0 len cap) len A L C Z := by
  rcases open_int_rows Try.underlying23 Try.underlying56 Try.underlying3 Try.cells56 Try.cells3 h with ⟨hcs, hx⟩ | ⟨a, len', cap', A, L, C, Z, hcs, _, hl, hm, hx, hrows⟩
  · simp at hcs
    obtain ⟨rfl, rfl, rfl⟩ := hcs
    exact ⟨fun _ => none, fun _ => 0, fun _ => 0, fun _ _ => 0, ⟨⟨none, 0, rfl, by omega, by decide, fun _ => rfl, fun b hb => by cases hb⟩, by omega, fun r hr => by omega⟩⟩
  · simp at hcs
    obtain ⟨rfl, rfl, rfl⟩ := hcs
    simp only [Prod.mk.injEq] at hx
    obtain ⟨rfl, rfl⟩ := hx
    have h1 := sized_slice hsz ht hd Try.underlying23
    rw [Try.bytes56] at h1
    simp only [List.length_map, List.length_range, reachBytes] at h1
    refine ⟨A, L, C, fun r c => (Z r).getD c 0, ⟨⟨some a, cap, rfl, hl, hm, by simp, fun b hb r hr => ?_⟩, by omega, fun r hr => ?_⟩⟩
    · cases hb
      exact (hrows r (by omega)).1
    · obtain ⟨_, r1, r2, r3, r4, r5, r6⟩ := hrows r (by omega)
      refine ⟨r1, ?_, r5, fun b hb c hc => (r6 b hb).2 c (by omega)⟩
      cases hA : A r with
      | none => have := r5 hA; omega
      | some e =>
        have h2 := sized_inner hsz ht hd Try.underlying23 Try.underlying56 (List.mem_map.2 ⟨r, List.mem_range.2 hr, by rw [hA]; rfl⟩)
        rw [Try.bytes3] at h2
        simp only [lits, List.length_map, List.length_take, List.length_drop, reachBytes, r3] at h2
        omega

end Go.Proofs.Ytihpdmchppcbfaa
