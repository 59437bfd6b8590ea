/- For every machine, every number of steps and every length, Space returns the documented cost or the documented error: the law RootSpaces returns true for every input. No condition. -/
import Derived.Test.YtjahkdomofhfgaaTt
import Derived.ProofKit
import Derived.Lib.SmallJoins
import Derived.SizedLaws
import Derived.Deep.Matrix
namespace Go.Proofs.Ytjahkdomofhfgaa
open Go.ChangeShapes Go.WideShapes Go.ChangeAt Go.RowKit Go.Joins Go.Deep
set_option linter.unusedVariables false

namespace RootSpaces
theorem Try.own : ownKnob Try.prog.godebug = none := by kernel_rfl
theorem Try.cells27 : Try.prog.cellsOf 27 = 1 := by kernel_rfl
theorem Try.cells3 : Try.prog.cellsOf 3 = 1 := by kernel_rfl
theorem Try.cells33 : Try.prog.cellsOf 33 = 1 := by kernel_rfl
theorem Try.cells35 : Try.prog.cellsOf 35 = 4 := by kernel_rfl
theorem Try.cells48 : Try.prog.cellsOf 48 = 5 := by kernel_rfl
theorem Try.bytes48 : Try.prog.bytesOf 48 = 88 := by kernel_rfl
theorem Try.bytes3 : Try.prog.bytesOf 3 = 8 := by kernel_rfl

section
variable {H : Type} {P : Program}
def Reach (P : Program) (t : TypeId) (d : DataW H) : Prop := ∀ n ∈ DataW.weights P t d, n ≤ reachBytes
theorem reach_each {ts : List TypeId} {ds : List (DataW H)} (h : (DataW.weightsEach P ts ds).all (· ≤ reachBytes) = true) {j : Nat} {t : TypeId} {d : DataW H} (ht : ts[j]? = some t) (hd : ds[j]? = some d) : Reach P t d :=
  fun n hn => of_decide_eq_true (List.all_eq_true.1 h _ (DataW.weights_mem_each ht hd n hn))
theorem reach_field {t tj : TypeId} {fs : Array Field} {parts : List (DataW H)} {d : DataW H} {j : Nat} (h : Reach P t (.agg parts)) (hu : P.underlying t = some (.struct fs)) (ht : (fs.toList.map (·.type))[j]? = some tj) (hd : parts[j]? = some d) : Reach P tj d := fun n hn => by
  refine h n ?_
  simp only [DataW.weights, hu]
  exact DataW.weights_mem_each ht hd n hn
theorem weightsAll_mem' {e : TypeId} : ∀ {l : List (DataW H)} {d : DataW H}, d ∈ l → ∀ n ∈ d.weights P e, n ∈ DataW.weightsAll P e l
  | d' :: r, d, hd, n, hn => by
    simp only [DataW.weightsAll, List.mem_append]
    rcases List.mem_cons.1 hd with rfl | h
    · exact Or.inl hn
    · exact Or.inr (weightsAll_mem' h n hn)
theorem reach_elem {t e : TypeId} {elems spare : List (DataW H)} {d : DataW H} (h : Reach P t (.slice elems spare)) (hu : P.underlying t = some (.slice e)) (hd : d ∈ elems) : Reach P e d := fun n hn => by
  refine h n ?_
  simp only [DataW.weights, hu, List.mem_cons, List.mem_append]
  exact Or.inr (Or.inl (weightsAll_mem' hd n hn))
theorem reach_len {t e : TypeId} {elems spare : List (DataW H)} (h : Reach P t (.slice elems spare)) (hu : P.underlying t = some (.slice e)) : (elems.length + spare.length) * P.bytesOf e ≤ reachBytes := by
  refine h _ ?_
  simp only [DataW.weights, hu, List.mem_cons, true_or]
end

theorem add_of_spot {a : Addr} (h : a.spot = none) (n : Nat) : a.add n = ⟨a.block, a.off + n, none⟩ := by
  obtain ⟨b, o, s⟩ := a
  simp only at h
  subst h
  exact Addr.add_lit b o n

/-- A list of numbers that came in. -/
theorem open_sl {H : Type} {enc : TypeId × Value → H} {W : World} {base fuel : Nat} {held : Bool} {v : Value} {x : DataW H × List MemPlace}
    (h : DataW.trod enc Try.prog W base (fun _ => true) held fuel 27 [v] = some x) (hr : Reach Try.prog 27 x.1) : ∃ (a : Option Addr) (L C : Nat) (Z : Nat → Int), v = .slice a L C ∧ L ≤ C ∧ L ≤ 2 ^ 50 ∧ (a = none → C = 0) ∧ ∀ b, a = some b → ∀ c, c < L → W.cell? (b.add c) = some (I (Z c)) := by
  rcases open_ints Try.underlying27 Try.underlying3 Try.cells3 h with ⟨hcs, rfl⟩ | ⟨a, len, cap, zs, hcs, hb, hl, hm, hz, rfl, hcell, hw⟩
  · simp at hcs
    exact ⟨none, 0, 0, fun _ => 0, hcs, Nat.le_refl _, by omega, fun _ => rfl, fun b hb => by cases hb⟩
  · simp at hcs
    simp only [if_true] at hz
    have h1 := reach_len hr Try.underlying27
    rw [Try.bytes3] at h1
    simp only [lits, List.length_map, List.length_take, List.length_drop, reachBytes, hz] at h1
    refine ⟨some a, len, cap, fun c => zs.getD c 0, hcs, hl, by omega, by simp, fun b hb' c hc => ?_⟩
    cases hb'
    exact hcell c (by omega)

/-- A rule that came in. -/
theorem open_rule {H : Type} {enc : TypeId × Value → H} {W : World} {base fuel : Nat} {held : Bool} {cs : List Value} {x : DataW H × List MemPlace}
    (h : DataW.trod enc Try.prog W base (fun _ => true) held fuel 48 cs = some x) (hr : Reach Try.prog 48 x.1) : ∃ (f g : Int) (A : Nat → Option Addr) (L C : Nat → Nat) (Z : Nat → Nat → Int), cs = [I f, .slice (A 0) (L 0) (C 0), I g, .slice (A 1) (L 1) (C 1), .slice (A 2) (L 2) (C 2)] ∧
      ∀ q, q < 3 → L q ≤ C q ∧ L q ≤ 2 ^ 50 ∧ (A q = none → C q = 0) ∧ ∀ b, A q = some b → ∀ c, c < L q → W.cell? (b.add c) = some (I (Z q c)) := by
  obtain ⟨xs, n, _, rfl, hl, hlen, hf⟩ := DataW.trod_struct Try.underlying48 h
  rw [Try.cells48] at hl
  match cs, hl with
  | [k0, k1, k2, k3, k4], _ =>
  match xs, hlen with
  | [y0, y1, y2, y3, y4], _ =>
  have h0 := hf 0 { name := "From", type := 3, offset := 0, embedded := false, tag := "", pkgPath := "", byteOffset := 0 } rfl
  have h1 := hf 1 { name := "Read", type := 27, offset := 1, embedded := false, tag := "", pkgPath := "", byteOffset := 8 } rfl
  have h2 := hf 2 { name := "To", type := 3, offset := 2, embedded := false, tag := "", pkgPath := "", byteOffset := 32 } rfl
  have h3 := hf 3 { name := "Write", type := 27, offset := 3, embedded := false, tag := "", pkgPath := "", byteOffset := 40 } rfl
  have h4 := hf 4 { name := "Moves", type := 27, offset := 4, embedded := false, tag := "", pkgPath := "", byteOffset := 64 } rfl
  simp only [Try.cells3, Try.cells27, List.drop_zero, List.drop_succ_cons, List.take_succ_cons, List.take_zero, List.getElem?_cons_zero, List.getElem?_cons_succ] at h0 h1 h2 h3 h4
  obtain ⟨f, ef, _⟩ := DataW.trod_int Try.underlying3 h0
  obtain ⟨g, eg, _⟩ := DataW.trod_int Try.underlying3 h2
  simp at ef eg
  subst ef eg
  have hr' : Reach Try.prog 48 (.agg [y0.1, y1.1, y2.1, y3.1, y4.1]) := hr
  obtain ⟨a1, L1, C1, Z1, rfl, p1⟩ := open_sl h1 (reach_field hr' Try.underlying48 (j := 1) rfl rfl)
  obtain ⟨a3, L3, C3, Z3, rfl, p3⟩ := open_sl h3 (reach_field hr' Try.underlying48 (j := 3) rfl rfl)
  obtain ⟨a4, L4, C4, Z4, rfl, p4⟩ := open_sl h4 (reach_field hr' Try.underlying48 (j := 4) rfl rfl)
  refine ⟨f, g, fun q => if q = 0 then a1 else if q = 1 then a3 else a4, fun q => if q = 0 then L1 else if q = 1 then L3 else L4, fun q => if q = 0 then C1 else if q = 1 then C3 else C4, fun q => if q = 0 then Z1 else if q = 1 then Z3 else Z4, rfl, fun q hq => ?_⟩
  match q, hq with
  | 0, _ => exact p1
  | 1, _ => exact p3
  | 2, _ => exact p4

/-- A machine's rules that came in. -/
theorem open_mach {H : Type} {enc : TypeId × Value → H} {W : World} {base fuel : Nat} {held : Bool} {v : Value} {x : DataW H × List MemPlace}
    (h : DataW.trod enc Try.prog W base (fun _ => true) held fuel 33 [v] = some x) (hr : Reach Try.prog 33 x.1) : ∃ n F G A L C Z, Mg W v n F G A L C Z := by
  rcases open_slice Try.underlying33 h with ⟨hcs, _⟩ | ⟨a, len, cap, m, n, D, Pl, hcs, hb, hl, hm, hmm, rfl, hx⟩
  · simp at hcs
    subst hcs
    exact ⟨0, fun _ => 0, fun _ => 0, fun _ _ => none, fun _ _ => 0, fun _ _ => 0, fun _ _ _ => 0, ⟨⟨none, 0, rfl⟩, fun h => by omega, by omega, fun r hr => by omega⟩⟩
  · simp at hcs
    subst hcs
    simp only [if_true] at hmm
    subst hmm
    have hlen := reach_len hr Try.underlying33
    rw [Try.bytes48] at hlen
    simp only [List.length_map, List.length_range, reachBytes] at hlen
    have each : ∀ r, ∃ y : (Int × Int) × (Nat → Option Addr) × (Nat → Nat) × (Nat → Nat) × (Nat → Nat → Int), r < len → (W.cells? base (a.add (r * 5)) 5 = some [I y.1.1, .slice (y.2.1 0) (y.2.2.1 0) (y.2.2.2.1 0), I y.1.2, .slice (y.2.1 1) (y.2.2.1 1) (y.2.2.2.1 1), .slice (y.2.1 2) (y.2.2.1 2) (y.2.2.2.1 2)]) ∧
        ∀ q, q < 3 → y.2.2.1 q ≤ y.2.2.2.1 q ∧ y.2.2.1 q ≤ 2 ^ 50 ∧ (y.2.1 q = none → y.2.2.2.1 q = 0) ∧ ∀ b, y.2.1 q = some b → ∀ c, c < y.2.2.1 q → W.cell? (b.add c) = some (I (y.2.2.2.2 q c)) := by
      intro r
      by_cases hr' : r < len
      · obtain ⟨cs', hc, ht⟩ := hx r (by omega)
        rw [Try.cells48] at hc
        obtain ⟨f, g, A, L, C, Z, rfl, hq⟩ := open_rule ht (reach_elem hr Try.underlying33 (List.mem_map.2 ⟨r, List.mem_range.2 hr', rfl⟩))
        exact ⟨((f, g), A, L, C, Z), fun _ => ⟨hc, hq⟩⟩
      · exact ⟨((0, 0), fun _ => none, fun _ => 0, fun _ => 0, fun _ _ => 0), fun h => absurd h hr'⟩
    obtain ⟨y, hy⟩ := Classical.axiomOfChoice each
    refine ⟨len, fun r => (y r).1.1, fun r => (y r).1.2, fun r => (y r).2.1, fun r => (y r).2.2.1, fun r => (y r).2.2.2.1, fun r => (y r).2.2.2.2, ⟨⟨_, _, rfl⟩, fun h0 => ?_, by omega, fun r hr' q hq => (hy r hr').2 q hq⟩⟩
    have hsp : a.spot = none := by
      have h1 := (hy 0 h0).1
      have h2 := (World.cells?_some h1).2.2 0 (by omega)
      simp only [Nat.zero_mul, Addr.add_zero'] at h2
      exact World.cell?_spot h2
    have ha : a = ⟨a.block, a.off, none⟩ := by
      have := add_of_spot hsp 0
      simpa [Addr.add] using this
    refine ⟨a.block, a.off, _, by rw [← ha], fun r hr' => ?_⟩
    have h1 := (hy r hr').1
    have h2 := (World.cells?_some h1).2.2
    have g0 := h2 0 (by omega)
    have g1 := h2 1 (by omega)
    have g2 := h2 2 (by omega)
    have g3 := h2 3 (by omega)
    have g4 := h2 4 (by omega)
    simp only [add_of_spot hsp, Addr.add_lit, Nat.add_zero, List.getElem?_cons_zero, List.getElem?_cons_succ] at g0 g1 g2 g3 g4
    exact ⟨g0, g1, g2, g3, g4⟩

set_option maxRecDepth 100000 in
theorem lifted (os : Os) (started : os.Started) (H : Type) (enc : TypeId × Value → H) :
    ReturnsInHanded {} Try.checked os 4 .any (Rows.rootSpacesSpec.pre6 enc Try.prog Try.f4 Rows.rootSpacesRow.domain false) (Rows.rootSpacesSpec.post enc Try.prog Try.f4 false true false false) := by
  refine returnsInHanded_of_change_sized (C := Try.checked) Try.own started (by kernel_rfl) Try.func4
    (ChangeSpec.witness6 (enc := enc) (C := Try.checked) false ⟨#[], #[.agg #[.int .i64 0, .int .i64 0, .int .i64 0, .slice none 0 0], .int .i64 0, .int .i64 0], []⟩ 8 (by kernel_rfl) (by kernel_rfl) (by kernel_rfl) (by kernel_rfl)) ?_
  intro W base args ds gs before hval0 hW hcnd hsz0 _
  have hval : ∀ (j : Nat) t v, Try.f4.params[j]? = some t → args[j]? = some v → Value.okWide Try.prog W .any base t v := hval0
  have hsz : (DataW.weightsEach Try.prog (Try.f4.params.toList ++ Rows.rootSpacesSpec.plain.varTypes Try.prog) (ds ++ gs)).all (· ≤ reachBytes) = true := hsz0
  have hW' := hW
  obtain ⟨p, q, hA0, hV, rfl, hfz, hnd⟩ := hW
  have hA : DataW.TrodAll enc Try.prog W 0 (fun _ => true) true Try.f4.params.toList args.toList ds p := hA0
  rw [Try.params4] at hA hval hsz
  obtain ⟨v0, vs0, d0, ds0, p0, q0, hargs, rfl, rfl, h0, r0⟩ := trodAll_cons hA
  obtain ⟨v1, vs1, d1, ds1, p1, q1, rfl, rfl, rfl, h1, r1⟩ := trodAll_cons r0
  obtain ⟨v2, vs2, d2, ds2, p2, q2, rfl, rfl, rfl, h2, r2⟩ := trodAll_cons r1
  obtain ⟨rfl, rfl, rfl⟩ := trodAll_nil r2
  obtain rfl : args = #[v0, v1, v2] := by cases args; simp_all
  obtain ⟨rfl, rfl⟩ := trodVars_none hV
  have k0 := h0
  have lt0 : ∀ x ∈ p0, x.block < W.heap.size := by obtain ⟨m, hm⟩ := k0; exact DataW.trod_lt m _ _ _ hm
  obtain ⟨c0, c1, c2, c3, y0, y1, y2, y3, m, rfl, rfl, rfl, hy0, hy1, hy2, hy3⟩ := open_agg4 Try.underlying35 (by kernel_rfl) Try.cells35 (hval 0 35 v0 rfl rfl) h0
  obtain ⟨S, e0, _⟩ := DataW.trod_int Try.underlying3 hy0
  obtain ⟨Y, e1, _⟩ := DataW.trod_int Try.underlying3 hy1
  obtain ⟨T, e2, _⟩ := DataW.trod_int Try.underlying3 hy2
  simp at e0 e1 e2
  subst e0 e1 e2
  obtain ⟨n, F, G, A, L, C, Z, hd⟩ := open_mach hy3 (reach_field (reach_each (j := 0) hsz rfl rfl) Try.underlying35 (j := 3) rfl rfl)
  obtain ⟨a1, rfl, rfl, rfl, w1⟩ := open_int Try.underlying3 (hval 1 3 v1 rfl rfl) h1
  obtain ⟨a2, rfl, rfl, rfl, w2⟩ := open_int Try.underlying3 (hval 2 3 v2 rfl rfl) h2
  clear hA0 hval0
  refine (spaces_any hd a1 a2).mono fun e W' ⟨he, bel⟩ => ?_
  subst he
  exact ⟨_, rfl, _, _, _, [], _, [], hW', trodAll_mk1 (shut_bool Try.underlying4 _), (trodAll_cons_mk (Below.trod laidOut' (by kernel_rfl) (of_decide_eq_true (by kernel_rfl)) k0 bel lt0) (trodAll_cons_mk (shut_int Try.underlying3 w1) (trodAll_cons_mk (shut_int Try.underlying3 w2) trodAll_mk0))), rfl, bel.frame _, fun h => by cases h⟩
end RootSpaces

theorem rootSpaces_holds : Rows.RootSpacesSaid :=
  OpenClaim.holds_of_wide 4 Try.f4 rfl rfl rfl rfl rfl rfl rfl ⟨rfl, rfl, rfl, rfl, rfl⟩ rfl rfl rfl rfl rfl (by kernel_rfl) Try.func4 (by kernel_rfl)
    (of_decide_eq_true (by kernel_rfl)) (by unfold Func.isWrapper; first | (rw [if_pos (by decide +kernel)]; kernel_rfl) | (rw [if_neg (by decide +kernel)]; exact ⟨rfl, rfl⟩))
    (fun os started H enc _ => RootSpaces.lifted os started H enc)

#print axioms rootSpaces_holds
end Go.Proofs.Ytjahkdomofhfgaa
