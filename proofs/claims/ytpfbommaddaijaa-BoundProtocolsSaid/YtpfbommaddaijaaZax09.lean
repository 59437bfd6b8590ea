/- Look-up and update in a map whose keys hold a pointer: run laws and steps of a walk; A list of protocols in memory is read in one way alone. -/
import Derived.Test.YtpfbommaddaijaaZax08
import Derived.MapKept
namespace Go.Proofs.Ytpfbommaddaijaa
open Go.RowKit Go.Proofs.YtpfbommaddaijaaW.PrintWords Go.Proofs.YtpfbommaddaijaaW.PrintLast PBoundTo
set_option linter.unusedVariables false
set_option linter.unusedSimpArgs false

theorem u115 : Try.prog.underlying 115 = some (.map 157 3) := by kernel_rfl
theorem held157 : Try.prog.stoodInHeld 157 = false := by kernel_rfl
theorem check_key {w : World} (em : Bool) (a : Addr) (s m : Int) (d : Nat) : (Go.Instr.checkKey em (d + 2) 157 (KP a s m)).run Try.prog w = .ok () w := by
  unfold Go.Instr.checkKey
  simp [run_underlying Try.underlying157, part, sizeOf, typeInfo, Go.Instr.checkKey, run_underlying Try.underlying155, run_underlying Try.underlying3, Result.andThen]
theorem findKey_run {w : World} {a : Addr} {s m : Int} (ha : Pl w a) {xs : List De} {es : List MapEntry} (h : Ents xs es) (hp : ∀ x ∈ xs, Pl w x.a) : (Go.Instr.findKey 157 (KP a s m) es).run Try.prog w = .ok ((lookD a s m xs 0).map fun p => (p.1, I p.2.d)) w := by
  have hf := find_run (s := s) (m := m) ha held157 h hp 0
  cases h with
  | nil => simp [Go.Instr.findKey, run_underlying Try.underlying157, Go.Instr.findNow, lookD]
  | cons h => simp [Go.Instr.findKey, run_underlying Try.underlying157, Go.Instr.findNow, Go.Instr.sameNow, hf]
/-- the map of depths in memory -/
def Dm (w : World) (b : Nat) (xs : List De) : Prop := ∃ es clock, w.heap[b]? = some (.map es clock) ∧ Ents xs es.toList ∧ ∀ x ∈ xs, Pl w x.a
theorem look_run {w : World} {b : Nat} {xs : List De} (h : Dm w b xs) {a : Addr} (ha : Pl w a) (s m : Int) : (Go.Instr.lookup 115 (.map (some b)) (KP a s m) true).run Try.prog w = .ok (.tuple #[I (match lookD a s m xs 0 with | some p => p.2.d | none => 0), .bool (lookD a s m xs 0).isSome]) w := by
  obtain ⟨es, clock, hb, he, hp⟩ := h
  have hf := findKey_run (s := s) (m := m) ha he hp
  have hc := check_key (w := w) es.isEmpty a s m 9998
  have h3 : (Try.prog.info? 3).bind (·.zero) = some (I 0) := by kernel_rfl
  obtain ⟨j, hj, hjz⟩ := Option.bind_eq_some_iff.1 h3
  have hz : (zeroValue 3).run Try.prog w = .ok (I 0) w := by simp [zeroValue, typeInfo, hj, hjz, Result.andThen]
  cases e : lookD a s m xs 0 with
  | none => rw [e] at hf; simp [Go.Instr.lookup, run_underlying u115, MapKept.run_getObj_map hb, hc, hf, hz, Result.andThen]
  | some p => rw [e] at hf; simp [Go.Instr.lookup, run_underlying u115, MapKept.run_getObj_map hb, hc, hf, Result.andThen]
theorem Pl.keep {w w' : World} {a : Addr} {b : Nat} (h : Pl w a) (hk : ∀ k, k ≠ b → w'.heap[k]? = w.heap[k]?) (hne : a.block ≠ b) : Pl w' a := by
  obtain ⟨cs, t, h⟩ := h
  exact ⟨cs, t, (hk _ hne).trans h⟩
theorem Pl.ne_map {w : World} {a : Addr} {b : Nat} {es : Array MapEntry} {c : Nat} (h : Pl w a) (hb : w.heap[b]? = some (.map es c)) : a.block ≠ b := by
  obtain ⟨cs, t, h⟩ := h
  intro e
  rw [e, hb] at h
  cases h
theorem Ents.push {xs : List De} {es : List MapEntry} (h : Ents xs es) (x : De) (c : Nat) : Ents (xs ++ [x]) (es ++ [{ key := KP x.a x.s x.m, val := I x.d, born := c }]) := by
  induction h with
  | nil => exact .cons .nil
  | cons _ ih => exact .cons ih
theorem put_run {w : World} {b : Nat} {xs : List De} (h : Dm w b xs) {a : Addr} (ha : Pl w a) (s m d : Int) (hno : lookD a s m xs 0 = none) : ∃ w', (Go.Instr.mapUpdate 115 (.map (some b)) (KP a s m) (I d)).run Try.prog w = .ok () w' ∧ Dm w' b (xs ++ [⟨a, s, m, d⟩]) ∧ w.grownBy w' (some b) := by
  obtain ⟨es, clock, hb, he, hp⟩ := h
  have hf := findKey_run (s := s) (m := m) ha he hp
  have hc := check_key (w := w) false a s m 9998
  rw [hno] at hf
  have hne := ha.ne_map hb
  have hlt : b < w.heap.size := (Array.getElem?_eq_some_iff.1 hb).1
  refine ⟨{ w with heap := w.heap.setIfInBounds b (.map (es.push ⟨KP a s m, I d, clock⟩) (clock + 1)) }, ?_, ?_, ?_⟩
  · simp [Go.Instr.mapUpdate, run_underlying u115, MapKept.run_getObj_map hb, hc, hf, MapKept.run_setObj_map _ hb, Result.andThen]
  · have hk : ∀ k, k ≠ b → ({ w with heap := w.heap.setIfInBounds b (.map (es.push ⟨KP a s m, I d, clock⟩) (clock + 1)) }).heap[k]? = w.heap[k]? := fun k hk => by simp [Array.getElem?_setIfInBounds, Ne.symm hk]
    refine ⟨es.push ⟨KP a s m, I d, clock⟩, clock + 1, by simp [Array.getElem?_setIfInBounds, hlt], ?_, ?_⟩
    · rw [Array.toList_push]; exact he.push ⟨a, s, m, d⟩ clock
    · intro x hx
      rcases List.mem_append.1 hx with h | h
      · exact (hp x h).keep hk ((hp x h).ne_map hb)
      · obtain rfl : x = ⟨a, s, m, d⟩ := by simpa using h
        exact ha.keep hk hne
  · refine ⟨rfl, rfl, rfl, by simp, fun k hk hr => ?_⟩
    have hkb : b ≠ k := fun e => hr (by rw [e])
    simp [Array.getElem?_setIfInBounds, hkb]
theorem wpList_dm_look {w : World} {ops : Array Oper} {rest : List Oper} {o : Oper} {a : Act} {Q : Exit → Act → World → Prop}
    (hg : o.guard = none) (m x : Operand) (hop : o.op = Op.lookup 115 m x true) {b : Nat} {xs : List De} (hm : a.eval m = .map (some b)) (hs : Dm w b xs) {ad : Addr} {s t : Int} (hx : a.eval x = KP ad s t) (hp : Pl w ad) {v : Int} {r : Bool} (hv : (match lookD ad s t xs 0 with | some p => p.2.d | none => 0) = v) (hr : (lookD ad s t xs 0).isSome = r)
    (hK : wpList Try.prog ops Q rest (a.put o.dst (.tuple #[I v, .bool r])) w) : wpList Try.prog ops Q (o :: rest) a w := by
  refine wpList_plain hg fun K' hK' => ?_
  have hrun := look_run hs hp s t
  rw [hv, hr] at hrun
  unfold Oper.wp
  simp [execOp, hop, hm, hx, hrun, Result.andThen]
  exact hK' _ _ hK
theorem wpList_dm_put {w : World} {ops : Array Oper} {rest : List Oper} {o : Oper} {a : Act} {Q : Exit → Act → World → Prop}
    (hg : o.guard = none) (m x v : Operand) (hop : o.op = Op.mapUpdate 115 m x v) {b : Nat} {xs : List De} (hm : a.eval m = .map (some b)) (hs : Dm w b xs) {ad : Addr} {s t d : Int} (hx : a.eval x = KP ad s t) (hv : a.eval v = I d) (hp : Pl w ad) (hno : lookD ad s t xs 0 = none)
    (hK : ∀ w', Dm w' b (xs ++ [⟨ad, s, t, d⟩]) → w.grownBy w' (some b) → wpList Try.prog ops Q rest (a.put o.dst undef) w') : wpList Try.prog ops Q (o :: rest) a w := by
  refine wpList_plain hg fun K' hK' => ?_
  obtain ⟨w', hrun, r1, r2⟩ := put_run hs hp s t d hno
  unfold Oper.wp
  simp [execOp, hop, hm, hx, hv, hrun, Result.andThen]
  exact hK' _ _ (hK w' r1 r2)
end Go.Proofs.Ytpfbommaddaijaa

namespace Go.Proofs.Ytpfbommaddaijaa
open Go.RowKit Go.Proofs.YtpfbommaddaijaaW.PrintWords Go.Proofs.YtpfbommaddaijaaW.PrintLast PBoundTo
set_option linter.unusedVariables false
set_option linter.unusedSimpArgs false

theorem bool_uniq {w : World} {A : Option Addr} {l l' : List Bool} (h : Kd.C Kd.bool w A l.length l) (h' : Kd.C Kd.bool w A l'.length l') (e : l.length = l'.length) : l = l' := by
  apply List.ext_getElem? 
  intro j
  rcases Nat.lt_or_ge j l.length with hj | hj
  · have hj' : j < l'.length := by omega
    obtain ⟨ad, hA, hc⟩ := h.2.2 (by omega)
    obtain ⟨ad', hA', hc'⟩ := h'.2.2 (by omega)
    obtain rfl : ad = ad' := Option.some.inj (hA.symm.trans hA')
    obtain ⟨c, h1, h2, h3⟩ := hc j _ (List.getElem?_eq_getElem hj)
    obtain ⟨c', h1', h2', h3'⟩ := hc' j _ (List.getElem?_eq_getElem hj')
    rw [List.getElem?_eq_getElem hj, List.getElem?_eq_getElem hj']
    have e1 : c = [.bool l[j]] := h2
    have e2 : c' = [.bool l'[j]] := h2'
    subst e1 e2
    have g1 := h3 0 _ rfl
    have g2 := h3' 0 _ rfl
    rw [g1] at g2
    injection g2 with g2
    injection g2 with g2
    rw [g2]
  · rw [List.getElem?_eq_none hj, List.getElem?_eq_none (by omega)]
theorem k32_uniq : ∀ (m : Nat) {l l' : List S32} {w : World} {A : Option Addr}, hgL l ≤ m → k32.C w A l.length l → k32.C w A l'.length l' → l.length = l'.length → l = l' := by
  intro m
  induction m with
  | zero =>
    intro l l' w A hm h h' e
    cases l with
    | nil => exact (List.eq_nil_of_length_eq_zero (by simpa using e.symm)).symm
    | cons x r => rw [hgL_cons] at hm; omega
  | succ m ih =>
    intro l l' w A hm h h' e
    apply List.ext_getElem?
    intro j
    rcases Nat.lt_or_ge j l.length with hj | hj
    · have hj' : j < l'.length := by omega
      obtain ⟨ad, hA, hc⟩ := h.2.2 (by omega)
      obtain ⟨ad', hA', hc'⟩ := h'.2.2 (by omega)
      obtain rfl : ad = ad' := Option.some.inj (hA.symm.trans hA')
      have hq := List.getElem?_eq_getElem hj
      have hq' := List.getElem?_eq_getElem hj'
      generalize l[j] = x at hq
      generalize l'[j] = y at hq'
      obtain ⟨c, h1, h2, h3⟩ := hc j _ hq
      obtain ⟨c', h1', h2', h3'⟩ := hc' j _ hq'
      obtain ⟨A3, c3, A4, c4, rfl, l3, g3, l4, g4⟩ := k32_open h2
      obtain ⟨B3, d3, B4, d4, rfl, l3', g3', l4', g4'⟩ := k32_open h2'
      have hmem := hg_mem hq
      have q0 := (h3 0 _ rfl).symm.trans (h3' 0 _ rfl)
      have q1 := (h3 1 _ rfl).symm.trans (h3' 1 _ rfl)
      have q2 := (h3 2 _ rfl).symm.trans (h3' 2 _ rfl)
      have q3 := (h3 3 _ rfl).symm.trans (h3' 3 _ rfl)
      have q4 := (h3 4 _ rfl).symm.trans (h3' 4 _ rfl)
      simp only [Option.some.injEq, Value.bool.injEq, Value.int.injEq, Value.slice.injEq, true_and] at q0 q1 q2 q3 q4
      obtain ⟨rfl, q3, -⟩ := q3
      obtain ⟨rfl, q4, -⟩ := q4
      have e3 := bool_uniq g3 g3' q3
      have e4 := ih (by rw [← hg_eq]; omega) g4 g4' q4
      rw [hq, hq']
      obtain ⟨x0, x1, x2, x3, x4⟩ := x
      obtain ⟨y0, y1, y2, y3, y4⟩ := y
      cases q0; cases q1; cases q2; cases e3; cases e4
      rfl
    · rw [List.getElem?_eq_none hj, List.getElem?_eq_none (by omega)]
end Go.Proofs.Ytpfbommaddaijaa

