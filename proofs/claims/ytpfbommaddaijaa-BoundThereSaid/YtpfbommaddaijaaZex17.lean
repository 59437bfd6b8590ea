/- The little map of a walk over a formula: costs by kind; What formula's walk answers. -/
import Derived.Test.YtpfbommaddaijaaZex15
import Derived.Test.YtpfbommaddaijaaZex16
namespace Go.Proofs.Ytpfbommaddaijaa
open Go.RowKit Go.Maps Go.Proofs.YtpfbommaddaijaaW.PrintWords Go.Proofs.YtpfbommaddaijaaW.PrintLast PBoundTo
set_option linter.unusedVariables false
set_option linter.unusedSimpArgs false

theorem u171 : Try.prog.underlying 171 = some (.map 3 3) := by kernel_rfl
def Ime (c : Nat) : List (Int × Int) → List MapEntry
  | [] => []
  | p :: r => { key := I p.1, val := I p.2, born := c } :: Ime (c + 1) r
/-- a small map in memory: pairs of numbers in the order of their coming -/
def Im (w : World) (b : Nat) (l : List (Int × Int)) : Prop := w.heap[b]? = some (.map (Ime 0 l).toArray l.length)
def imGet (k : Int) : List (Int × Int) → Option Int
  | [] => none
  | p :: r => if k = p.1 then some p.2 else imGet k r
theorem ime_push : ∀ (l : List (Int × Int)) (c : Nat) (a d : Int), Ime c (l ++ [(a, d)]) = Ime c l ++ [{ key := I a, val := I d, born := c + l.length }]
  | [], c, a, d => by simp [Ime]
  | p :: r, c, a, d => by
    rw [List.cons_append, Ime, Ime, ime_push r (c + 1) a d, List.cons_append]
    simp only [List.length_cons]
    rw [show c + 1 + r.length = c + (r.length + 1) by omega]
theorem im_find (k : Int) : ∀ (l : List (Int × Int)) (c i : Nat), ∃ o, Go.Instr.findNow (.int .i64) (I k) (Ime c l) i = some o ∧ o.map (·.2) = (imGet k l).map I
  | [], c, i => ⟨none, by simp [Ime, Go.Instr.findNow], by simp [imGet]⟩
  | p :: r, c, i => by
    obtain ⟨o, h1, h2⟩ := im_find k r (c + 1) (i + 1)
    by_cases e : k = p.1
    · exact ⟨some (i, I p.2), by simp [Ime, Go.Instr.findNow, Go.Instr.sameNow, e], by simp [imGet, e]⟩
    · have e' : (k == p.1) = false := beq_eq_false_iff_ne.2 e
      exact ⟨o, by simp [Ime, Go.Instr.findNow, Go.Instr.sameNow, e', h1], by rw [imGet, if_neg e]; exact h2⟩
theorem im_key {w : World} {b : Nat} {l : List (Int × Int)} (k : Int) : ∃ o, (Go.Instr.findKey 3 (I k) (Ime 0 l)).run Try.prog w = .ok o w ∧ o.map (·.2) = (imGet k l).map I := by
  obtain ⟨o, h1, h2⟩ := im_find k l 0 0
  exact ⟨o, MapKept.run_findKey Try.underlying3 h1, h2⟩
theorem im_check {w : World} (em : Bool) (k : Int) : (Go.Instr.checkKey em 10000 3 (I k)).run Try.prog w = .ok () w := MapKept.run_checkKey Try.underlying3 (by simp [MapKept.IsKey]) em 9999
theorem im_look {w : World} {b : Nat} {l : List (Int × Int)} (h : Im w b l) (k : Int) : (Go.Instr.lookup 171 (.map (some b)) (I k) false).run Try.prog w = .ok (I ((imGet k l).getD 0)) w := by
  obtain ⟨o, h1, h2⟩ := im_key (w := w) (b := b) (l := l) k
  have hc := im_check (w := w) (Ime 0 l).toArray.isEmpty k
  have h3 : (Try.prog.info? 3).bind (·.zero) = some (I 0) := by kernel_rfl
  obtain ⟨j, hj, hjz⟩ := Option.bind_eq_some_iff.1 h3
  have hz : (zeroValue 3).run Try.prog w = .ok (I 0) w := by simp [zeroValue, typeInfo, hj, hjz, Result.andThen]
  unfold Im at h
  cases o with
  | none =>
    have e : imGet k l = none := by cases hg : imGet k l with
      | none => rfl
      | some v => rw [hg] at h2; simp at h2
    rw [e]
    simp at hc
    simp [Go.Instr.lookup, run_underlying u171, MapKept.run_getObj_map h, hc, h1, hz, Result.andThen]
  | some p =>
    obtain ⟨v, e, hv⟩ : ∃ v, imGet k l = some v ∧ p.2 = I v := by cases hg : imGet k l with
      | none => rw [hg] at h2; simp at h2
      | some v => rw [hg] at h2; exact ⟨v, rfl, by simpa using h2⟩
    rw [e]
    simp at hc
    simp [Go.Instr.lookup, run_underlying u171, MapKept.run_getObj_map h, hc, h1, hv, Result.andThen]
theorem im_put {w : World} {b : Nat} {l : List (Int × Int)} (h : Im w b l) (k d : Int) (hno : imGet k l = none) : ∃ w', (Go.Instr.mapUpdate 171 (.map (some b)) (I k) (I d)).run Try.prog w = .ok () w' ∧ Im w' b (l ++ [(k, d)]) ∧ w.grownBy w' (some b) := by
  obtain ⟨o, h1, h2⟩ := im_key (w := w) (b := b) (l := l) k
  have hc := im_check (w := w) false k
  rw [hno] at h2
  obtain rfl : o = none := by cases o with
    | none => rfl
    | some p => simp at h2
  unfold Im at h
  have hlt : b < w.heap.size := (Array.getElem?_eq_some_iff.1 h).1
  refine ⟨{ w with heap := w.heap.setIfInBounds b (.map ((Ime 0 l).toArray.push ⟨I k, I d, l.length⟩) (l.length + 1)) }, ?_, ?_, ?_⟩
  · simp [Go.Instr.mapUpdate, run_underlying u171, MapKept.run_getObj_map h, hc, h1, MapKept.run_setObj_map _ h, Result.andThen]
  · unfold Im
    rw [ime_push, List.length_append]
    simp [Array.getElem?_setIfInBounds, hlt]
  · refine ⟨rfl, rfl, rfl, by simp, fun k hk hr => ?_⟩
    have hkb : b ≠ k := fun e => hr (by rw [e])
    simp [Array.getElem?_setIfInBounds, hkb]
theorem wpList_im_look {w : World} {ops : Array Oper} {rest : List Oper} {o : Oper} {a : Act} {Q : Exit → Act → World → Prop}
    (hg : o.guard = none) (m x : Operand) (hop : o.op = Op.lookup 171 m x false) {b : Nat} {l : List (Int × Int)} (hm : a.eval m = .map (some b)) (hs : Im w b l) {k : Int} (hx : a.eval x = I k) {v : Int} (hv : (imGet k l).getD 0 = v)
    (hK : wpList Try.prog ops Q rest (a.put o.dst (I v)) w) : wpList Try.prog ops Q (o :: rest) a w := by
  refine wpList_plain hg fun K' hK' => ?_
  have hrun := im_look hs k
  rw [hv] at hrun
  unfold Oper.wp
  simp [execOp, hop, hm, hx, hrun, Result.andThen]
  exact hK' _ _ hK
theorem wpList_im_put {w : World} {ops : Array Oper} {rest : List Oper} {o : Oper} {a : Act} {Q : Exit → Act → World → Prop}
    (hg : o.guard = none) (m x v : Operand) (hop : o.op = Op.insert 171 m x v) {b : Nat} {l : List (Int × Int)} (hm : a.eval m = .map (some b)) (hs : Im w b l) {k d : Int} (hx : a.eval x = I k) (hv : a.eval v = I d) (hno : imGet k l = none)
    (hK : ∀ w', Im w' b (l ++ [(k, d)]) → w.grownBy w' (some b) → wpList Try.prog ops Q rest (a.put o.dst undef) w') : wpList Try.prog ops Q (o :: rest) a w := by
  refine wpList_plain hg fun K' hK' => ?_
  obtain ⟨w', hrun, r1, r2⟩ := im_put hs k d hno
  unfold Oper.wp
  simp [execOp, hop, hm, hx, hv, hrun, Result.andThen]
  exact hK' _ _ (hK w' r1 r2)
theorem im_cost (k : Int) : (imGet k [(3, 1), (4, 1), (5, 2)]).getD 0 = (cost k : Int) := by
  unfold cost
  by_cases h3 : k = 3
  · subst h3; rfl
  by_cases h4 : k = 4
  · subst h4; rfl
  by_cases h5 : k = 5
  · subst h5; rfl
  · rw [if_neg (by omega), if_neg h5]; simp [imGet, h3, h4, h5]
end Go.Proofs.Ytpfbommaddaijaa

namespace Go.Proofs.Ytpfbommaddaijaa
open Go.RowKit Go.Maps Go.Proofs.YtpfbommaddaijaaW.PrintWords Go.Proofs.YtpfbommaddaijaaW.PrintLast PBoundTo
set_option linter.unusedVariables false
set_option linter.unusedSimpArgs false

/-- the walk ends well -/
def wok (N L : Nat) (x : S24) : Bool := fsh x && decide (N + fnd x ≤ 20000) && decide (L + fns x ≤ 1001)
theorem wok_true {N L : Nat} {x : S24} : wok N L x = true ↔ fsh x = true ∧ N + fnd x ≤ 20000 ∧ L + fns x ≤ 1001 := by simp [wok, and_assoc]
theorem fnd_pos (x : S24) : 1 ≤ fnd x := by rw [fnd_eq]; omega
theorem fns_pos (x : S24) : 1 ≤ fns x := by rw [fns_eq]; omega
/-- what walk answers -/
def WkR (W : World) (gn N S L : Nat) (D In Ne : Int) (x : S24) (e : Ending) (W' : World) : Prop := ∃ (d N' S' : Nat) (In' : Int), e = .returned (.tuple #[I (d : Int), .bool (wok N L x)]) ∧ W.grownBy W' (some gn) ∧ W'.heap[gn]? = some (.cells #[I N', I S', I D, I In', I Ne] 149 (0, 0)) ∧ 0 ≤ In' ∧ (wok N L x = true → d = fdp x ∧ N' = N + fnd x ∧ S' = S + fsz x ∧ In' = max In (fin x))
/-- what a round keeps: after some kids -/
structure Wi (x : S24) (N S L : Nat) (In : Int) (i d Ni Si : Nat) (Ini : Int) : Prop where
  nd : Ni + fndL (x.f2.drop i) = N + fnd x
  sz : Si + fszL (x.f2.drop i) = S + fsz x
  sh : fsh x = fshL (x.f2.drop i)
  ns : L + fns x ≤ 1001 ↔ L + 1 + fnsL (x.f2.drop i) ≤ 1001
  dp : max d (fdpL (x.f2.drop i)) = fdpL x.f2
  inp : max Ini (finL (x.f2.drop i)) = max In (finL x.f2)
  hN : Ni ≤ 20000
  hS : Si ≤ Ni
  hI : 0 ≤ Ini
  hd : d ≤ 4000
theorem Wi.step {x : S24} {N S L : Nat} {In : Int} {i d Ni Si : Nat} {Ini : Int} (h : Wi x N S L In i d Ni Si Ini) (hi : i < x.f2.length) {d' N' S' : Nat} {In' : Int} (hok : wok Ni (L + 1) (rd_T24 x.f2 i) = true) (h1 : d' = fdp (rd_T24 x.f2 i) ∧ N' = Ni + fnd (rd_T24 x.f2 i) ∧ S' = Si + fsz (rd_T24 x.f2 i) ∧ In' = max Ini (fin (rd_T24 x.f2 i))) (hdl : fdp (rd_T24 x.f2 i) ≤ 4000) (hsl : fsz (rd_T24 x.f2 i) ≤ fnd (rd_T24 x.f2 i)) : Wi x N S L In (i + 1) (max d d') N' S' In' := by
  obtain ⟨k1, k2, k3, k4, k5, k6, k7, k8, k9, k10⟩ := h
  obtain ⟨w1, w2, w3⟩ := wok_true.1 hok
  obtain ⟨rfl, rfl, rfl, rfl⟩ := h1
  rw [fdrop _ _ hi] at k1 k2 k3 k4 k5 k6
  obtain ⟨c1, c2, c3, c4, c5, c6⟩ := fL_cons (rd_T24 x.f2 i) (x.f2.drop (i + 1))
  rw [c1] at k1
  rw [c3] at k2
  rw [c6, w1, Bool.true_and] at k3
  rw [c2] at k4
  rw [c4] at k5
  rw [c5] at k6
  exact ⟨by omega, by omega, k3, by rw [k4]; omega, by omega, by omega, w2, by omega, by omega, by omega⟩
theorem Wi.bad {x : S24} {N S L : Nat} {In : Int} {i d Ni Si : Nat} {Ini : Int} (h : Wi x N S L In i d Ni Si Ini) (hi : i < x.f2.length) (hno : wok Ni (L + 1) (rd_T24 x.f2 i) = false) : wok N L x = false := by
  obtain ⟨k1, k2, k3, k4, k5, k6, k7, k8, k9, k10⟩ := h
  rw [fdrop _ _ hi] at k1 k3 k4
  obtain ⟨c1, c2, c3, c4, c5, c6⟩ := fL_cons (rd_T24 x.f2 i) (x.f2.drop (i + 1))
  rw [c1] at k1
  rw [c6] at k3
  rw [c2] at k4
  cases e : wok N L x with
  | false => rfl
  | true =>
    obtain ⟨w1, w2, w3⟩ := wok_true.1 e
    rw [w1] at k3
    have k3' := k3.symm
    rw [Bool.and_eq_true] at k3'
    have := wok_true.2 ⟨k3'.1, show Ni + fnd (rd_T24 x.f2 i) ≤ 20000 by omega, show L + 1 + fns (rd_T24 x.f2 i) ≤ 1001 by have := k4.1 w3; omega⟩
    rw [hno] at this
    cases this
theorem Wi.last {x : S24} {N S L : Nat} {In : Int} {d Ni Si : Nat} {Ini : Int} (h : Wi x N S L In x.f2.length d Ni Si Ini) (hk : ¬ x.f0 = 0) (hL : L ≤ 1000) (hlen : 0 < x.f2.length) (hfin : 0 ≤ finL x.f2) : wok N L x = true ∧ d + cost x.f0 = fdp x ∧ Ni = N + fnd x ∧ Si = S + fsz x ∧ Ini = max In (fin x) := by
  obtain ⟨k1, k2, k3, k4, k5, k6, k7, k8, k9, k10⟩ := h
  rw [List.drop_length] at *
  obtain ⟨c1, c2, c3, c4, c5⟩ := fL_nil
  rw [c1] at k1
  rw [c3] at k2
  rw [c5] at k3
  rw [c2] at k4
  rw [c4] at k5
  rw [show finL [] = -9223372036854775808 by rw [finL]] at k6
  refine ⟨wok_true.2 ⟨k3, by omega, k4.2 (by omega)⟩, ?_, by omega, by omega, ?_⟩
  · rw [fdp_eq]; omega
  · rw [fin_eq, if_neg hk]; omega
theorem cost_le (k : Int) : cost k ≤ 2 := by unfold cost; split; omega; split <;> omega
theorem fdp_le (x : S24) : fdp x ≤ 2 * fns x := by
  have key : ∀ (m : Nat) (x : S24), fns x ≤ m → fdp x ≤ 2 * fns x := by
    intro m
    induction m with
    | zero => intro x h; have := fns_pos x; omega
    | succ m ih =>
      intro x h
      rw [fns_eq] at h
      rw [fdp_eq, fns_eq]
      have hc := cost_le x.f0
      have hl : ∀ l : List S24, fnsL l ≤ m → fdpL l ≤ 2 * fnsL l := by
        intro l
        induction l with
        | nil => intro _; rw [fL_nil.2.2.2.1]; omega
        | cons y r ihl =>
          intro h
          obtain ⟨c1, c2, c3, c4, c5, c6⟩ := fL_cons y r
          rw [c2] at h
          rw [c4, c2]
          have := ih y (by omega)
          have := ihl (by omega)
          omega
      have := hl x.f2 (by omega)
      omega
  exact key _ x (Nat.le_refl _)
mutual
theorem fsz_le : ∀ x : S24, fsz x ≤ fnd x ∧ 1 ≤ fsz x
  | ⟨k, n, []⟩ => by rw [fsz, fnd]; omega
  | ⟨k, n, y :: r⟩ => by
    have h := fszL_le r
    have hy := fsz_le y
    rw [fsz, fnd, fndL]; omega
theorem fszL_le : ∀ l : List S24, fszL l ≤ fndL l
  | [] => by rw [fszL, fndL]; omega
  | y :: r => by
    have h := fszL_le r
    have hy := fsz_le y
    rw [fszL, fndL]; omega
end
mutual
theorem fin_nn : ∀ x : S24, 0 ≤ fin x ∨ (x.f0 = 0 ∧ x.f1 < -1)
  | ⟨k, n, kids⟩ => by
    rw [fin]
    by_cases h : k = 0
    · rw [if_pos h]
      by_cases hn : n < -1
      · exact .inr ⟨h, hn⟩
      · left; omega
    · rw [if_neg h]; left; omega
end
theorem finL_nn (l : List S24) (h : 0 < l.length) (hs : fshL l = true) : 0 ≤ finL l := by
  cases l with
  | nil => exact absurd h (by simp)
  | cons y r =>
    obtain ⟨c1, c2, c3, c4, c5, c6⟩ := fL_cons y r
    rw [c6, Bool.and_eq_true] at hs
    rw [c5]
    rcases fin_nn y with h1 | ⟨h1, h2⟩
    · omega
    · have := hs.1
      rw [fsh_eq, h1] at this
      simp [nok] at this
      omega
end Go.Proofs.Ytpfbommaddaijaa

