/- Formulas of any shape: what they count, and what formula's node and walk answer; A protocol copied: the copy's own words, and ours; Keys that hold a pointer: when two are the same; Look-up and update in a map whose keys hold a pointer: run laws and steps of a walk; The little map of a walk over a formula: costs by kind; What formula's walk answers. -/
import Derived.Test.YtpfbommaddaijaaZcPa
import Derived.Test.YtpfbommaddaijaaPCopyx0
import Derived.LaidEqlPtr
import Derived.MapKept
namespace Go.Proofs.Ytpfbommaddaijaa
open Go.RowKit Go.Proofs.YtpfbommaddaijaaW.PrintWords Go.Proofs.YtpfbommaddaijaaW.PrintLast PBoundTo
set_option linter.unusedVariables false
set_option linter.unusedSimpArgs false

/-- a node is right by itself -/
def nok (k n len : Int) : Bool :=
  if k = 0 then decide (0 ≤ n) && decide (n < 16) && len == 0
  else if k = 1 then (n == 0 || n == 1) && len == 0
  else if k = 2 then n == 0 && len == 1
  else if k = 3 ∨ k = 4 ∨ k = 5 then n == 0 && len == 2
  else false
def cost (k : Int) : Nat := if k = 3 ∨ k = 4 then 1 else if k = 5 then 2 else 0
mutual
def fnd : S24 → Nat
  | ⟨_, _, kids⟩ => 1 + fndL kids
def fndL : List S24 → Nat
  | [] => 0
  | x :: r => fnd x + fndL r
end
mutual
/-- how deep it is nested -/
def fns : S24 → Nat
  | ⟨_, _, kids⟩ => 1 + fnsL kids
def fnsL : List S24 → Nat
  | [] => 0
  | x :: r => max (fns x) (fnsL r)
end
mutual
def fsz : S24 → Nat
  | ⟨_, _, []⟩ => 1
  | ⟨_, _, x :: r⟩ => fsz x + fszL r
def fszL : List S24 → Nat
  | [] => 0
  | x :: r => fsz x + fszL r
end
mutual
def fdp : S24 → Nat
  | ⟨k, _, kids⟩ => fdpL kids + cost k
def fdpL : List S24 → Nat
  | [] => 0
  | x :: r => max (fdp x) (fdpL r)
end
mutual
def fin : S24 → Int
  | ⟨k, n, kids⟩ => max (if k = 0 then n + 1 else 0) (finL kids)
def finL : List S24 → Int
  | [] => -9223372036854775808
  | x :: r => max (fin x) (finL r)
end
mutual
def fsh : S24 → Bool
  | ⟨k, n, kids⟩ => nok k n kids.length && fshL kids
def fshL : List S24 → Bool
  | [] => true
  | x :: r => fsh x && fshL r
end
theorem fnd_eq (x : S24) : fnd x = 1 + fndL x.f2 := by cases x; rw [fnd]
theorem fns_eq (x : S24) : fns x = 1 + fnsL x.f2 := by cases x; rw [fns]
theorem fdp_eq (x : S24) : fdp x = fdpL x.f2 + cost x.f0 := by cases x; rw [fdp]
theorem fin_eq (x : S24) : fin x = max (if x.f0 = 0 then x.f1 + 1 else 0) (finL x.f2) := by cases x; rw [fin]
theorem fsh_eq (x : S24) : fsh x = (nok x.f0 x.f1 x.f2.length && fshL x.f2) := by cases x; rw [fsh]
theorem fsz_leaf (x : S24) (h : x.f2 = []) : fsz x = 1 := by obtain ⟨k, n, kids⟩ := x; simp only at h; subst h; rw [fsz]
theorem fsz_node (x : S24) (h : 0 < x.f2.length) : fsz x = fszL x.f2 := by
  obtain ⟨k, n, kids⟩ := x
  cases kids with
  | nil => exact absurd h (by simp)
  | cons y r => rw [fsz, fszL]
theorem fL_nil : fndL [] = 0 ∧ fnsL [] = 0 ∧ fszL [] = 0 ∧ fdpL [] = 0 ∧ fshL [] = true := by rw [fndL, fnsL, fszL, fdpL, fshL]; simp
theorem fL_cons (x : S24) (r : List S24) : fndL (x :: r) = fnd x + fndL r ∧ fnsL (x :: r) = max (fns x) (fnsL r) ∧ fszL (x :: r) = fsz x + fszL r ∧ fdpL (x :: r) = max (fdp x) (fdpL r) ∧ finL (x :: r) = max (fin x) (finL r) ∧ fshL (x :: r) = (fsh x && fshL r) := by
  rw [fndL, fnsL, fszL, fdpL, finL, fshL]; simp
theorem fdrop (l : List S24) (i : Nat) (h : i < l.length) : l.drop i = rd_T24 l i :: l.drop (i + 1) := by
  rw [List.drop_eq_getElem_cons h]
  congr 1
  simp [rd_T24, List.getD, h]
/-- a child is less nested -/
theorem fns_kid (l : List S24) (i : Nat) (h : i < l.length) : fns (rd_T24 l i) ≤ fnsL l := by
  have key : ∀ (l : List S24) (i : Nat), fnsL (l.drop i) ≤ fnsL l := by
    intro l
    induction l with
    | nil => intro i; simp
    | cons x r ih =>
      intro i
      cases i with
      | zero => simp
      | succ i => have := ih i; rw [List.drop_succ_cons, (fL_cons x r).2.1]; omega
  have := key l i
  rw [fdrop l i h, (fL_cons _ _).2.1] at this
  omega
set_option maxHeartbeats 4000000 in
theorem node_any {W : World} (k n : Int) (A : Option Addr) (len c : Nat) : Calls Try.prog 152 #[.agg #[I k, I n, .slice A len c]] W fun e W' => e = .returned (.bool (nok k n len)) ∧ Below W.heap.size W W' := by
  unfold nok
  have hb : Below W.heap.size W (W.alloc (.cells #[I k, I n, .slice A len c] 24)) := (Below.refl _ _).alloc (Nat.le_refl _) _
  have HB := Lib.hid hb
  clear hb
  by_cases h0 : k = 0
  · subst h0
    rw [if_pos rfl]
    cases e1 : decide (0 ≤ n) <;> cases e2 : decide (n < 16) <;> cases e3 : ((len : Int) == 0)
    all_goals
      go_enter Try.func152, Try.ntmps152
      go_wp2
      go_ret
      exact ⟨rfl, HB.out⟩
  by_cases h1 : k = 1
  · subst h1
    rw [if_neg (by decide), if_pos rfl]
    cases e1 : (n == 0) <;> cases e2 : (n == 1) <;> cases e3 : ((len : Int) == 0)
    all_goals
      go_enter Try.func152, Try.ntmps152
      go_wp2
      go_ret
      exact ⟨rfl, HB.out⟩
  by_cases h2 : k = 2
  · subst h2
    rw [if_neg (by decide), if_neg (by decide), if_pos rfl]
    cases e1 : (n == 0) <;> cases e3 : ((len : Int) == 1)
    all_goals
      go_enter Try.func152, Try.ntmps152
      go_wp2
      go_ret
      exact ⟨rfl, HB.out⟩
  by_cases h3 : k = 3 ∨ k = 4 ∨ k = 5
  · rw [if_neg h0, if_neg h1, if_neg h2, if_pos h3]
    cases e1 : (n == 0) <;> cases e3 : ((len : Int) == 2)
    all_goals
      rcases h3 with rfl | rfl | rfl
      all_goals
        go_enter Try.func152, Try.ntmps152
        go_wp2
        go_ret
        exact ⟨rfl, HB.out⟩
  · rw [if_neg h0, if_neg h1, if_neg h2, if_neg h3]
    have d0 : (k == 0) = false := beq_eq_false_iff_ne.2 h0
    have d1 : (k == 1) = false := beq_eq_false_iff_ne.2 h1
    have d2 : (k == 2) = false := beq_eq_false_iff_ne.2 h2
    have d3 : (k == 3) = false := beq_eq_false_iff_ne.2 (fun e => h3 (.inl e))
    have d4 : (k == 4) = false := beq_eq_false_iff_ne.2 (fun e => h3 (.inr (.inl e)))
    have d5 : (k == 5) = false := beq_eq_false_iff_ne.2 (fun e => h3 (.inr (.inr e)))
    clear h0 h1 h2 h3
    go_enter Try.func152, Try.ntmps152
    go_wp2
    go_ret
    exact ⟨rfl, HB.out⟩
end Go.Proofs.Ytpfbommaddaijaa

namespace Go.Proofs.Ytpfbommaddaijaa
open Go.RowKit Go.Proofs.YtpfbommaddaijaaW.PrintWords Go.Proofs.YtpfbommaddaijaaW.PrintLast PBoundTo
set_option linter.unusedVariables false
set_option linter.unusedSimpArgs false

mutual
def cv : S32 → PCopy.S32
  | ⟨a, b, c, d, kids⟩ => ⟨a, b, c, d, cvL kids⟩
def cvL : List S32 → List PCopy.S32
  | [] => []
  | x :: r => cv x :: cvL r
end
theorem cv_f0 (x : S32) : (cv x).f0 = x.f0 := by cases x; rw [cv]
theorem cv_f1 (x : S32) : (cv x).f1 = x.f1 := by cases x; rw [cv]
theorem cv_f2 (x : S32) : (cv x).f2 = x.f2 := by cases x; rw [cv]
theorem cv_f3 (x : S32) : (cv x).f3 = x.f3 := by cases x; rw [cv]
theorem cv_f4 (x : S32) : (cv x).f4 = cvL x.f4 := by cases x; rw [cv]
theorem cvL_len : ∀ l : List S32, (cvL l).length = l.length
  | [] => by rw [cvL]; rfl
  | x :: r => by rw [cvL, List.length_cons, List.length_cons, cvL_len r]
theorem cvL_get : ∀ (l : List S32) (j : Nat), (cvL l)[j]? = (l[j]?).map cv
  | [], j => by rw [cvL]; simp
  | x :: r, 0 => by rw [cvL]; simp
  | x :: r, j + 1 => by rw [cvL]; simpa using cvL_get r j
theorem hg_mem : ∀ {l : List S32} {j : Nat} {p : S32}, l[j]? = some p → 1 + hg p ≤ hgL l
  | x :: r, 0, p, h => by simp at h; subst h; rw [hgL_cons]; omega
  | x :: r, j + 1, p, h => by have := hg_mem (l := r) (j := j) (p := p) (by simpa using h); rw [hgL_cons]; omega
/-- and back -/
theorem vc_C : ∀ (m : Nat) {l : List S32} {w : World} {A : Option Addr}, hgL l ≤ m → PCopy.k32.C w A (cvL l).length (cvL l) → k32.C w A l.length l := by
  intro m
  induction m with
  | zero =>
    intro l w A hm h
    cases l with
    | nil => exact ⟨rfl, by simp, fun h => absurd h (by simp)⟩
    | cons x r => rw [hgL_cons] at hm; omega
  | succ m ih =>
    intro l w A hm h
    have h21 := h.2.1
    rw [cvL_len] at h21
    refine ⟨rfl, h21, fun hn => ?_⟩
    obtain ⟨ad, e, hc⟩ := h.2.2 (by rw [cvL_len]; exact hn)
    refine ⟨ad, e, fun j p hp => ?_⟩
    obtain ⟨c, h1, h2, h3⟩ := hc j (cv p) (by rw [cvL_get, hp]; rfl)
    obtain ⟨A3, c3, A4, c4, hcs, l3, g3, l4, g4⟩ := PCopy.k32_open h2
    rw [cv_f3] at l3 g3
    rw [cv_f4] at l4 g4
    rw [cv_f0, cv_f1, cv_f2, cv_f3, cv_f4] at hcs
    have hmem := hg_mem hp
    have hk := ih (l := p.f4) (w := w) (A := A4) (by rw [← hg_eq]; omega) g4
    refine ⟨c, h1, ?_, h3⟩
    rw [hcs, cvL_len]
    rw [cvL_len] at l4
    exact k32_mk w p l3 g3 l4 hk
/-- what Copy answers -/
def CR (W : World) (x : S32) (e : Ending) (w' : World) : Prop := ∃ A3 c3 A4 c4, e = .returned (.agg #[.bool x.f0, I x.f1, I x.f2, .slice A3 x.f3.length c3, .slice A4 x.f4.length c4]) ∧ x.f3.length ≤ c3 ∧ Kd.C Kd.bool w' A3 x.f3.length x.f3 ∧ x.f4.length ≤ c4 ∧ Kd.C k32 w' A4 x.f4.length x.f4 ∧ (∃ ok, PCopy.k32.R 32 w' W.heap.size ok (.slice A4 x.f4.length c4) (cvL x.f4)) ∧ Below W.heap.size W w'
end Go.Proofs.Ytpfbommaddaijaa

namespace Go.Proofs.Ytpfbommaddaijaa
open Go.RowKit Go.Proofs.YtpfbommaddaijaaW.PrintWords Go.Proofs.YtpfbommaddaijaaW.PrintLast PBoundTo
set_option linter.unusedVariables false
set_option linter.unusedSimpArgs false

abbrev KP (a : Addr) (s m : Int) : Value := .agg #[.pointer (some a), I s, I m]
/-- the address lies in a plain block -/
def Pl (w : World) (a : Addr) : Prop := ∃ cs t, w.heap[a.block]? = some (.cells cs t (0, 0))
/-- one entry of the map of depths -/
structure De where
  a : Addr
  s : Int
  m : Int
  d : Int
/-- the entries, as the map holds them -/
inductive Ents : List De → List MapEntry → Prop
  | nil : Ents [] []
  | cons {x : De} {xs : List De} {es : List MapEntry} {c : Nat} : Ents xs es → Ents (x :: xs) ({ key := KP x.a x.s x.m, val := I x.d, born := c } :: es)
end Go.Proofs.Ytpfbommaddaijaa

namespace Go.Proofs.Ytpfbommaddaijaa
open Go.RowKit Go.Proofs.YtpfbommaddaijaaW.PrintWords Go.Proofs.YtpfbommaddaijaaW.PrintLast PBoundTo
set_option linter.unusedVariables false
set_option linter.unusedSimpArgs false

/-- the map of depths in memory -/
def Dm (w : World) (b : Nat) (xs : List De) : Prop := ∃ es clock, w.heap[b]? = some (.map es clock) ∧ Ents xs es.toList ∧ ∀ x ∈ xs, Pl w x.a
theorem Pl.keep {w w' : World} {a : Addr} {b : Nat} (h : Pl w a) (hk : ∀ k, k ≠ b → w'.heap[k]? = w.heap[k]?) (hne : a.block ≠ b) : Pl w' a := by
  obtain ⟨cs, t, h⟩ := h
  exact ⟨cs, t, (hk _ hne).trans h⟩
theorem Ents.push {xs : List De} {es : List MapEntry} (h : Ents xs es) (x : De) (c : Nat) : Ents (xs ++ [x]) (es ++ [{ key := KP x.a x.s x.m, val := I x.d, born := c }]) := by
  induction h with
  | nil => exact .cons .nil
  | cons _ ih => exact .cons ih
end Go.Proofs.Ytpfbommaddaijaa

namespace Go.Proofs.Ytpfbommaddaijaa
open Go.RowKit Go.Maps Go.Proofs.YtpfbommaddaijaaW.PrintWords Go.Proofs.YtpfbommaddaijaaW.PrintLast PBoundTo
set_option linter.unusedVariables false
set_option linter.unusedSimpArgs false

theorem u171 : Try.prog.underlying 171 = some (.map 3 3) := by kernel_rfl
def Ime (c : Nat) : List (Int × Int) → List MapEntry
  | [] => []
  | p :: r => { key := I p.1, val := I p.2, born := c } :: Ime (c + 1) r
/-- a small map in memory: pairs of numbers in the order of their coming -/
def Im (w : World) (b : Nat) (l : List (Int × Int)) : Prop := w.heap[b]? = some (.map (Ime 0 l).toArray l.length)
def imGet (k : Int) : List (Int × Int) → Option Int
  | [] => none
  | p :: r => if k = p.1 then some p.2 else imGet k r
theorem ime_push : ∀ (l : List (Int × Int)) (c : Nat) (a d : Int), Ime c (l ++ [(a, d)]) = Ime c l ++ [{ key := I a, val := I d, born := c + l.length }]
  | [], c, a, d => by simp [Ime]
  | p :: r, c, a, d => by
    rw [List.cons_append, Ime, Ime, ime_push r (c + 1) a d, List.cons_append]
    simp only [List.length_cons]
    rw [show c + 1 + r.length = c + (r.length + 1) by omega]
theorem im_find (k : Int) : ∀ (l : List (Int × Int)) (c i : Nat), ∃ o, Go.Instr.findNow (.int .i64) (I k) (Ime c l) i = some o ∧ o.map (·.2) = (imGet k l).map I
  | [], c, i => ⟨none, by simp [Ime, Go.Instr.findNow], by simp [imGet]⟩
  | p :: r, c, i => by
    obtain ⟨o, h1, h2⟩ := im_find k r (c + 1) (i + 1)
    by_cases e : k = p.1
    · exact ⟨some (i, I p.2), by simp [Ime, Go.Instr.findNow, Go.Instr.sameNow, e], by simp [imGet, e]⟩
    · have e' : (k == p.1) = false := beq_eq_false_iff_ne.2 e
      exact ⟨o, by simp [Ime, Go.Instr.findNow, Go.Instr.sameNow, e', h1], by rw [imGet, if_neg e]; exact h2⟩
theorem im_key {w : World} {b : Nat} {l : List (Int × Int)} (k : Int) : ∃ o, (Go.Instr.findKey 3 (I k) (Ime 0 l)).run Try.prog w = .ok o w ∧ o.map (·.2) = (imGet k l).map I := by
  obtain ⟨o, h1, h2⟩ := im_find k l 0 0
  exact ⟨o, MapKept.run_findKey Try.underlying3 h1, h2⟩
theorem im_check {w : World} (em : Bool) (k : Int) : (Go.Instr.checkKey em 10000 3 (I k)).run Try.prog w = .ok () w := MapKept.run_checkKey Try.underlying3 (by simp [MapKept.IsKey]) em 9999
theorem im_look {w : World} {b : Nat} {l : List (Int × Int)} (h : Im w b l) (k : Int) : (Go.Instr.lookup 171 (.map (some b)) (I k) false).run Try.prog w = .ok (I ((imGet k l).getD 0)) w := by
  obtain ⟨o, h1, h2⟩ := im_key (w := w) (b := b) (l := l) k
  have hc := im_check (w := w) (Ime 0 l).toArray.isEmpty k
  have h3 : (Try.prog.info? 3).bind (·.zero) = some (I 0) := by kernel_rfl
  obtain ⟨j, hj, hjz⟩ := Option.bind_eq_some_iff.1 h3
  have hz : (zeroValue 3).run Try.prog w = .ok (I 0) w := by simp [zeroValue, typeInfo, hj, hjz, Result.andThen]
  unfold Im at h
  cases o with
  | none =>
    have e : imGet k l = none := by cases hg : imGet k l with
      | none => rfl
      | some v => rw [hg] at h2; simp at h2
    rw [e]
    simp at hc
    simp [Go.Instr.lookup, run_underlying u171, MapKept.run_getObj_map h, hc, h1, hz, Result.andThen]
  | some p =>
    obtain ⟨v, e, hv⟩ : ∃ v, imGet k l = some v ∧ p.2 = I v := by cases hg : imGet k l with
      | none => rw [hg] at h2; simp at h2
      | some v => rw [hg] at h2; exact ⟨v, rfl, by simpa using h2⟩
    rw [e]
    simp at hc
    simp [Go.Instr.lookup, run_underlying u171, MapKept.run_getObj_map h, hc, h1, hv, Result.andThen]
theorem im_put {w : World} {b : Nat} {l : List (Int × Int)} (h : Im w b l) (k d : Int) (hno : imGet k l = none) : ∃ w', (Go.Instr.mapUpdate 171 (.map (some b)) (I k) (I d)).run Try.prog w = .ok () w' ∧ Im w' b (l ++ [(k, d)]) ∧ w.grownBy w' (some b) := by
  obtain ⟨o, h1, h2⟩ := im_key (w := w) (b := b) (l := l) k
  have hc := im_check (w := w) false k
  rw [hno] at h2
  obtain rfl : o = none := by cases o with
    | none => rfl
    | some p => simp at h2
  unfold Im at h
  have hlt : b < w.heap.size := (Array.getElem?_eq_some_iff.1 h).1
  refine ⟨{ w with heap := w.heap.setIfInBounds b (.map ((Ime 0 l).toArray.push ⟨I k, I d, l.length⟩) (l.length + 1)) }, ?_, ?_, ?_⟩
  · simp [Go.Instr.mapUpdate, run_underlying u171, MapKept.run_getObj_map h, hc, h1, MapKept.run_setObj_map _ h, Result.andThen]
  · unfold Im
    rw [ime_push, List.length_append]
    simp [Array.getElem?_setIfInBounds, hlt]
  · refine ⟨rfl, rfl, rfl, by simp, fun k hk hr => ?_⟩
    have hkb : b ≠ k := fun e => hr (by rw [e])
    simp [Array.getElem?_setIfInBounds, hkb]
theorem wpList_im_look {w : World} {ops : Array Oper} {rest : List Oper} {o : Oper} {a : Act} {Q : Exit → Act → World → Prop}
    (hg : o.guard = none) (m x : Operand) (hop : o.op = Op.lookup 171 m x false) {b : Nat} {l : List (Int × Int)} (hm : a.eval m = .map (some b)) (hs : Im w b l) {k : Int} (hx : a.eval x = I k) {v : Int} (hv : (imGet k l).getD 0 = v)
    (hK : wpList Try.prog ops Q rest (a.put o.dst (I v)) w) : wpList Try.prog ops Q (o :: rest) a w := by
  refine wpList_plain hg fun K' hK' => ?_
  have hrun := im_look hs k
  rw [hv] at hrun
  unfold Oper.wp
  simp [execOp, hop, hm, hx, hrun, Result.andThen]
  exact hK' _ _ hK
theorem wpList_im_put {w : World} {ops : Array Oper} {rest : List Oper} {o : Oper} {a : Act} {Q : Exit → Act → World → Prop}
    (hg : o.guard = none) (m x v : Operand) (hop : o.op = Op.insert 171 m x v) {b : Nat} {l : List (Int × Int)} (hm : a.eval m = .map (some b)) (hs : Im w b l) {k d : Int} (hx : a.eval x = I k) (hv : a.eval v = I d) (hno : imGet k l = none)
    (hK : ∀ w', Im w' b (l ++ [(k, d)]) → w.grownBy w' (some b) → wpList Try.prog ops Q rest (a.put o.dst undef) w') : wpList Try.prog ops Q (o :: rest) a w := by
  refine wpList_plain hg fun K' hK' => ?_
  obtain ⟨w', hrun, r1, r2⟩ := im_put hs k d hno
  unfold Oper.wp
  simp [execOp, hop, hm, hx, hv, hrun, Result.andThen]
  exact hK' _ _ (hK w' r1 r2)
theorem im_cost (k : Int) : (imGet k [(3, 1), (4, 1), (5, 2)]).getD 0 = (cost k : Int) := by
  unfold cost
  by_cases h3 : k = 3
  · subst h3; rfl
  by_cases h4 : k = 4
  · subst h4; rfl
  by_cases h5 : k = 5
  · subst h5; rfl
  · rw [if_neg (by omega), if_neg h5]; simp [imGet, h3, h4, h5]
end Go.Proofs.Ytpfbommaddaijaa

namespace Go.Proofs.Ytpfbommaddaijaa
open Go.RowKit Go.Maps Go.Proofs.YtpfbommaddaijaaW.PrintWords Go.Proofs.YtpfbommaddaijaaW.PrintLast PBoundTo
set_option linter.unusedVariables false
set_option linter.unusedSimpArgs false

/-- the walk ends well -/
def wok (N L : Nat) (x : S24) : Bool := fsh x && decide (N + fnd x ≤ 20000) && decide (L + fns x ≤ 1001)
theorem wok_true {N L : Nat} {x : S24} : wok N L x = true ↔ fsh x = true ∧ N + fnd x ≤ 20000 ∧ L + fns x ≤ 1001 := by simp [wok, and_assoc]
theorem fnd_pos (x : S24) : 1 ≤ fnd x := by rw [fnd_eq]; omega
theorem fns_pos (x : S24) : 1 ≤ fns x := by rw [fns_eq]; omega
/-- what walk answers -/
def WkR (W : World) (gn N S L : Nat) (D In Ne : Int) (x : S24) (e : Ending) (W' : World) : Prop := ∃ (d N' S' : Nat) (In' : Int), e = .returned (.tuple #[I (d : Int), .bool (wok N L x)]) ∧ W.grownBy W' (some gn) ∧ W'.heap[gn]? = some (.cells #[I N', I S', I D, I In', I Ne] 149 (0, 0)) ∧ 0 ≤ In' ∧ (wok N L x = true → d = fdp x ∧ N' = N + fnd x ∧ S' = S + fsz x ∧ In' = max In (fin x))
/-- what a round keeps: after some kids -/
structure Wi (x : S24) (N S L : Nat) (In : Int) (i d Ni Si : Nat) (Ini : Int) : Prop where
  nd : Ni + fndL (x.f2.drop i) = N + fnd x
  sz : Si + fszL (x.f2.drop i) = S + fsz x
  sh : fsh x = fshL (x.f2.drop i)
  ns : L + fns x ≤ 1001 ↔ L + 1 + fnsL (x.f2.drop i) ≤ 1001
  dp : max d (fdpL (x.f2.drop i)) = fdpL x.f2
  inp : max Ini (finL (x.f2.drop i)) = max In (finL x.f2)
  hN : Ni ≤ 20000
  hS : Si ≤ Ni
  hI : 0 ≤ Ini
  hd : d ≤ 4000
theorem Wi.step {x : S24} {N S L : Nat} {In : Int} {i d Ni Si : Nat} {Ini : Int} (h : Wi x N S L In i d Ni Si Ini) (hi : i < x.f2.length) {d' N' S' : Nat} {In' : Int} (hok : wok Ni (L + 1) (rd_T24 x.f2 i) = true) (h1 : d' = fdp (rd_T24 x.f2 i) ∧ N' = Ni + fnd (rd_T24 x.f2 i) ∧ S' = Si + fsz (rd_T24 x.f2 i) ∧ In' = max Ini (fin (rd_T24 x.f2 i))) (hdl : fdp (rd_T24 x.f2 i) ≤ 4000) (hsl : fsz (rd_T24 x.f2 i) ≤ fnd (rd_T24 x.f2 i)) : Wi x N S L In (i + 1) (max d d') N' S' In' := by
  obtain ⟨k1, k2, k3, k4, k5, k6, k7, k8, k9, k10⟩ := h
  obtain ⟨w1, w2, w3⟩ := wok_true.1 hok
  obtain ⟨rfl, rfl, rfl, rfl⟩ := h1
  rw [fdrop _ _ hi] at k1 k2 k3 k4 k5 k6
  obtain ⟨c1, c2, c3, c4, c5, c6⟩ := fL_cons (rd_T24 x.f2 i) (x.f2.drop (i + 1))
  rw [c1] at k1
  rw [c3] at k2
  rw [c6, w1, Bool.true_and] at k3
  rw [c2] at k4
  rw [c4] at k5
  rw [c5] at k6
  exact ⟨by omega, by omega, k3, by rw [k4]; omega, by omega, by omega, w2, by omega, by omega, by omega⟩
theorem Wi.bad {x : S24} {N S L : Nat} {In : Int} {i d Ni Si : Nat} {Ini : Int} (h : Wi x N S L In i d Ni Si Ini) (hi : i < x.f2.length) (hno : wok Ni (L + 1) (rd_T24 x.f2 i) = false) : wok N L x = false := by
  obtain ⟨k1, k2, k3, k4, k5, k6, k7, k8, k9, k10⟩ := h
  rw [fdrop _ _ hi] at k1 k3 k4
  obtain ⟨c1, c2, c3, c4, c5, c6⟩ := fL_cons (rd_T24 x.f2 i) (x.f2.drop (i + 1))
  rw [c1] at k1
  rw [c6] at k3
  rw [c2] at k4
  cases e : wok N L x with
  | false => rfl
  | true =>
    obtain ⟨w1, w2, w3⟩ := wok_true.1 e
    rw [w1] at k3
    have k3' := k3.symm
    rw [Bool.and_eq_true] at k3'
    have := wok_true.2 ⟨k3'.1, show Ni + fnd (rd_T24 x.f2 i) ≤ 20000 by omega, show L + 1 + fns (rd_T24 x.f2 i) ≤ 1001 by have := k4.1 w3; omega⟩
    rw [hno] at this
    cases this
theorem Wi.last {x : S24} {N S L : Nat} {In : Int} {d Ni Si : Nat} {Ini : Int} (h : Wi x N S L In x.f2.length d Ni Si Ini) (hk : ¬ x.f0 = 0) (hL : L ≤ 1000) (hlen : 0 < x.f2.length) (hfin : 0 ≤ finL x.f2) : wok N L x = true ∧ d + cost x.f0 = fdp x ∧ Ni = N + fnd x ∧ Si = S + fsz x ∧ Ini = max In (fin x) := by
  obtain ⟨k1, k2, k3, k4, k5, k6, k7, k8, k9, k10⟩ := h
  rw [List.drop_length] at *
  obtain ⟨c1, c2, c3, c4, c5⟩ := fL_nil
  rw [c1] at k1
  rw [c3] at k2
  rw [c5] at k3
  rw [c2] at k4
  rw [c4] at k5
  rw [show finL [] = -9223372036854775808 by rw [finL]] at k6
  refine ⟨wok_true.2 ⟨k3, by omega, k4.2 (by omega)⟩, ?_, by omega, by omega, ?_⟩
  · rw [fdp_eq]; omega
  · rw [fin_eq, if_neg hk]; omega
theorem cost_le (k : Int) : cost k ≤ 2 := by unfold cost; split; omega; split <;> omega
theorem fdp_le (x : S24) : fdp x ≤ 2 * fns x := by
  have key : ∀ (m : Nat) (x : S24), fns x ≤ m → fdp x ≤ 2 * fns x := by
    intro m
    induction m with
    | zero => intro x h; have := fns_pos x; omega
    | succ m ih =>
      intro x h
      rw [fns_eq] at h
      rw [fdp_eq, fns_eq]
      have hc := cost_le x.f0
      have hl : ∀ l : List S24, fnsL l ≤ m → fdpL l ≤ 2 * fnsL l := by
        intro l
        induction l with
        | nil => intro _; rw [fL_nil.2.2.2.1]; omega
        | cons y r ihl =>
          intro h
          obtain ⟨c1, c2, c3, c4, c5, c6⟩ := fL_cons y r
          rw [c2] at h
          rw [c4, c2]
          have := ih y (by omega)
          have := ihl (by omega)
          omega
      have := hl x.f2 (by omega)
      omega
  exact key _ x (Nat.le_refl _)
mutual
theorem fsz_le : ∀ x : S24, fsz x ≤ fnd x ∧ 1 ≤ fsz x
  | ⟨k, n, []⟩ => by rw [fsz, fnd]; omega
  | ⟨k, n, y :: r⟩ => by
    have h := fszL_le r
    have hy := fsz_le y
    rw [fsz, fnd, fndL]; omega
theorem fszL_le : ∀ l : List S24, fszL l ≤ fndL l
  | [] => by rw [fszL, fndL]; omega
  | y :: r => by
    have h := fszL_le r
    have hy := fsz_le y
    rw [fszL, fndL]; omega
end
mutual
theorem fin_nn : ∀ x : S24, 0 ≤ fin x ∨ (x.f0 = 0 ∧ x.f1 < -1)
  | ⟨k, n, kids⟩ => by
    rw [fin]
    by_cases h : k = 0
    · rw [if_pos h]
      by_cases hn : n < -1
      · exact .inr ⟨h, hn⟩
      · left; omega
    · rw [if_neg h]; left; omega
end
theorem finL_nn (l : List S24) (h : 0 < l.length) (hs : fshL l = true) : 0 ≤ finL l := by
  cases l with
  | nil => exact absurd h (by simp)
  | cons y r =>
    obtain ⟨c1, c2, c3, c4, c5, c6⟩ := fL_cons y r
    rw [c6, Bool.and_eq_true] at hs
    rw [c5]
    rcases fin_nn y with h1 | ⟨h1, h2⟩
    · omega
    · have := hs.1
      rw [fsh_eq, h1] at this
      simp [nok] at this
      omega
end Go.Proofs.Ytpfbommaddaijaa

