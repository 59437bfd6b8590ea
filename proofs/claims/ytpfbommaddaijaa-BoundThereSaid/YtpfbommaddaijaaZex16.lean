/- A protocol copied: the copy's own words, and ours; Keys that hold a pointer: when two are the same; Look-up and update in a map whose keys hold a pointer: run laws and steps of a walk. -/
import Derived.Test.YtpfbommaddaijaaZePa
import Derived.Test.YtpfbommaddaijaaZex15
import Derived.LaidEqlPtr
import Derived.MapKept
namespace Go.Proofs.Ytpfbommaddaijaa
open Go.RowKit Go.Proofs.YtpfbommaddaijaaW.PrintWords Go.Proofs.YtpfbommaddaijaaW.PrintLast PBoundTo
set_option linter.unusedVariables false
set_option linter.unusedSimpArgs false

mutual
def cv : S32 → PCopy.S32
  | ⟨a, b, c, d, kids⟩ => ⟨a, b, c, d, cvL kids⟩
def cvL : List S32 → List PCopy.S32
  | [] => []
  | x :: r => cv x :: cvL r
end
theorem cv_f0 (x : S32) : (cv x).f0 = x.f0 := by cases x; rw [cv]
theorem cv_f1 (x : S32) : (cv x).f1 = x.f1 := by cases x; rw [cv]
theorem cv_f2 (x : S32) : (cv x).f2 = x.f2 := by cases x; rw [cv]
theorem cv_f3 (x : S32) : (cv x).f3 = x.f3 := by cases x; rw [cv]
theorem cv_f4 (x : S32) : (cv x).f4 = cvL x.f4 := by cases x; rw [cv]
theorem cvL_len : ∀ l : List S32, (cvL l).length = l.length
  | [] => by rw [cvL]; rfl
  | x :: r => by rw [cvL, List.length_cons, List.length_cons, cvL_len r]
theorem cvL_get : ∀ (l : List S32) (j : Nat), (cvL l)[j]? = (l[j]?).map cv
  | [], j => by rw [cvL]; simp
  | x :: r, 0 => by rw [cvL]; simp
  | x :: r, j + 1 => by rw [cvL]; simpa using cvL_get r j
theorem cvL_rd (l : List S32) (i : Nat) (h : i < l.length) : PCopy.rd_T32 (cvL l) (i : Int) = cv (rd_T32 l (i : Int)) := by
  have h1 := cvL_get l i
  simp only [PCopy.rd_T32, rd_T32, Int.toNat_natCast, List.getD_eq_getElem?_getD, h1]
  rw [List.getElem?_eq_getElem h]
  rfl
theorem hg_mem : ∀ {l : List S32} {j : Nat} {p : S32}, l[j]? = some p → 1 + hg p ≤ hgL l
  | x :: r, 0, p, h => by simp at h; subst h; rw [hgL_cons]; omega
  | x :: r, j + 1, p, h => by have := hg_mem (l := r) (j := j) (p := p) (by simpa using h); rw [hgL_cons]; omega
/-- and back -/
theorem vc_C : ∀ (m : Nat) {l : List S32} {w : World} {A : Option Addr}, hgL l ≤ m → PCopy.k32.C w A (cvL l).length (cvL l) → k32.C w A l.length l := by
  intro m
  induction m with
  | zero =>
    intro l w A hm h
    cases l with
    | nil => exact ⟨rfl, by simp, fun h => absurd h (by simp)⟩
    | cons x r => rw [hgL_cons] at hm; omega
  | succ m ih =>
    intro l w A hm h
    have h21 := h.2.1
    rw [cvL_len] at h21
    refine ⟨rfl, h21, fun hn => ?_⟩
    obtain ⟨ad, e, hc⟩ := h.2.2 (by rw [cvL_len]; exact hn)
    refine ⟨ad, e, fun j p hp => ?_⟩
    obtain ⟨c, h1, h2, h3⟩ := hc j (cv p) (by rw [cvL_get, hp]; rfl)
    obtain ⟨A3, c3, A4, c4, hcs, l3, g3, l4, g4⟩ := PCopy.k32_open h2
    rw [cv_f3] at l3 g3
    rw [cv_f4] at l4 g4
    rw [cv_f0, cv_f1, cv_f2, cv_f3, cv_f4] at hcs
    have hmem := hg_mem hp
    have hk := ih (l := p.f4) (w := w) (A := A4) (by rw [← hg_eq]; omega) g4
    refine ⟨c, h1, ?_, h3⟩
    rw [hcs, cvL_len]
    rw [cvL_len] at l4
    exact k32_mk w p l3 g3 l4 hk
/-- what Copy answers -/
def CR (W : World) (x : S32) (e : Ending) (w' : World) : Prop := ∃ A3 c3 A4 c4, e = .returned (.agg #[.bool x.f0, I x.f1, I x.f2, .slice A3 x.f3.length c3, .slice A4 x.f4.length c4]) ∧ x.f3.length ≤ c3 ∧ Kd.C Kd.bool w' A3 x.f3.length x.f3 ∧ x.f4.length ≤ c4 ∧ Kd.C k32 w' A4 x.f4.length x.f4 ∧ (∃ ok, PCopy.k32.R 32 w' W.heap.size ok (.slice A4 x.f4.length c4) (cvL x.f4)) ∧ Below W.heap.size W w'
end Go.Proofs.Ytpfbommaddaijaa

namespace Go.Proofs.Ytpfbommaddaijaa
open Go.RowKit Go.Proofs.YtpfbommaddaijaaW.PrintWords Go.Proofs.YtpfbommaddaijaaW.PrintLast PBoundTo
set_option linter.unusedVariables false
set_option linter.unusedSimpArgs false

abbrev KP (a : Addr) (s m : Int) : Value := .agg #[.pointer (some a), I s, I m]
/-- the address lies in a plain block -/
def Pl (w : World) (a : Addr) : Prop := ∃ cs t, w.heap[a.block]? = some (.cells cs t (0, 0))
theorem ptr_eq {w : World} {a b : Addr} (ha : Pl w a) (hb : Pl w b) (d : Nat) : (Op.equalIn (d + 1) 155 (.pointer (some a)) (.pointer (some b))).run Try.prog w = .ok (decide (a = b)) w := by
  obtain ⟨ca, ta, ha⟩ := ha
  obtain ⟨cb, tb, hb⟩ := hb
  have h5 : (Try.prog.info? 32).map (·.size) = some 5 := by kernel_rfl
  obtain ⟨j, hte, hj⟩ := Option.map_eq_some_iff.1 h5
  have hsz : j.size ≠ 0 := by rw [hj]; decide
  by_cases e : a = b
  · subst e
    rw [decide_eq_true rfl]
    simp [Op.equalIn, run_underlying Try.underlying155, sizeOf, typeInfo, hte, run_sameAddr_same]
  · rw [decide_eq_false e]
    simp [Op.equalIn, run_underlying Try.underlying155, sizeOf, typeInfo, hte, hsz, run_sameAddr_other w e ha hb]
theorem int_eq {w : World} (s s' : Int) (d : Nat) : (Op.equalIn (d + 1) 3 (I s) (I s')).run Try.prog w = .ok (s == s') w := by
  simp [Op.equalIn, run_underlying Try.underlying3]
theorem key_eq {w : World} {a b : Addr} (ha : Pl w a) (hb : Pl w b) (s m s' m' : Int) (d : Nat) (hst : Try.prog.stoodInHeld 157 = false) : (Op.equalIn (d + 2) 157 (KP a s m) (KP b s' m')).run Try.prog w = .ok (decide (a = b) && s == s' && m == m') w := by
  have h1 := ptr_eq ha hb d
  have h2 := int_eq (w := w) s s' d
  have h3 := int_eq (w := w) m m' d
  unfold Op.equalIn
  simp [run_underlying Try.underlying157, hst, part, sizeOf, typeInfo]
  rw [h1]
  cases e1 : decide (a = b) <;> cases e2 : (s == s') <;> cases e3 : (m == m') <;> (try rw [e2] at h2) <;> (try rw [e3] at h3) <;> simp [Result.andThen, h2, h3]
/-- one entry of the map of depths -/
structure De where
  a : Addr
  s : Int
  m : Int
  d : Int
def De.hit (a : Addr) (s m : Int) (x : De) : Bool := decide (a = x.a) && s == x.s && m == x.m
/-- the entries, as the map holds them -/
inductive Ents : List De → List MapEntry → Prop
  | nil : Ents [] []
  | cons {x : De} {xs : List De} {es : List MapEntry} {c : Nat} : Ents xs es → Ents (x :: xs) ({ key := KP x.a x.s x.m, val := I x.d, born := c } :: es)
/-- the first that hits -/
def lookD (a : Addr) (s m : Int) : List De → Nat → Option (Nat × De)
  | [], _ => none
  | x :: r, i => if x.hit a s m = true then some (i, x) else lookD a s m r (i + 1)
theorem find_run {w : World} {a : Addr} {s m : Int} (ha : Pl w a) (hst : Try.prog.stoodInHeld 157 = false) {xs : List De} {es : List MapEntry} (h : Ents xs es) : (∀ x ∈ xs, Pl w x.a) → ∀ i, (Go.Instr.findAsking 157 (KP a s m) es i).run Try.prog w = .ok ((lookD a s m xs i).map fun p => (p.1, I p.2.d)) w := by
  induction h with
  | nil => intro _ i; simp [Go.Instr.findAsking, lookD]
  | @cons x xs es c h ih =>
    intro hp i
    have hk := key_eq (w := w) ha (hp x (by simp)) s m x.s x.m 9998 hst
    have hr := ih (fun y hy => hp y (by simp [hy])) (i + 1)
    unfold Go.Instr.findAsking
    rw [lookD]
    have he : (Op.equal 157 (KP a s m) (KP x.a x.s x.m)).run Try.prog w = .ok (x.hit a s m) w := hk
    cases e : x.hit a s m with
    | true => rw [e] at he; simp [he, Result.andThen]
    | false => rw [e] at he; simp [he, hr, Result.andThen]
end Go.Proofs.Ytpfbommaddaijaa

namespace Go.Proofs.Ytpfbommaddaijaa
open Go.RowKit Go.Proofs.YtpfbommaddaijaaW.PrintWords Go.Proofs.YtpfbommaddaijaaW.PrintLast PBoundTo
set_option linter.unusedVariables false
set_option linter.unusedSimpArgs false

theorem u115 : Try.prog.underlying 115 = some (.map 157 3) := by kernel_rfl
theorem held157 : Try.prog.stoodInHeld 157 = false := by kernel_rfl
theorem check_key {w : World} (em : Bool) (a : Addr) (s m : Int) (d : Nat) : (Go.Instr.checkKey em (d + 2) 157 (KP a s m)).run Try.prog w = .ok () w := by
  unfold Go.Instr.checkKey
  simp [run_underlying Try.underlying157, part, sizeOf, typeInfo, Go.Instr.checkKey, run_underlying Try.underlying155, run_underlying Try.underlying3, Result.andThen]
theorem findKey_run {w : World} {a : Addr} {s m : Int} (ha : Pl w a) {xs : List De} {es : List MapEntry} (h : Ents xs es) (hp : ∀ x ∈ xs, Pl w x.a) : (Go.Instr.findKey 157 (KP a s m) es).run Try.prog w = .ok ((lookD a s m xs 0).map fun p => (p.1, I p.2.d)) w := by
  have hf := find_run (s := s) (m := m) ha held157 h hp 0
  cases h with
  | nil => simp [Go.Instr.findKey, run_underlying Try.underlying157, Go.Instr.findNow, lookD]
  | cons h => simp [Go.Instr.findKey, run_underlying Try.underlying157, Go.Instr.findNow, Go.Instr.sameNow, hf]
/-- the map of depths in memory -/
def Dm (w : World) (b : Nat) (xs : List De) : Prop := ∃ es clock, w.heap[b]? = some (.map es clock) ∧ Ents xs es.toList ∧ ∀ x ∈ xs, Pl w x.a
theorem look_run {w : World} {b : Nat} {xs : List De} (h : Dm w b xs) {a : Addr} (ha : Pl w a) (s m : Int) : (Go.Instr.lookup 115 (.map (some b)) (KP a s m) true).run Try.prog w = .ok (.tuple #[I (match lookD a s m xs 0 with | some p => p.2.d | none => 0), .bool (lookD a s m xs 0).isSome]) w := by
  obtain ⟨es, clock, hb, he, hp⟩ := h
  have hf := findKey_run (s := s) (m := m) ha he hp
  have hc := check_key (w := w) es.isEmpty a s m 9998
  have h3 : (Try.prog.info? 3).bind (·.zero) = some (I 0) := by kernel_rfl
  obtain ⟨j, hj, hjz⟩ := Option.bind_eq_some_iff.1 h3
  have hz : (zeroValue 3).run Try.prog w = .ok (I 0) w := by simp [zeroValue, typeInfo, hj, hjz, Result.andThen]
  cases e : lookD a s m xs 0 with
  | none => rw [e] at hf; simp [Go.Instr.lookup, run_underlying u115, MapKept.run_getObj_map hb, hc, hf, hz, Result.andThen]
  | some p => rw [e] at hf; simp [Go.Instr.lookup, run_underlying u115, MapKept.run_getObj_map hb, hc, hf, Result.andThen]
theorem Pl.keep {w w' : World} {a : Addr} {b : Nat} (h : Pl w a) (hk : ∀ k, k ≠ b → w'.heap[k]? = w.heap[k]?) (hne : a.block ≠ b) : Pl w' a := by
  obtain ⟨cs, t, h⟩ := h
  exact ⟨cs, t, (hk _ hne).trans h⟩
theorem Pl.ne_map {w : World} {a : Addr} {b : Nat} {es : Array MapEntry} {c : Nat} (h : Pl w a) (hb : w.heap[b]? = some (.map es c)) : a.block ≠ b := by
  obtain ⟨cs, t, h⟩ := h
  intro e
  rw [e, hb] at h
  cases h
theorem Ents.push {xs : List De} {es : List MapEntry} (h : Ents xs es) (x : De) (c : Nat) : Ents (xs ++ [x]) (es ++ [{ key := KP x.a x.s x.m, val := I x.d, born := c }]) := by
  induction h with
  | nil => exact .cons .nil
  | cons _ ih => exact .cons ih
theorem put_run {w : World} {b : Nat} {xs : List De} (h : Dm w b xs) {a : Addr} (ha : Pl w a) (s m d : Int) (hno : lookD a s m xs 0 = none) : ∃ w', (Go.Instr.mapUpdate 115 (.map (some b)) (KP a s m) (I d)).run Try.prog w = .ok () w' ∧ Dm w' b (xs ++ [⟨a, s, m, d⟩]) ∧ w.grownBy w' (some b) := by
  obtain ⟨es, clock, hb, he, hp⟩ := h
  have hf := findKey_run (s := s) (m := m) ha he hp
  have hc := check_key (w := w) false a s m 9998
  rw [hno] at hf
  have hne := ha.ne_map hb
  have hlt : b < w.heap.size := (Array.getElem?_eq_some_iff.1 hb).1
  refine ⟨{ w with heap := w.heap.setIfInBounds b (.map (es.push ⟨KP a s m, I d, clock⟩) (clock + 1)) }, ?_, ?_, ?_⟩
  · simp [Go.Instr.mapUpdate, run_underlying u115, MapKept.run_getObj_map hb, hc, hf, MapKept.run_setObj_map _ hb, Result.andThen]
  · have hk : ∀ k, k ≠ b → ({ w with heap := w.heap.setIfInBounds b (.map (es.push ⟨KP a s m, I d, clock⟩) (clock + 1)) }).heap[k]? = w.heap[k]? := fun k hk => by simp [Array.getElem?_setIfInBounds, Ne.symm hk]
    refine ⟨es.push ⟨KP a s m, I d, clock⟩, clock + 1, by simp [Array.getElem?_setIfInBounds, hlt], ?_, ?_⟩
    · rw [Array.toList_push]; exact he.push ⟨a, s, m, d⟩ clock
    · intro x hx
      rcases List.mem_append.1 hx with h | h
      · exact (hp x h).keep hk ((hp x h).ne_map hb)
      · obtain rfl : x = ⟨a, s, m, d⟩ := by simpa using h
        exact ha.keep hk hne
  · refine ⟨rfl, rfl, rfl, by simp, fun k hk hr => ?_⟩
    have hkb : b ≠ k := fun e => hr (by rw [e])
    simp [Array.getElem?_setIfInBounds, hkb]
theorem wpList_dm_look {w : World} {ops : Array Oper} {rest : List Oper} {o : Oper} {a : Act} {Q : Exit → Act → World → Prop}
    (hg : o.guard = none) (m x : Operand) (hop : o.op = Op.lookup 115 m x true) {b : Nat} {xs : List De} (hm : a.eval m = .map (some b)) (hs : Dm w b xs) {ad : Addr} {s t : Int} (hx : a.eval x = KP ad s t) (hp : Pl w ad) {v : Int} {r : Bool} (hv : (match lookD ad s t xs 0 with | some p => p.2.d | none => 0) = v) (hr : (lookD ad s t xs 0).isSome = r)
    (hK : wpList Try.prog ops Q rest (a.put o.dst (.tuple #[I v, .bool r])) w) : wpList Try.prog ops Q (o :: rest) a w := by
  refine wpList_plain hg fun K' hK' => ?_
  have hrun := look_run hs hp s t
  rw [hv, hr] at hrun
  unfold Oper.wp
  simp [execOp, hop, hm, hx, hrun, Result.andThen]
  exact hK' _ _ hK
theorem wpList_dm_put {w : World} {ops : Array Oper} {rest : List Oper} {o : Oper} {a : Act} {Q : Exit → Act → World → Prop}
    (hg : o.guard = none) (m x v : Operand) (hop : o.op = Op.mapUpdate 115 m x v) {b : Nat} {xs : List De} (hm : a.eval m = .map (some b)) (hs : Dm w b xs) {ad : Addr} {s t d : Int} (hx : a.eval x = KP ad s t) (hv : a.eval v = I d) (hp : Pl w ad) (hno : lookD ad s t xs 0 = none)
    (hK : ∀ w', Dm w' b (xs ++ [⟨ad, s, t, d⟩]) → w.grownBy w' (some b) → wpList Try.prog ops Q rest (a.put o.dst undef) w') : wpList Try.prog ops Q (o :: rest) a w := by
  refine wpList_plain hg fun K' hK' => ?_
  obtain ⟨w', hrun, r1, r2⟩ := put_run hs hp s t d hno
  unfold Oper.wp
  simp [execOp, hop, hm, hx, hv, hrun, Result.andThen]
  exact hK' _ _ (hK w' r1 r2)
end Go.Proofs.Ytpfbommaddaijaa

