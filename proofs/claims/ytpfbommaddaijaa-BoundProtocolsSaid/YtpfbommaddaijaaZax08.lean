/- A protocol copied: the copy's own words, and ours; Keys that hold a pointer: when two are the same. -/
import Derived.Test.YtpfbommaddaijaaZaPa
import Derived.Test.YtpfbommaddaijaaPCopyx1
import Derived.LaidEqlPtr
namespace Go.Proofs.Ytpfbommaddaijaa
open Go.RowKit Go.Proofs.YtpfbommaddaijaaW.PrintWords Go.Proofs.YtpfbommaddaijaaW.PrintLast PBoundTo
set_option linter.unusedVariables false
set_option linter.unusedSimpArgs false

mutual
def cv : S32 → PCopy.S32
  | ⟨a, b, c, d, kids⟩ => ⟨a, b, c, d, cvL kids⟩
def cvL : List S32 → List PCopy.S32
  | [] => []
  | x :: r => cv x :: cvL r
end
theorem cv_f0 (x : S32) : (cv x).f0 = x.f0 := by cases x; rw [cv]
theorem cv_f1 (x : S32) : (cv x).f1 = x.f1 := by cases x; rw [cv]
theorem cv_f2 (x : S32) : (cv x).f2 = x.f2 := by cases x; rw [cv]
theorem cv_f3 (x : S32) : (cv x).f3 = x.f3 := by cases x; rw [cv]
theorem cv_f4 (x : S32) : (cv x).f4 = cvL x.f4 := by cases x; rw [cv]
theorem cvL_len : ∀ l : List S32, (cvL l).length = l.length
  | [] => by rw [cvL]; rfl
  | x :: r => by rw [cvL, List.length_cons, List.length_cons, cvL_len r]
theorem cvL_get : ∀ (l : List S32) (j : Nat), (cvL l)[j]? = (l[j]?).map cv
  | [], j => by rw [cvL]; simp
  | x :: r, 0 => by rw [cvL]; simp
  | x :: r, j + 1 => by rw [cvL]; simpa using cvL_get r j
theorem cvL_rd (l : List S32) (i : Nat) (h : i < l.length) : PCopy.rd_T32 (cvL l) (i : Int) = cv (rd_T32 l (i : Int)) := by
  have h1 := cvL_get l i
  simp only [PCopy.rd_T32, rd_T32, Int.toNat_natCast, List.getD_eq_getElem?_getD, h1]
  rw [List.getElem?_eq_getElem h]
  rfl
theorem hg_mem : ∀ {l : List S32} {j : Nat} {p : S32}, l[j]? = some p → 1 + hg p ≤ hgL l
  | x :: r, 0, p, h => by simp at h; subst h; rw [hgL_cons]; omega
  | x :: r, j + 1, p, h => by have := hg_mem (l := r) (j := j) (p := p) (by simpa using h); rw [hgL_cons]; omega
/-- from our words to the copy's -/
theorem cv_C : ∀ (m : Nat) {l : List S32} {w : World} {A : Option Addr}, hgL l ≤ m → k32.C w A l.length l → PCopy.k32.C w A (cvL l).length (cvL l) := by
  intro m
  induction m with
  | zero =>
    intro l w A hm h
    cases l with
    | nil => rw [cvL]; exact ⟨rfl, by simp, fun h => absurd h (by simp)⟩
    | cons x r => rw [hgL_cons] at hm; omega
  | succ m ih =>
    intro l w A hm h
    refine ⟨rfl, by rw [cvL_len]; exact h.2.1, fun hn => ?_⟩
    rw [cvL_len] at hn
    obtain ⟨ad, e, hc⟩ := h.2.2 hn
    refine ⟨ad, e, fun j p' hj => ?_⟩
    rw [cvL_get] at hj
    obtain ⟨p, hp, rfl⟩ := Option.map_eq_some_iff.1 hj
    obtain ⟨c, h1, h2, h3⟩ := hc j p hp
    obtain ⟨A3, c3, A4, c4, hcs, l3, g3, l4, g4⟩ := k32_open h2
    have hmem := hg_mem hp
    have hk := ih (l := p.f4) (w := w) (A := A4) (by rw [← hg_eq]; omega) g4
    refine ⟨c, h1, ?_, h3⟩
    rw [hcs]
    have := PCopy.k32_mk w (cv p) (A3 := A3) (c3 := c3) (A4 := A4) (c4 := c4) (by rw [cv_f3]; exact l3) (by rw [cv_f3]; exact g3) (by rw [cv_f4, cvL_len]; exact l4) (by rw [cv_f4]; exact hk)
    rw [cv_f0, cv_f1, cv_f2, cv_f3, cv_f4, cvL_len] at this
    exact this
/-- and back -/
theorem vc_C : ∀ (m : Nat) {l : List S32} {w : World} {A : Option Addr}, hgL l ≤ m → PCopy.k32.C w A (cvL l).length (cvL l) → k32.C w A l.length l := by
  intro m
  induction m with
  | zero =>
    intro l w A hm h
    cases l with
    | nil => exact ⟨rfl, by simp, fun h => absurd h (by simp)⟩
    | cons x r => rw [hgL_cons] at hm; omega
  | succ m ih =>
    intro l w A hm h
    have h21 := h.2.1
    rw [cvL_len] at h21
    refine ⟨rfl, h21, fun hn => ?_⟩
    obtain ⟨ad, e, hc⟩ := h.2.2 (by rw [cvL_len]; exact hn)
    refine ⟨ad, e, fun j p hp => ?_⟩
    obtain ⟨c, h1, h2, h3⟩ := hc j (cv p) (by rw [cvL_get, hp]; rfl)
    obtain ⟨A3, c3, A4, c4, hcs, l3, g3, l4, g4⟩ := PCopy.k32_open h2
    rw [cv_f3] at l3 g3
    rw [cv_f4] at l4 g4
    rw [cv_f0, cv_f1, cv_f2, cv_f3, cv_f4] at hcs
    have hmem := hg_mem hp
    have hk := ih (l := p.f4) (w := w) (A := A4) (by rw [← hg_eq]; omega) g4
    refine ⟨c, h1, ?_, h3⟩
    rw [hcs, cvL_len]
    rw [cvL_len] at l4
    exact k32_mk w p l3 g3 l4 hk
theorem copy_loop {a b c d : _} {a' b' c' d' : _} (l : List S32) (hl : l.length ≤ 400000)
    (he : ∀ i : Nat, i < l.length → Ev (fun k => PCopy.commodatumlaw23_Copy.f k (cv (rd_T32 l i)).f0 (cv (rd_T32 l i)).f1 (cv (rd_T32 l i)).f2 (cv (rd_T32 l i)).f3 (cv (rd_T32 l i)).f4) ((cv (rd_T32 l i)).f0, (cv (rd_T32 l i)).f1, (cv (rd_T32 l i)).f2, (cv (rd_T32 l i)).f3, (cv (rd_T32 l i)).f4)) :
    ∀ (j i : Nat), l.length - i = j → i ≤ l.length → Ev (fun k => PCopy.commodatumlaw23_Copy.l0 k i a b c d (cvL l) a' b' c' d' (cvL (l.take i))) (a', b', c', d', cvL l) := by
  intro j
  induction j with
  | zero =>
    intro i hj hi
    have : i = l.length := by omega
    rw [this, List.take_length]
    refine Ev.step (f := fun _ => some (a', b', c', d', cvL l)) (fun k => ?_) (Ev.now _)
    simp only [PCopy.commodatumlaw23_Copy.l0]
    rw [if_neg (by rw [cvL_len]; omega)]
  | succ j ih =>
    intro i hj hi
    have hin : i < l.length := by omega
    have hh := he i hin
    have hih := ih (i + 1) (by omega) (by omega)
    have c1 : (i : Int) < ((cvL l).length : Int) := by rw [cvL_len]; exact Int.ofNat_lt.2 hin
    have c0 : (0 : Int) ≤ (i : Int) := Int.natCast_nonneg i
    have hr := cvL_rd l i hin
    have ht : cvL (l.take (i + 1)) = cvL (l.take i) ++ [cv (rd_T32 l i)] := by
      have happ : ∀ p q : List S32, cvL (p ++ q) = cvL p ++ cvL q := by
        intro p q
        induction p with
        | nil => rw [List.nil_append, cvL, List.nil_append]
        | cons x r ih => rw [List.cons_append, cvL, cvL, ih, List.cons_append]
      rw [List.take_succ_eq_append_getElem hin, happ]
      congr 1
      rw [cvL, cvL]
      congr 2
      simp [rd_T32, List.getD, hin]
    have hlt : (cvL (l.take i)).length < 1954687338268 := by rw [cvL_len, List.length_take]; omega
    have hw : wrap64 ((i : Int) + 1) = ((i + 1 : Nat) : Int) := wr_succ (by omega)
    rw [ht] at hih
    refine Ev.step (f := fun k => (PCopy.commodatumlaw23_Copy.f k (cv (rd_T32 l i)).f0 (cv (rd_T32 l i)).f1 (cv (rd_T32 l i)).f2 (cv (rd_T32 l i)).f3 (cv (rd_T32 l i)).f4).bind fun bt => if (cvL (l.take i)).length < 1954687338268 then PCopy.commodatumlaw23_Copy.l0 k ((i + 1 : Nat) : Int) a b c d (cvL l) a' b' c' d' (cvL (l.take i) ++ [⟨bt.1, bt.2.1, bt.2.2.1, bt.2.2.2.1, bt.2.2.2.2⟩]) else none) (fun k => ?_) ?_
    · simp only [PCopy.commodatumlaw23_Copy.l0]
      rw [if_pos c1, if_pos c0, hr, hw]
    · refine Ev.bind hh ?_
      refine Ev.congr (fun k => ?_) hih
      rw [if_pos hlt]
      generalize cv (rd_T32 l i) = z
      cases z
      rfl
theorem copy_ev : ∀ (m : Nat) (x : S32), hg x < m → wg x ≤ 400000 → Ev (fun k => PCopy.commodatumlaw23_Copy.f k (cv x).f0 (cv x).f1 (cv x).f2 (cv x).f3 (cv x).f4) ((cv x).f0, (cv x).f1, (cv x).f2, (cv x).f3, (cv x).f4) := by
  intro m
  induction m with
  | zero => intro x h; exact absurd h (by omega)
  | succ m ih =>
    intro x hm hw
    have hl := len_kids hw
    have hk := wg_kids x
    have hx := hg_eq x
    have hask : x.f3.length < 140737488355328 := by have := wg_eq x; omega
    have h := copy_loop (a := (cv x).f0) (b := (cv x).f1) (c := (cv x).f2) (d := (cv x).f3) (a' := (cv x).f0) (b' := (cv x).f1) (c' := (cv x).f2) (d' := (cv x).f3) x.f4 hl (fun i hi => ih (rd_T32 x.f4 i) (by have := hg_kid x.f4 i hi; omega) (by have := wg_kid x.f4 i hi; omega)) x.f4.length 0 (by omega) (by omega)
    rw [List.take_zero, show cvL [] = [] by rw [cvL], ← cv_f4] at h
    refine Ev.step (fun k => ?_) h
    simp only [PCopy.commodatumlaw23_Copy.f, PCopy.commodatumlaw23_bools.f, Option.bind_some, List.length_nil, Nat.zero_add, List.nil_append]
    rw [if_pos (by rw [cv_f3]; exact hask)]
    rfl
/-- what Copy answers -/
def CR (W : World) (x : S32) (e : Ending) (w' : World) : Prop := ∃ A3 c3 A4 c4, e = .returned (.agg #[.bool x.f0, I x.f1, I x.f2, .slice A3 x.f3.length c3, .slice A4 x.f4.length c4]) ∧ x.f3.length ≤ c3 ∧ Kd.C Kd.bool w' A3 x.f3.length x.f3 ∧ x.f4.length ≤ c4 ∧ Kd.C k32 w' A4 x.f4.length x.f4 ∧ (∃ ok, PCopy.k32.R 32 w' W.heap.size ok (.slice A4 x.f4.length c4) (cvL x.f4)) ∧ Below W.heap.size W w'
theorem copy_any {W : World} {x : S32} {A3 A4 : Option Addr} {c3 c4 : Nat} (hw : wg x ≤ 400000) (h3 : Kd.C Kd.bool W A3 x.f3.length x.f3) (l3 : x.f3.length ≤ c3) (h4 : Kd.C k32 W A4 x.f4.length x.f4) (l4 : x.f4.length ≤ c4) :
    Calls Try.prog 54 #[.agg #[.bool x.f0, I x.f1, I x.f2, .slice A3 x.f3.length c3, .slice A4 x.f4.length c4]] W (CR W x) := by
  obtain ⟨k, hk⟩ := (copy_ev (hg x + 1) x (by omega) hw).rounds
  have hC := cv_C (hgL x.f4) (Nat.le_refl _) h4
  rw [cv_f0, cv_f1, cv_f2, cv_f3, cv_f4] at hk
  have h := PCopy.commodatumlaw23_Copy.calls k x.f0 x.f1 x.f2 A3 c3 x.f3 A4 c4 (cvL x.f4) _ _ _ _ _ W h3 l3 hC (by rw [cvL_len]; exact l4) hk
  rw [cvL_len] at h
  refine h.mono fun e W' => ?_
  rintro ⟨v3, v4, rfl, r3, r4, hb⟩
  obtain ⟨B3, d3, rfl, g3, q3⟩ := Kd.R_reads r3
  obtain ⟨B4, d4, rfl, g4, q4⟩ := Kd.R_reads r4
  have hback := vc_C (hgL x.f4) (Nat.le_refl _) q4
  rw [cvL_len] at g4
  rw [cvL_len] at r4 ⊢
  exact ⟨B3, d3, B4, d4, rfl, g3, q3, g4, hback, ⟨_, r4⟩, hb⟩
end Go.Proofs.Ytpfbommaddaijaa

namespace Go.Proofs.Ytpfbommaddaijaa
open Go.RowKit Go.Proofs.YtpfbommaddaijaaW.PrintWords Go.Proofs.YtpfbommaddaijaaW.PrintLast PBoundTo
set_option linter.unusedVariables false
set_option linter.unusedSimpArgs false

abbrev KP (a : Addr) (s m : Int) : Value := .agg #[.pointer (some a), I s, I m]
/-- the address lies in a plain block -/
def Pl (w : World) (a : Addr) : Prop := ∃ cs t, w.heap[a.block]? = some (.cells cs t (0, 0))
theorem ptr_eq {w : World} {a b : Addr} (ha : Pl w a) (hb : Pl w b) (d : Nat) : (Op.equalIn (d + 1) 155 (.pointer (some a)) (.pointer (some b))).run Try.prog w = .ok (decide (a = b)) w := by
  obtain ⟨ca, ta, ha⟩ := ha
  obtain ⟨cb, tb, hb⟩ := hb
  have h5 : (Try.prog.info? 32).map (·.size) = some 5 := by kernel_rfl
  obtain ⟨j, hte, hj⟩ := Option.map_eq_some_iff.1 h5
  have hsz : j.size ≠ 0 := by rw [hj]; decide
  by_cases e : a = b
  · subst e
    rw [decide_eq_true rfl]
    simp [Op.equalIn, run_underlying Try.underlying155, sizeOf, typeInfo, hte, run_sameAddr_same]
  · rw [decide_eq_false e]
    simp [Op.equalIn, run_underlying Try.underlying155, sizeOf, typeInfo, hte, hsz, run_sameAddr_other w e ha hb]
theorem int_eq {w : World} (s s' : Int) (d : Nat) : (Op.equalIn (d + 1) 3 (I s) (I s')).run Try.prog w = .ok (s == s') w := by
  simp [Op.equalIn, run_underlying Try.underlying3]
theorem key_eq {w : World} {a b : Addr} (ha : Pl w a) (hb : Pl w b) (s m s' m' : Int) (d : Nat) (hst : Try.prog.stoodInHeld 157 = false) : (Op.equalIn (d + 2) 157 (KP a s m) (KP b s' m')).run Try.prog w = .ok (decide (a = b) && s == s' && m == m') w := by
  have h1 := ptr_eq ha hb d
  have h2 := int_eq (w := w) s s' d
  have h3 := int_eq (w := w) m m' d
  unfold Op.equalIn
  simp [run_underlying Try.underlying157, hst, part, sizeOf, typeInfo]
  rw [h1]
  cases e1 : decide (a = b) <;> cases e2 : (s == s') <;> cases e3 : (m == m') <;> (try rw [e2] at h2) <;> (try rw [e3] at h3) <;> simp [Result.andThen, h2, h3]
/-- one entry of the map of depths -/
structure De where
  a : Addr
  s : Int
  m : Int
  d : Int
def De.hit (a : Addr) (s m : Int) (x : De) : Bool := decide (a = x.a) && s == x.s && m == x.m
/-- the entries, as the map holds them -/
inductive Ents : List De → List MapEntry → Prop
  | nil : Ents [] []
  | cons {x : De} {xs : List De} {es : List MapEntry} {c : Nat} : Ents xs es → Ents (x :: xs) ({ key := KP x.a x.s x.m, val := I x.d, born := c } :: es)
/-- the first that hits -/
def lookD (a : Addr) (s m : Int) : List De → Nat → Option (Nat × De)
  | [], _ => none
  | x :: r, i => if x.hit a s m = true then some (i, x) else lookD a s m r (i + 1)
theorem find_run {w : World} {a : Addr} {s m : Int} (ha : Pl w a) (hst : Try.prog.stoodInHeld 157 = false) {xs : List De} {es : List MapEntry} (h : Ents xs es) : (∀ x ∈ xs, Pl w x.a) → ∀ i, (Go.Instr.findAsking 157 (KP a s m) es i).run Try.prog w = .ok ((lookD a s m xs i).map fun p => (p.1, I p.2.d)) w := by
  induction h with
  | nil => intro _ i; simp [Go.Instr.findAsking, lookD]
  | @cons x xs es c h ih =>
    intro hp i
    have hk := key_eq (w := w) ha (hp x (by simp)) s m x.s x.m 9998 hst
    have hr := ih (fun y hy => hp y (by simp [hy])) (i + 1)
    unfold Go.Instr.findAsking
    rw [lookD]
    have he : (Op.equal 157 (KP a s m) (KP x.a x.s x.m)).run Try.prog w = .ok (x.hit a s m) w := hk
    cases e : x.hit a s m with
    | true => rw [e] at he; simp [he, Result.andThen]
    | false => rw [e] at he; simp [he, hr, Result.andThen]
end Go.Proofs.Ytpfbommaddaijaa

