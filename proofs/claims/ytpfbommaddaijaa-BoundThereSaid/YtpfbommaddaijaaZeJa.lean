/- A formula copied: the copy's own words, and ours. -/
import Derived.Test.YtpfbommaddaijaaZeV6
import Derived.Test.YtpfbommaddaijaaZePCopyFormulax1
namespace Go.Proofs.Ytpfbommaddaijaa
open Go.RowKit Go.Proofs.YtpfbommaddaijaaW.PrintWords Go.Proofs.YtpfbommaddaijaaW.PrintLast PBoundTo
set_option linter.unusedVariables false
set_option linter.unusedSimpArgs false

mutual
def cf : S24 → PCopyFormula.S24
  | ⟨a, b, kids⟩ => ⟨a, b, cfL kids⟩
def cfL : List S24 → List PCopyFormula.S24
  | [] => []
  | x :: r => cf x :: cfL r
end
theorem cf_f0 (x : S24) : (cf x).f0 = x.f0 := by cases x; rw [cf]
theorem cf_f1 (x : S24) : (cf x).f1 = x.f1 := by cases x; rw [cf]
theorem cf_f2 (x : S24) : (cf x).f2 = cfL x.f2 := by cases x; rw [cf]
theorem cfL_len : ∀ l : List S24, (cfL l).length = l.length
  | [] => by rw [cfL]; rfl
  | x :: r => by rw [cfL, List.length_cons, List.length_cons, cfL_len r]
theorem cfL_get : ∀ (l : List S24) (j : Nat), (cfL l)[j]? = (l[j]?).map cf
  | [], j => by rw [cfL]; simp
  | x :: r, 0 => by rw [cfL]; simp
  | x :: r, j + 1 => by rw [cfL]; simpa using cfL_get r j
theorem cfL_rd (l : List S24) (i : Nat) (h : i < l.length) : PCopyFormula.rd_T24 (cfL l) (i : Int) = cf (rd_T24 l (i : Int)) := by
  have h1 := cfL_get l i
  simp only [PCopyFormula.rd_T24, rd_T24, Int.toNat_natCast, List.getD_eq_getElem?_getD, h1]
  rw [List.getElem?_eq_getElem h]
  rfl
theorem fns_mem : ∀ {l : List S24} {j : Nat} {p : S24}, l[j]? = some p → fns p ≤ fnsL l
  | x :: r, 0, p, h => by simp at h; subst h; rw [(fL_cons _ _).2.1]; omega
  | x :: r, j + 1, p, h => by have := fns_mem (l := r) (j := j) (p := p) (by simpa using h); rw [(fL_cons _ _).2.1]; omega
theorem cf_C : ∀ (m : Nat) {l : List S24} {w : World} {A : Option Addr}, fnsL l ≤ m → k24.C w A l.length l → PCopyFormula.k24.C w A (cfL l).length (cfL l) := by
  intro m
  induction m with
  | zero =>
    intro l w A hm h
    cases l with
    | nil => rw [cfL]; exact ⟨rfl, by simp, fun h => absurd h (by simp)⟩
    | cons x r => rw [(fL_cons _ _).2.1] at hm; have := fns_pos x; omega
  | succ m ih =>
    intro l w A hm h
    refine ⟨rfl, by rw [cfL_len]; exact h.2.1, fun hn => ?_⟩
    rw [cfL_len] at hn
    obtain ⟨ad, e, hc⟩ := h.2.2 hn
    refine ⟨ad, e, fun j p' hj => ?_⟩
    rw [cfL_get] at hj
    obtain ⟨p, hp, rfl⟩ := Option.map_eq_some_iff.1 hj
    obtain ⟨c, h1, h2, h3⟩ := hc j p hp
    obtain ⟨A2, c2, hcs, l2, g2⟩ := k24_open h2
    have hmem := fns_mem hp
    have hk := ih (l := p.f2) (w := w) (A := A2) (by have := fns_eq p; omega) g2
    refine ⟨c, h1, ?_, h3⟩
    rw [hcs]
    have := PCopyFormula.k24_mk w (cf p) (A2 := A2) (c2 := c2) (by rw [cf_f2, cfL_len]; exact l2) (by rw [cf_f2]; exact hk)
    rw [cf_f0, cf_f1, cf_f2, cfL_len] at this
    exact this
theorem fc_C : ∀ (m : Nat) {l : List S24} {w : World} {A : Option Addr}, fnsL l ≤ m → PCopyFormula.k24.C w A (cfL l).length (cfL l) → k24.C w A l.length l := by
  intro m
  induction m with
  | zero =>
    intro l w A hm h
    cases l with
    | nil => exact ⟨rfl, by simp, fun h => absurd h (by simp)⟩
    | cons x r => rw [(fL_cons _ _).2.1] at hm; have := fns_pos x; omega
  | succ m ih =>
    intro l w A hm h
    have h21 := h.2.1
    rw [cfL_len] at h21
    refine ⟨rfl, h21, fun hn => ?_⟩
    obtain ⟨ad, e, hc⟩ := h.2.2 (by rw [cfL_len]; exact hn)
    refine ⟨ad, e, fun j p hp => ?_⟩
    obtain ⟨c, h1, h2, h3⟩ := hc j (cf p) (by rw [cfL_get, hp]; rfl)
    obtain ⟨A2, c2, hcs, l2, g2⟩ := PCopyFormula.k24_open h2
    rw [cf_f2] at l2 g2
    rw [cf_f0, cf_f1, cf_f2] at hcs
    have hmem := fns_mem hp
    have hk := ih (l := p.f2) (w := w) (A := A2) (by have := fns_eq p; omega) g2
    refine ⟨c, h1, ?_, h3⟩
    rw [hcs, cfL_len]
    rw [cfL_len] at l2
    exact k24_mk w p l2 hk
theorem cfL_app (p q : List S24) : cfL (p ++ q) = cfL p ++ cfL q := by
  induction p with
  | nil => rw [List.nil_append, cfL, List.nil_append]
  | cons x r ih => rw [List.cons_append, cfL, cfL, ih, List.cons_append]
theorem fcopy_loop {a b a' b' : Int} (l : List S24) (hl : l.length ≤ 400000)
    (he : ∀ i : Nat, i < l.length → Ev (fun k => PCopyFormula.commodatumlaw09_CopyFormula.f k (cf (rd_T24 l i)).f0 (cf (rd_T24 l i)).f1 (cf (rd_T24 l i)).f2) ((cf (rd_T24 l i)).f0, (cf (rd_T24 l i)).f1, (cf (rd_T24 l i)).f2)) :
    ∀ (j i : Nat), l.length - i = j → i ≤ l.length → Ev (fun k => PCopyFormula.commodatumlaw09_CopyFormula.l0 k i a b (cfL l) a' b' (cfL (l.take i))) (a', b', cfL l) := by
  intro j
  induction j with
  | zero =>
    intro i hj hi
    have : i = l.length := by omega
    rw [this, List.take_length]
    refine Ev.step (f := fun _ => some (a', b', cfL l)) (fun k => ?_) (Ev.now _)
    simp only [PCopyFormula.commodatumlaw09_CopyFormula.l0]
    rw [if_neg (by rw [cfL_len]; omega)]
  | succ j ih =>
    intro i hj hi
    have hin : i < l.length := by omega
    have hh := he i hin
    have hih := ih (i + 1) (by omega) (by omega)
    have c1 : (i : Int) < ((cfL l).length : Int) := by rw [cfL_len]; exact Int.ofNat_lt.2 hin
    have c0 : (0 : Int) ≤ (i : Int) := Int.natCast_nonneg i
    have hr := cfL_rd l i hin
    have ht : cfL (l.take (i + 1)) = cfL (l.take i) ++ [cf (rd_T24 l i)] := by
      rw [List.take_succ_eq_append_getElem hin, cfL_app]
      congr 1
      rw [cfL, cfL]
      congr 2
      simp [rd_T24, List.getD, hin]
    have hlt : (cfL (l.take i)).length < 3518437208883 := by rw [cfL_len, List.length_take]; omega
    have hw : wrap64 ((i : Int) + 1) = ((i + 1 : Nat) : Int) := wr_succ (by omega)
    rw [ht] at hih
    refine Ev.step (f := fun k => (PCopyFormula.commodatumlaw09_CopyFormula.f k (cf (rd_T24 l i)).f0 (cf (rd_T24 l i)).f1 (cf (rd_T24 l i)).f2).bind fun bt => if (cfL (l.take i)).length < 3518437208883 then PCopyFormula.commodatumlaw09_CopyFormula.l0 k ((i + 1 : Nat) : Int) a b (cfL l) a' b' (cfL (l.take i) ++ [⟨bt.1, bt.2.1, bt.2.2⟩]) else none) (fun k => ?_) ?_
    · simp only [PCopyFormula.commodatumlaw09_CopyFormula.l0]
      rw [if_pos c1, if_pos c0, hr, hw]
    · refine Ev.bind hh ?_
      refine Ev.congr (fun k => ?_) hih
      rw [if_pos hlt]
      generalize cf (rd_T24 l i) = z
      cases z
      rfl
theorem fndL_len : ∀ l : List S24, l.length ≤ fndL l
  | [] => by rw [fL_nil.1]; exact Nat.le_refl _
  | x :: r => by rw [(fL_cons x r).1, List.length_cons]; have := fndL_len r; have := fnd_pos x; omega
theorem fcopy_ev : ∀ (m : Nat) (x : S24), fns x ≤ m → fnd x ≤ 400000 → Ev (fun k => PCopyFormula.commodatumlaw09_CopyFormula.f k (cf x).f0 (cf x).f1 (cf x).f2) ((cf x).f0, (cf x).f1, (cf x).f2) := by
  intro m
  induction m with
  | zero => intro x h; exact absurd h (by have := fns_pos x; omega)
  | succ m ih =>
    intro x hm hw
    have hl := fndL_len x.f2
    have hk := fnd_eq x
    have hx := fns_eq x
    have h := fcopy_loop (a := (cf x).f0) (b := (cf x).f1) (a' := (cf x).f0) (b' := (cf x).f1) x.f2 (by omega) (fun i hi => ih (rd_T24 x.f2 i) (by have := fns_kid x.f2 i hi; omega) (by have := fnd_kid x.f2 i hi; omega)) x.f2.length 0 (by omega) (by omega)
    rw [List.take_zero, show cfL [] = [] by rw [cfL], ← cf_f2] at h
    exact Ev.step (fun k => by simp only [PCopyFormula.commodatumlaw09_CopyFormula.f]; rfl) h
def CfR (W : World) (x : S24) (e : Ending) (w' : World) : Prop := ∃ A c, e = .returned (fArg x A c) ∧ x.f2.length ≤ c ∧ Kd.C k24 w' A x.f2.length x.f2 ∧ Below W.heap.size W w'
theorem copyf_any {W : World} {x : S24} {A : Option Addr} {c : Nat} (hw : fnd x ≤ 400000) (h : Kd.C k24 W A x.f2.length x.f2) (l : x.f2.length ≤ c) : Calls Try.prog 47 #[fArg x A c] W (CfR W x) := by
  obtain ⟨k, hk⟩ := (fcopy_ev (fns x) x (Nat.le_refl _) hw).rounds
  have hC := cf_C (fnsL x.f2) (Nat.le_refl _) h
  rw [cf_f0, cf_f1, cf_f2] at hk
  have h := PCopyFormula.commodatumlaw09_CopyFormula.calls k x.f0 x.f1 A c (cfL x.f2) _ _ _ W hC (by rw [cfL_len]; exact l) hk
  rw [cfL_len] at h
  refine h.mono fun e W' => ?_
  rintro ⟨v2, rfl, r2, hb⟩
  obtain ⟨B, d, rfl, g, q⟩ := Kd.R_reads r2
  have hback := fc_C (fnsL x.f2) (Nat.le_refl _) q
  rw [cfL_len] at g ⊢
  exact ⟨B, d, rfl, g, hback, hb⟩
end Go.Proofs.Ytpfbommaddaijaa

