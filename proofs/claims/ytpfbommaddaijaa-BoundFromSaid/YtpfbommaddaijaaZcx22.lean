/- A formula copied: the copy's own words, and ours; How heavy a formula is. -/
import Derived.Test.YtpfbommaddaijaaZcV6
import Derived.Test.YtpfbommaddaijaaPCopyFormulax1
namespace Go.Proofs.Ytpfbommaddaijaa
open Go.RowKit Go.Proofs.YtpfbommaddaijaaW.PrintWords Go.Proofs.YtpfbommaddaijaaW.PrintLast PBoundTo
set_option linter.unusedVariables false
set_option linter.unusedSimpArgs false

mutual
def cf : S24 → PCopyFormula.S24
  | ⟨a, b, kids⟩ => ⟨a, b, cfL kids⟩
def cfL : List S24 → List PCopyFormula.S24
  | [] => []
  | x :: r => cf x :: cfL r
end
theorem cf_f0 (x : S24) : (cf x).f0 = x.f0 := by cases x; rw [cf]
theorem cf_f1 (x : S24) : (cf x).f1 = x.f1 := by cases x; rw [cf]
theorem cf_f2 (x : S24) : (cf x).f2 = cfL x.f2 := by cases x; rw [cf]
theorem cfL_len : ∀ l : List S24, (cfL l).length = l.length
  | [] => by rw [cfL]; rfl
  | x :: r => by rw [cfL, List.length_cons, List.length_cons, cfL_len r]
theorem cfL_get : ∀ (l : List S24) (j : Nat), (cfL l)[j]? = (l[j]?).map cf
  | [], j => by rw [cfL]; simp
  | x :: r, 0 => by rw [cfL]; simp
  | x :: r, j + 1 => by rw [cfL]; simpa using cfL_get r j
theorem cfL_rd (l : List S24) (i : Nat) (h : i < l.length) : PCopyFormula.rd_T24 (cfL l) (i : Int) = cf (rd_T24 l (i : Int)) := by
  have h1 := cfL_get l i
  simp only [PCopyFormula.rd_T24, rd_T24, Int.toNat_natCast, List.getD_eq_getElem?_getD, h1]
  rw [List.getElem?_eq_getElem h]
  rfl
theorem fns_mem : ∀ {l : List S24} {j : Nat} {p : S24}, l[j]? = some p → fns p ≤ fnsL l
  | x :: r, 0, p, h => by simp at h; subst h; rw [(fL_cons _ _).2.1]; omega
  | x :: r, j + 1, p, h => by have := fns_mem (l := r) (j := j) (p := p) (by simpa using h); rw [(fL_cons _ _).2.1]; omega
theorem cf_C : ∀ (m : Nat) {l : List S24} {w : World} {A : Option Addr}, fnsL l ≤ m → k24.C w A l.length l → PCopyFormula.k24.C w A (cfL l).length (cfL l) := by
  intro m
  induction m with
  | zero =>
    intro l w A hm h
    cases l with
    | nil => rw [cfL]; exact ⟨rfl, by simp, fun h => absurd h (by simp)⟩
    | cons x r => rw [(fL_cons _ _).2.1] at hm; have := fns_pos x; omega
  | succ m ih =>
    intro l w A hm h
    refine ⟨rfl, by rw [cfL_len]; exact h.2.1, fun hn => ?_⟩
    rw [cfL_len] at hn
    obtain ⟨ad, e, hc⟩ := h.2.2 hn
    refine ⟨ad, e, fun j p' hj => ?_⟩
    rw [cfL_get] at hj
    obtain ⟨p, hp, rfl⟩ := Option.map_eq_some_iff.1 hj
    obtain ⟨c, h1, h2, h3⟩ := hc j p hp
    obtain ⟨A2, c2, hcs, l2, g2⟩ := k24_open h2
    have hmem := fns_mem hp
    have hk := ih (l := p.f2) (w := w) (A := A2) (by have := fns_eq p; omega) g2
    refine ⟨c, h1, ?_, h3⟩
    rw [hcs]
    have := PCopyFormula.k24_mk w (cf p) (A2 := A2) (c2 := c2) (by rw [cf_f2, cfL_len]; exact l2) (by rw [cf_f2]; exact hk)
    rw [cf_f0, cf_f1, cf_f2, cfL_len] at this
    exact this
theorem fc_C : ∀ (m : Nat) {l : List S24} {w : World} {A : Option Addr}, fnsL l ≤ m → PCopyFormula.k24.C w A (cfL l).length (cfL l) → k24.C w A l.length l := by
  intro m
  induction m with
  | zero =>
    intro l w A hm h
    cases l with
    | nil => exact ⟨rfl, by simp, fun h => absurd h (by simp)⟩
    | cons x r => rw [(fL_cons _ _).2.1] at hm; have := fns_pos x; omega
  | succ m ih =>
    intro l w A hm h
    have h21 := h.2.1
    rw [cfL_len] at h21
    refine ⟨rfl, h21, fun hn => ?_⟩
    obtain ⟨ad, e, hc⟩ := h.2.2 (by rw [cfL_len]; exact hn)
    refine ⟨ad, e, fun j p hp => ?_⟩
    obtain ⟨c, h1, h2, h3⟩ := hc j (cf p) (by rw [cfL_get, hp]; rfl)
    obtain ⟨A2, c2, hcs, l2, g2⟩ := PCopyFormula.k24_open h2
    rw [cf_f2] at l2 g2
    rw [cf_f0, cf_f1, cf_f2] at hcs
    have hmem := fns_mem hp
    have hk := ih (l := p.f2) (w := w) (A := A2) (by have := fns_eq p; omega) g2
    refine ⟨c, h1, ?_, h3⟩
    rw [hcs, cfL_len]
    rw [cfL_len] at l2
    exact k24_mk w p l2 hk
theorem cfL_app (p q : List S24) : cfL (p ++ q) = cfL p ++ cfL q := by
  induction p with
  | nil => rw [List.nil_append, cfL, List.nil_append]
  | cons x r ih => rw [List.cons_append, cfL, cfL, ih, List.cons_append]
theorem fcopy_loop {a b a' b' : Int} (l : List S24) (hl : l.length ≤ 400000)
    (he : ∀ i : Nat, i < l.length → Ev (fun k => PCopyFormula.commodatumlaw09_CopyFormula.f k (cf (rd_T24 l i)).f0 (cf (rd_T24 l i)).f1 (cf (rd_T24 l i)).f2) ((cf (rd_T24 l i)).f0, (cf (rd_T24 l i)).f1, (cf (rd_T24 l i)).f2)) :
    ∀ (j i : Nat), l.length - i = j → i ≤ l.length → Ev (fun k => PCopyFormula.commodatumlaw09_CopyFormula.l0 k i a b (cfL l) a' b' (cfL (l.take i))) (a', b', cfL l) := by
  intro j
  induction j with
  | zero =>
    intro i hj hi
    have : i = l.length := by omega
    rw [this, List.take_length]
    refine Ev.step (f := fun _ => some (a', b', cfL l)) (fun k => ?_) (Ev.now _)
    simp only [PCopyFormula.commodatumlaw09_CopyFormula.l0]
    rw [if_neg (by rw [cfL_len]; omega)]
  | succ j ih =>
    intro i hj hi
    have hin : i < l.length := by omega
    have hh := he i hin
    have hih := ih (i + 1) (by omega) (by omega)
    have c1 : (i : Int) < ((cfL l).length : Int) := by rw [cfL_len]; exact Int.ofNat_lt.2 hin
    have c0 : (0 : Int) ≤ (i : Int) := Int.natCast_nonneg i
    have hr := cfL_rd l i hin
    have ht : cfL (l.take (i + 1)) = cfL (l.take i) ++ [cf (rd_T24 l i)] := by
      rw [List.take_succ_eq_append_getElem hin, cfL_app]
      congr 1
      rw [cfL, cfL]
      congr 2
      simp [rd_T24, List.getD, hin]
    have hlt : (cfL (l.take i)).length < 3518437208883 := by rw [cfL_len, List.length_take]; omega
    have hw : wrap64 ((i : Int) + 1) = ((i + 1 : Nat) : Int) := wr_succ (by omega)
    rw [ht] at hih
    refine Ev.step (f := fun k => (PCopyFormula.commodatumlaw09_CopyFormula.f k (cf (rd_T24 l i)).f0 (cf (rd_T24 l i)).f1 (cf (rd_T24 l i)).f2).bind fun bt => if (cfL (l.take i)).length < 3518437208883 then PCopyFormula.commodatumlaw09_CopyFormula.l0 k ((i + 1 : Nat) : Int) a b (cfL l) a' b' (cfL (l.take i) ++ [⟨bt.1, bt.2.1, bt.2.2⟩]) else none) (fun k => ?_) ?_
    · simp only [PCopyFormula.commodatumlaw09_CopyFormula.l0]
      rw [if_pos c1, if_pos c0, hr, hw]
    · refine Ev.bind hh ?_
      refine Ev.congr (fun k => ?_) hih
      rw [if_pos hlt]
      generalize cf (rd_T24 l i) = z
      cases z
      rfl
theorem fndL_len : ∀ l : List S24, l.length ≤ fndL l
  | [] => by rw [fL_nil.1]; exact Nat.le_refl _
  | x :: r => by rw [(fL_cons x r).1, List.length_cons]; have := fndL_len r; have := fnd_pos x; omega
theorem fcopy_ev : ∀ (m : Nat) (x : S24), fns x ≤ m → fnd x ≤ 400000 → Ev (fun k => PCopyFormula.commodatumlaw09_CopyFormula.f k (cf x).f0 (cf x).f1 (cf x).f2) ((cf x).f0, (cf x).f1, (cf x).f2) := by
  intro m
  induction m with
  | zero => intro x h; exact absurd h (by have := fns_pos x; omega)
  | succ m ih =>
    intro x hm hw
    have hl := fndL_len x.f2
    have hk := fnd_eq x
    have hx := fns_eq x
    have h := fcopy_loop (a := (cf x).f0) (b := (cf x).f1) (a' := (cf x).f0) (b' := (cf x).f1) x.f2 (by omega) (fun i hi => ih (rd_T24 x.f2 i) (by have := fns_kid x.f2 i hi; omega) (by have := fnd_kid x.f2 i hi; omega)) x.f2.length 0 (by omega) (by omega)
    rw [List.take_zero, show cfL [] = [] by rw [cfL], ← cf_f2] at h
    exact Ev.step (fun k => by simp only [PCopyFormula.commodatumlaw09_CopyFormula.f]; rfl) h
def CfR (W : World) (x : S24) (e : Ending) (w' : World) : Prop := ∃ A c, e = .returned (fArg x A c) ∧ x.f2.length ≤ c ∧ Kd.C k24 w' A x.f2.length x.f2 ∧ Below W.heap.size W w'
theorem copyf_any {W : World} {x : S24} {A : Option Addr} {c : Nat} (hw : fnd x ≤ 400000) (h : Kd.C k24 W A x.f2.length x.f2) (l : x.f2.length ≤ c) : Calls Try.prog 47 #[fArg x A c] W (CfR W x) := by
  obtain ⟨k, hk⟩ := (fcopy_ev (fns x) x (Nat.le_refl _) hw).rounds
  have hC := cf_C (fnsL x.f2) (Nat.le_refl _) h
  rw [cf_f0, cf_f1, cf_f2] at hk
  have h := PCopyFormula.commodatumlaw09_CopyFormula.calls k x.f0 x.f1 A c (cfL x.f2) _ _ _ W hC (by rw [cfL_len]; exact l) hk
  rw [cfL_len] at h
  refine h.mono fun e W' => ?_
  rintro ⟨v2, rfl, r2, hb⟩
  obtain ⟨B, d, rfl, g, q⟩ := Kd.R_reads r2
  have hback := fc_C (fnsL x.f2) (Nat.le_refl _) q
  rw [cfL_len] at g ⊢
  exact ⟨B, d, rfl, g, hback, hb⟩
end Go.Proofs.Ytpfbommaddaijaa

namespace Go.Proofs.Ytpfbommaddaijaa
open Go.RowKit Go.Proofs.YtpfbommaddaijaaW.PrintWords Go.Proofs.YtpfbommaddaijaaW.PrintLast PBoundTo
set_option linter.unusedVariables false
set_option linter.unusedSimpArgs false

/-- too heavy -/
def fhv (most N L : Nat) (x : S24) : Bool := !(decide (N + fnd x ≤ most) && decide (L + fns x ≤ 1101))
theorem fhv_false {most N L : Nat} {x : S24} : fhv most N L x = false ↔ N + fnd x ≤ most ∧ L + fns x ≤ 1101 := by simp [fhv]
theorem fhv_true {most N L : Nat} {x : S24} (h : most < N + fnd x ∨ 1101 < L + fns x) : fhv most N L x = true := by
  cases e : fhv most N L x with
  | true => rfl
  | false => have := fhv_false.1 e; omega
theorem fhv_bad {most N L Ni : Nat} {x y : S24} {l : List S24} (h1 : Ni + fndL (y :: l) = N + fnd x) (h2 : L + fns x ≤ 1101 ↔ L + 1 + fnsL (y :: l) ≤ 1101) (h : fhv most Ni (L + 1) y = true) : fhv most N L x = true := by
  rw [(fL_cons y l).1] at h1
  rw [(fL_cons y l).2.1] at h2
  cases e : fhv most N L x with
  | true => rfl
  | false =>
    obtain ⟨e1, e2⟩ := fhv_false.1 e
    have e3 := h2.1 e2
    have : fhv most Ni (L + 1) y = false := fhv_false.2 ⟨by omega, by omega⟩
    rw [this] at h; cases h
theorem fhv_good {most N L Ni : Nat} {x y : S24} {l : List S24} (h1 : Ni + fndL (y :: l) = N + fnd x) (h2 : L + fns x ≤ 1101 ↔ L + 1 + fnsL (y :: l) ≤ 1101) (h : fhv most Ni (L + 1) y = false) : Ni + fnd y + fndL l = N + fnd x ∧ (L + fns x ≤ 1101 ↔ L + 1 + fnsL l ≤ 1101) ∧ Ni + fnd y ≤ most := by
  rw [(fL_cons y l).1] at h1
  rw [(fL_cons y l).2.1] at h2
  obtain ⟨e1, e2⟩ := fhv_false.1 h
  refine ⟨by omega, ?_, e1⟩
  rw [h2]; omega
def FwR (W : World) (gn most N L : Nat) (x : S24) (e : Ending) (W' : World) : Prop := e = .returned (.bool (fhv most N L x)) ∧ W.grownBy W' (some gn) ∧ (fhv most N L x = false → W'.heap[gn]? = some (.cells #[I ((N + fnd x : Nat) : Int)] 3 (0, 0)))
set_option maxHeartbeats 8000000 in
set_option maxRecDepth 100000 in
theorem fweigh_any (most : Nat) (hmost : most ≤ 100000) (m : Nat) : ∀ (x : S24) {w0 W : World} {A : Option Addr} {c gn N L : Nat}, fns x ≤ m → Kd.C k24 w0 A x.f2.length x.f2 → Below w0.heap.size w0 W → w0.heap.size ≤ gn → N ≤ most → L ≤ 1101 → W.heap[gn]? = some (.cells #[I N] 3 (0, 0)) →
    Calls Try.prog 101 #[fArg x A c, I L, I most, .pointer (some ⟨gn, 0, none⟩)] W (FwR W gn most N L x) := by
  induction m with
  | zero => intro x _ _ _ _ _ _ _ h; exact absurd h (by have := fns_pos x; omega)
  | succ m ih =>
  intro x w0 W A c gn N L hm hC hB hg0 hN hL hcell
  have hkids : x.f2.length ≤ 9223372036854775807 := by have := hC.2.1; omega
  have hm' : ∀ i, i < x.f2.length → fns (rd_T24 x.f2 i) ≤ m := fun i hi => by have := fns_kid x.f2 i hi; have := fns_eq x; omega
  obtain ⟨W1, hW1⟩ : ∃ W1, W1 = W.alloc (.cells #[I x.f0, I x.f1, .slice A x.f2.length c] 24) := ⟨_, rfl⟩
  have hG1 : W.grownBy W1 (some gn) := by rw [hW1]; exact World.grownBy_alloc _ _ _
  have hgn : gn < W.heap.size := blk_lt hcell
  have BK : W1.heap[W.heap.size]? = some (.cells #[I x.f0, I x.f1, .slice A x.f2.length c] 24 (0, 0)) := by rw [hW1]; exact blk_new _ _
  have hcell1 : W1.heap[gn]? = some (.cells #[I N] 3 (0, 0)) := by rw [hW1]; exact blk_alloc hcell _
  have d0 : W1.cell? ⟨gn, 0, none⟩ = some (I N) := (blk_cell hcell1 0).trans rfl
  have f0 := blk_frozen hcell1 0
  have hN0 : (N : Int) ≤ 100000 := by omega
  have hmo : (most : Int) ≤ 100000 := by omega
  have HM := Lib.hid hm'
  have HND := Lib.hid (fnd_eq x)
  have HNS := Lib.hid (fns_eq x)
  have HG1 := Lib.hid hG1
  have HGN := Lib.hid hgn
  have HBK := Lib.hid BK
  have HC1 := Lib.hid hcell1
  have HKM := Lib.hid hkids
  have HC := Lib.hid hC
  have HB := Lib.hid hB
  have HG0 := Lib.hid hg0
  have HN := Lib.hid hN
  clear hm hm' hG1 hgn BK hcell1 hcell hkids hC hB hg0 hN
  go_enter Try.func101, Try.ntmps101
  go_upto_region 1 with fail
  rw [← hW1]
  clear hW1
  go_upto_region 2 with fail
  obtain ⟨N1, hN1⟩ : ∃ N1 : Nat, N1 = N + 1 := ⟨_, rfl⟩
  have e1 : ((N : Int) + 1) = (N1 : Int) := by omega
  have hN1b : N1 ≤ 100001 := by omega
  have HN1 := Lib.hid hN1
  rw [e1]
  have HBK2 : Hid ((W1.setCell ⟨gn, 0, none⟩ (I N1)).heap[W.heap.size]? = some (.cells #[I x.f0, I x.f1, .slice A x.f2.length c] 24 (0, 0))) := Lib.hid (blk_far HBK.out (show W.heap.size ≠ gn from Nat.ne_of_gt HGN.out) _)
  have HC2 : Hid ((W1.setCell ⟨gn, 0, none⟩ (I N1)).heap[gn]? = some (.cells #[I N1] 3 (0, 0))) := Lib.hid (blk_set HC1.out 0 (I N1))
  have HG2 : Hid (W.grownBy (W1.setCell ⟨gn, 0, none⟩ (I N1)) (some gn)) := Lib.hid (grown_set HG1.out (.inl rfl) _ _)
  clear HBK HC1 HG1 d0 f0 e1 hN1 hN0
  generalize W1.setCell ⟨gn, 0, none⟩ (I N1) = W2 at *
  have d0 : W2.cell? ⟨gn, 0, none⟩ = some (I N1) := (blk_cell HC2.out 0).trans rfl
  have k2 : W2.cell? ⟨W.heap.size, 2, none⟩ = some (.slice A x.f2.length c) := (blk_cell HBK2.out 2).trans rfl
  by_cases hbig : (most : Int) < (N1 : Int)
  · have hr : Hid (fhv most N L x = true) := Lib.hid (fhv_true (.inl (by have := HN1.out; have := HND.out; omega)))
    have hbig' : decide (most < N1) = true := decide_eq_true (by omega)
    go_wp2
    go_ret
    exact ⟨by rw [hr.out]; rfl, HG2.out, fun h => by rw [hr.out] at h; cases h⟩
  have hbig' : decide (most < N1) = false := decide_eq_false (by omega)
  by_cases hdeep : (1100 : Int) < (L : Int)
  · have hr : Hid (fhv most N L x = true) := Lib.hid (fhv_true (.inr (by have := HNS.out; omega)))
    go_wp2
    go_ret
    exact ⟨by rw [hr.out]; rfl, HG2.out, fun h => by rw [hr.out] at h; cases h⟩
  have HL0 : Hid (L ≤ 1100) := Lib.hid (by omega)
  have HM0 : Hid (N1 ≤ most) := Lib.hid (by omega)
  have HS0 : Hid (N1 + fndL x.f2 = N + fnd x) := Lib.hid (by have := HN1.out; have := HND.out; omega)
  have HH0 : Hid (L + fns x ≤ 1101 ↔ L + 1 + fnsL x.f2 ≤ 1101) := Lib.hid (by rw [HNS.out]; omega)
  go_wp2
  go_loopw [9] (fun y wr => ∃ i : Nat, i ≤ x.f2.length ∧ y = I i ∧ ∃ Ni : Nat, Hid (Ni + fndL (x.f2.drop i) = N + fnd x) ∧ Hid (L + fns x ≤ 1101 ↔ L + 1 + fnsL (x.f2.drop i) ≤ 1101) ∧ Hid (Ni ≤ most) ∧ Hid (wr.heap[gn]? = some (.cells #[I Ni] 3 (0, 0))) ∧ Hid (wr.heap[W.heap.size]? = some (.cells #[I x.f0, I x.f1, .slice A x.f2.length c] 24 (0, 0))) ∧ Hid (W.grownBy wr (some gn))) (fun y _ => x.f2.length - (intOf y).toNat)
  case atStart => exact ⟨0, Nat.zero_le _, rfl, N1, HS0, HH0, HM0, HC2, HBK2, HG2⟩
  case round =>
    clear HC2 HBK2 HG2 d0 k2 hbig hbig'
    obtain ⟨i, hi, rfl, Ni, HS, HH, HNi, HCr, HBr, HGr⟩ := hrel
    have k2 : wr.cell? ⟨W.heap.size, 2, none⟩ = some (.slice A x.f2.length c) := (blk_cell HBr.out 2).trans rfl
    by_cases hin : i < x.f2.length
    · have hBW : Below w0.heap.size w0 wr := pw_below_grown HB.out (some gn) HB.out.size HGr.out (fun k hk => by cases hk; exact HG0.out)
      obtain ⟨ad, A2, c2, rfl, x0, x1, x2, l2, i2⟩ := at_T24 HC.out (i : Int) (by omega) (by omega)
      simp only [Int.toNat_natCast] at x0 x1 x2
      replace x0 := cell_keep' hBW x0
      replace x1 := cell_keep' hBW x1
      replace x2 := cell_keep' hBW x2
      have hwi : wrap64 ((i : Int) + 1) = ((i + 1 : Nat) : Int) := wr_lt hin HKM.out
      have h0i : (0 : Int) ≤ i := by omega
      have h1i : (i : Int) < x.f2.length := by omega
      have hL1 : ((L + 1 : Nat) : Int) = (L : Int) + 1 := by omega
      have HI := ih (rd_T24 x.f2 i) (W := wr) (c := c2) (L := L + 1) (HM.out i hin) i2 hBW HG0.out HNi.out (by have := HL0.out; omega) HCr.out
      rw [hL1] at HI
      unfold FwR at HI
      replace HI := Lib.hid HI
      have HD := Lib.hid (fdrop x.f2 i hin)
      have HIN := Lib.hid hin
      clear hL1 hBW i2 l2
      cases hr : fhv most Ni (L + 1) (rd_T24 x.f2 i) with
      | true =>
        rw [hr] at HI
        have hT : Hid (fhv most N L x = true) := Lib.hid (fhv_bad (by rw [← HD.out]; exact HS.out) (by rw [← HD.out]; exact HH.out) hr)
        clear hr
        go_wp2_with (go_at_call 101; (with_reducible refine HI.out.mono ?_); rintro e w7 ⟨rfl, hg7, _⟩; have HG7 := Lib.hid hg7; clear hg7)
        go_ret
        exact ⟨by rw [hT.out]; rfl, HGr.out.trans HG7.out, fun h => by rw [hT.out] at h; cases h⟩
      | false =>
        rw [hr] at HI
        obtain ⟨t1, t2, t3⟩ := fhv_good (by rw [← HD.out]; exact HS.out) (by rw [← HD.out]; exact HH.out) hr
        have T1 := Lib.hid t1
        have T2 := Lib.hid t2
        have T3 := Lib.hid t3
        clear t1 t2 t3 hr
        go_wp2_with (go_at_call 101; (with_reducible refine HI.out.mono ?_); rintro e w7 ⟨rfl, hg7, hc7⟩; have HG7 := Lib.hid hg7; have HC7 := Lib.hid (hc7 rfl); clear hg7 hc7)
        go_roundw
        case rel => exact ⟨i + 1, HIN.out, by rw [hwi], Ni + fnd (rd_T24 x.f2 i), T1, T2, T3, HC7, Lib.hid (blk_grown HBr.out HG7.out (fun e => by cases e; exact absurd HGN.out (Nat.lt_irrefl _))), Lib.hid (HGr.out.trans HG7.out)⟩
        case measure => exact meas hwi HIN.out
    · obtain rfl : i = x.f2.length := by omega
      have hT : Hid (fhv most N L x = false) := Lib.hid (by
        have h1 := HS.out
        have h2 := HH.out
        rw [List.drop_length, fL_nil.1] at h1
        rw [List.drop_length, fL_nil.2.1] at h2
        exact fhv_false.2 ⟨by have := HNi.out; omega, h2.2 (by have := HL0.out; omega)⟩)
      have hE : Hid (Ni = N + fnd x) := Lib.hid (by have h1 := HS.out; rw [List.drop_length, fL_nil.1] at h1; omega)
      go_wp2
      go_ret
      exact ⟨by rw [hT.out]; rfl, HGr.out, fun _ => by rw [← hE.out]; exact HCr.out⟩
set_option maxHeartbeats 4000000 in
theorem fheavy_any {W : World} {x : S24} {A : Option Addr} {c most : Nat} (hmost : most ≤ 100000) (hC : Kd.C k24 W A x.f2.length x.f2) : Calls Try.prog 59 #[fArg x A c, I most] W fun e W' => e = .returned (.bool (fhv most 0 0 x)) ∧ Below W.heap.size W W' := by
  obtain ⟨W1, hW1⟩ : ∃ W1, W1 = W.alloc (.cells #[I x.f0, I x.f1, .slice A x.f2.length c] 24) := ⟨_, rfl⟩
  have hB1 : Below W.heap.size W W1 := by rw [hW1]; exact below_alloc (Below.refl _ _) _
  have hs1 : W1.heap.size = W.heap.size + 1 := by rw [hW1]; exact World.size_alloc _ _
  have BK : W1.heap[W.heap.size]? = some (.cells #[I x.f0, I x.f1, .slice A x.f2.length c] 24 (0, 0)) := by rw [hW1]; exact blk_new _ _
  have hB2 : Below W.heap.size W (W1.alloc (.cells #[I 0] 3)) := below_alloc hB1 _
  have BK2 := blk_alloc BK (.cells #[I 0] 3)
  have k0 : (W1.alloc (.cells #[I 0] 3)).cell? ⟨W.heap.size, 0, none⟩ = some (I x.f0) := (blk_cell BK2 0).trans rfl
  have k1 : (W1.alloc (.cells #[I 0] 3)).cell? ⟨W.heap.size, 1, none⟩ = some (I x.f1) := (blk_cell BK2 1).trans rfl
  have k2 : (W1.alloc (.cells #[I 0] 3)).cell? ⟨W.heap.size, 2, none⟩ = some (.slice A x.f2.length c) := (blk_cell BK2 2).trans rfl
  have HW := fweigh_any most hmost (fns x) x (w0 := W) (W := W1.alloc (.cells #[I 0] 3)) (c := c) (gn := W1.heap.size) (N := 0) (L := 0) (Nat.le_refl _) hC hB2 hB1.size (Nat.zero_le _) (by decide) (blk_new _ _)
  rw [show ((0 : Nat) : Int) = 0 from rfl] at HW
  unfold FwR at HW
  replace HW := Lib.hid HW
  have HB2 := Lib.hid hB2
  have HZ := Lib.hid hB1.size
  clear BK BK2 hB1 hB2 hC hs1
  go_enter Try.func59, Try.ntmps59
  go_upto_region 1 with fail
  rw [← hW1]
  clear hW1
  go_wp2_with (go_at_call 101; (with_reducible refine HW.out.mono ?_); rintro e w7 ⟨rfl, hg7, _⟩; have HG7 := Lib.hid hg7; clear hg7)
  go_ret
  exact ⟨rfl, pw_below_grown HB2.out _ HB2.out.size HG7.out (fun k hk => by cases hk; exact HZ.out)⟩
set_option maxHeartbeats 4000000 in
theorem great_any {W : World} {x : S24} {A : Option Addr} {c : Nat} (hC : Kd.C k24 W A x.f2.length x.f2) : Calls Try.prog 42 #[fArg x A c] W fun e W' => e = .returned (.bool (fhv 3000 0 0 x)) ∧ Below W.heap.size W W' := by
  obtain ⟨W1, hW1⟩ : ∃ W1, W1 = W.alloc (.cells #[I x.f0, I x.f1, .slice A x.f2.length c] 24) := ⟨_, rfl⟩
  have hB1 : Below W.heap.size W W1 := by rw [hW1]; exact below_alloc (Below.refl _ _) _
  have hs1 : W1.heap.size = W.heap.size + 1 := by rw [hW1]; exact World.size_alloc _ _
  have BK : W1.heap[W.heap.size]? = some (.cells #[I x.f0, I x.f1, .slice A x.f2.length c] 24 (0, 0)) := by rw [hW1]; exact blk_new _ _
  have k0 : W1.cell? ⟨W.heap.size, 0, none⟩ = some (I x.f0) := (blk_cell BK 0).trans rfl
  have k1 : W1.cell? ⟨W.heap.size, 1, none⟩ = some (I x.f1) := (blk_cell BK 1).trans rfl
  have k2 : W1.cell? ⟨W.heap.size, 2, none⟩ = some (.slice A x.f2.length c) := (blk_cell BK 2).trans rfl
  have HW := fheavy_any (W := W1) (x := x) (c := c) (most := 3000) (by decide) (Kd.C_below hC hB1)
  rw [show ((3000 : Nat) : Int) = 3000 from rfl] at HW
  replace HW := Lib.hid HW
  have HB1 := Lib.hid hB1
  clear BK hB1 hC hs1
  go_enter Try.func42, Try.ntmps42
  go_upto_region 1 with fail
  rw [← hW1]
  clear hW1
  go_wp2_with (go_at_call 59; (with_reducible refine HW.out.mono ?_); rintro e w7 ⟨rfl, hb⟩; have HB3 := Lib.hid (HB1.out.trans (hb.mono HB1.out.size)); clear hb)
  go_ret
  exact ⟨rfl, HB3.out⟩
end Go.Proofs.Ytpfbommaddaijaa

