/- What bound.Execute answers on any protocol; A list of protocols in memory is read in one way alone; What an entry of the map of depths says; rows that lie in plain blocks; depths of any tree; depth: a leaf; no kids; the limit reached; a hit. -/
import Derived.Test.YtpfbommaddaijaaZeQ1
import Derived.Test.YtpfbommaddaijaaZex16
import Derived.Carry
namespace Go.Proofs.Ytpfbommaddaijaa
open Go.RowKit Go.Proofs.YtpfbommaddaijaaW.PrintWords Go.Proofs.YtpfbommaddaijaaW.PrintLast PBoundTo
set_option linter.unusedVariables false
set_option linter.unusedSimpArgs false

/-- five cells stored -/
theorem blk_put5 {W : World} {g : Nat} {t : TypeId} {a b c d e a' b' c' d' e' : Value} (h : W.heap[g]? = some (.cells #[a', b', c', d', e'] t (0, 0))) :
    (((((W.setCell ⟨g, 0, none⟩ a).setCell ⟨g, 1, none⟩ b).setCell ⟨g, 2, none⟩ c).setCell ⟨g, 3, none⟩ d).setCell ⟨g, 4, none⟩ e).heap[g]? = some (.cells #[a, b, c, d, e] t (0, 0)) :=
  blk_set (blk_set (blk_set (blk_set (blk_set h 0 a) 1 b) 2 c) 3 d) 4 e
theorem below_put5 {w W : World} {g : Nat} {a b c d e : Value} (h : Below w.heap.size w W) (hg : w.heap.size ≤ g) :
    Below w.heap.size w (((((W.setCell ⟨g, 0, none⟩ a).setCell ⟨g, 1, none⟩ b).setCell ⟨g, 2, none⟩ c).setCell ⟨g, 3, none⟩ d).setCell ⟨g, 4, none⟩ e) :=
  below_set (below_set (below_set (below_set (below_set h hg) hg) hg) hg) hg
end Go.Proofs.Ytpfbommaddaijaa

namespace Go.Proofs.Ytpfbommaddaijaa
open Go.RowKit Go.Proofs.YtpfbommaddaijaaW.PrintWords Go.Proofs.YtpfbommaddaijaaW.PrintLast PBoundTo
set_option linter.unusedVariables false
set_option linter.unusedSimpArgs false

theorem bool_uniq {w : World} {A : Option Addr} {l l' : List Bool} (h : Kd.C Kd.bool w A l.length l) (h' : Kd.C Kd.bool w A l'.length l') (e : l.length = l'.length) : l = l' := by
  apply List.ext_getElem? 
  intro j
  rcases Nat.lt_or_ge j l.length with hj | hj
  · have hj' : j < l'.length := by omega
    obtain ⟨ad, hA, hc⟩ := h.2.2 (by omega)
    obtain ⟨ad', hA', hc'⟩ := h'.2.2 (by omega)
    obtain rfl : ad = ad' := Option.some.inj (hA.symm.trans hA')
    obtain ⟨c, h1, h2, h3⟩ := hc j _ (List.getElem?_eq_getElem hj)
    obtain ⟨c', h1', h2', h3'⟩ := hc' j _ (List.getElem?_eq_getElem hj')
    rw [List.getElem?_eq_getElem hj, List.getElem?_eq_getElem hj']
    have e1 : c = [.bool l[j]] := h2
    have e2 : c' = [.bool l'[j]] := h2'
    subst e1 e2
    have g1 := h3 0 _ rfl
    have g2 := h3' 0 _ rfl
    rw [g1] at g2
    injection g2 with g2
    injection g2 with g2
    rw [g2]
  · rw [List.getElem?_eq_none hj, List.getElem?_eq_none (by omega)]
theorem k32_uniq : ∀ (m : Nat) {l l' : List S32} {w : World} {A : Option Addr}, hgL l ≤ m → k32.C w A l.length l → k32.C w A l'.length l' → l.length = l'.length → l = l' := by
  intro m
  induction m with
  | zero =>
    intro l l' w A hm h h' e
    cases l with
    | nil => exact (List.eq_nil_of_length_eq_zero (by simpa using e.symm)).symm
    | cons x r => rw [hgL_cons] at hm; omega
  | succ m ih =>
    intro l l' w A hm h h' e
    apply List.ext_getElem?
    intro j
    rcases Nat.lt_or_ge j l.length with hj | hj
    · have hj' : j < l'.length := by omega
      obtain ⟨ad, hA, hc⟩ := h.2.2 (by omega)
      obtain ⟨ad', hA', hc'⟩ := h'.2.2 (by omega)
      obtain rfl : ad = ad' := Option.some.inj (hA.symm.trans hA')
      have hq := List.getElem?_eq_getElem hj
      have hq' := List.getElem?_eq_getElem hj'
      generalize l[j] = x at hq
      generalize l'[j] = y at hq'
      obtain ⟨c, h1, h2, h3⟩ := hc j _ hq
      obtain ⟨c', h1', h2', h3'⟩ := hc' j _ hq'
      obtain ⟨A3, c3, A4, c4, rfl, l3, g3, l4, g4⟩ := k32_open h2
      obtain ⟨B3, d3, B4, d4, rfl, l3', g3', l4', g4'⟩ := k32_open h2'
      have hmem := hg_mem hq
      have q0 := (h3 0 _ rfl).symm.trans (h3' 0 _ rfl)
      have q1 := (h3 1 _ rfl).symm.trans (h3' 1 _ rfl)
      have q2 := (h3 2 _ rfl).symm.trans (h3' 2 _ rfl)
      have q3 := (h3 3 _ rfl).symm.trans (h3' 3 _ rfl)
      have q4 := (h3 4 _ rfl).symm.trans (h3' 4 _ rfl)
      simp only [Option.some.injEq, Value.bool.injEq, Value.int.injEq, Value.slice.injEq, true_and] at q0 q1 q2 q3 q4
      obtain ⟨rfl, q3, -⟩ := q3
      obtain ⟨rfl, q4, -⟩ := q4
      have e3 := bool_uniq g3 g3' q3
      have e4 := ih (by rw [← hg_eq]; omega) g4 g4' q4
      rw [hq, hq']
      obtain ⟨x0, x1, x2, x3, x4⟩ := x
      obtain ⟨y0, y1, y2, y3, y4⟩ := y
      cases q0; cases q1; cases q2; cases e3; cases e4
      rfl
    · rw [List.getElem?_eq_none hj, List.getElem?_eq_none (by omega)]
end Go.Proofs.Ytpfbommaddaijaa

namespace Go.Proofs.Ytpfbommaddaijaa
open Go.RowKit Go.Proofs.YtpfbommaddaijaaW.PrintWords Go.Proofs.YtpfbommaddaijaaW.PrintLast PBoundTo
set_option linter.unusedVariables false
set_option linter.unusedSimpArgs false

mutual
/-- the depth of any tree: what stands below a leaf does not count -/
def dpt : S32 → Nat
  | ⟨lf, _, _, _, kids⟩ => if lf = true then 0 else dptL kids
def dptL : List S32 → Nat
  | [] => 0
  | x :: r => max (1 + dpt x) (dptL r)
end
theorem dpt_eq (x : S32) : dpt x = if x.f0 = true then 0 else dptL x.f4 := by cases x; rw [dpt]
theorem dptL_nil : dptL [] = 0 := by rw [dptL]
theorem dptL_cons (x : S32) (r : List S32) : dptL (x :: r) = max (1 + dpt x) (dptL r) := by rw [dptL]
/-- rows that lie in plain blocks, all the way down -/
def PlR : Nat → World → List S32 → Option Addr → Prop
  | 0, _, l, _ => l = []
  | m + 1, w, l, A => ∀ i, i < l.length → ∃ ad A3 c3 A4 c4, A = some ad ∧ Pl w ad ∧ w.cell? (ad.add (i * 5)) = some (.bool (rd_T32 l i).f0) ∧ w.cell? ⟨(ad.add (i * 5)).block, (ad.add (i * 5)).off + 1, none⟩ = some (I (rd_T32 l i).f1) ∧ w.cell? ⟨(ad.add (i * 5)).block, (ad.add (i * 5)).off + 2, none⟩ = some (I (rd_T32 l i).f2) ∧ w.cell? ⟨(ad.add (i * 5)).block, (ad.add (i * 5)).off + 3, none⟩ = some (.slice A3 (rd_T32 l i).f3.length c3) ∧ w.cell? ⟨(ad.add (i * 5)).block, (ad.add (i * 5)).off + 4, none⟩ = some (.slice A4 (rd_T32 l i).f4.length c4) ∧ PlR m w (rd_T32 l i).f4 A4
/-- a row of protocols that lies in a plain block, and so on down -/
def KRow (w : World) (l : List S32) (A : Option Addr) (c : Nat) : Prop := k32.C w A l.length l ∧ l.length ≤ c ∧ ∃ m, PlR m w l A
theorem KRow.C {w : World} {l : List S32} {A : Option Addr} {c : Nat} (h : KRow w l A c) : k32.C w A l.length l ∧ l.length ≤ c := ⟨h.1, h.2.1⟩
theorem row_at {w : World} {l : List S32} {A : Option Addr} {c : Nat} (h : KRow w l A c) (i : Nat) (hi : i < l.length) : ∃ ad A3 c3 A4 c4, A = some ad ∧ Pl w ad ∧ w.cell? (ad.add (i * 5)) = some (.bool (rd_T32 l i).f0) ∧ w.cell? ⟨(ad.add (i * 5)).block, (ad.add (i * 5)).off + 1, none⟩ = some (I (rd_T32 l i).f1) ∧ w.cell? ⟨(ad.add (i * 5)).block, (ad.add (i * 5)).off + 2, none⟩ = some (I (rd_T32 l i).f2) ∧ w.cell? ⟨(ad.add (i * 5)).block, (ad.add (i * 5)).off + 3, none⟩ = some (.slice A3 (rd_T32 l i).f3.length c3) ∧ w.cell? ⟨(ad.add (i * 5)).block, (ad.add (i * 5)).off + 4, none⟩ = some (.slice A4 (rd_T32 l i).f4.length c4) ∧ KRow w (rd_T32 l i).f4 A4 c4 := by
  obtain ⟨hC, hl, m, hp⟩ := h
  cases m with
  | zero => simp [PlR] at hp; subst hp; simp at hi
  | succ m =>
    obtain ⟨ad, A3, c3, A4, c4, rfl, hpl, x0, x1, x2, x3, x4, hr⟩ := hp i hi
    obtain ⟨ad', B3, d3, B4, d4, e, y0, y1, y2, y3, y4, l3, i3, l4, i4⟩ := at_T32 hC (i : Int) (by omega) (by omega)
    cases e
    simp only [Int.toNat_natCast] at y4
    have e4 := x4.symm.trans y4
    simp only [Option.some.injEq, Value.slice.injEq] at e4
    obtain ⟨rfl, _, rfl⟩ := e4
    exact ⟨ad, A3, c3, A4, c4, rfl, hpl, x0, x1, x2, x3, x4, i4, l4, m, hr⟩
/-- the entry tells a depth, as the base world w0 reads it -/
def Iv (w0 : World) (e : De) : Prop := ∃ l c, 0 < l.length ∧ (l.length : Int) = e.s ∧ KRow w0 l (some e.a) c ∧ 0 ≤ e.m ∧ e.d = ((min (dptL l) (e.m.toNat + 1) : Nat) : Int)
theorem iv_hit {w0 : World} {e : De} (h : Iv w0 e) {l : List S32} {a : Addr} {c M : Nat} (hr : KRow w0 l (some a) c) (h1 : e.a = a) (h2 : e.s = (l.length : Int)) (h3 : e.m = (M : Int)) : e.d = ((min (dptL l) (M + 1) : Nat) : Int) := by
  obtain ⟨l', c', hp, hs, hr', h0, hd⟩ := h
  rw [h1] at hr'
  have hl : l'.length = l.length := by rw [h2] at hs; omega
  have := k32_uniq (hgL l') (Nat.le_refl _) hr'.C.1 hr.C.1 hl
  subst this
  rw [hd, h3, Int.toNat_natCast]
theorem lookD_none {a : Addr} {s m : Int} : ∀ {xs : List De} {i : Nat}, lookD a s m xs i = none ↔ ∀ x ∈ xs, x.hit a s m = false
  | [], i => by simp [lookD]
  | x :: r, i => by
    rw [lookD]
    cases e : x.hit a s m with
    | true => simp [e]
    | false => simp [e, lookD_none (xs := r) (i := i + 1)]
theorem lookD_some {a : Addr} {s m : Int} : ∀ {xs : List De} {i : Nat} {p : Nat × De}, lookD a s m xs i = some p → p.2 ∈ xs ∧ p.2.a = a ∧ p.2.s = s ∧ p.2.m = m
  | x :: r, i, p, h => by
    rw [lookD] at h
    cases e : x.hit a s m with
    | true =>
      rw [if_pos e] at h
      obtain rfl : (i, x) = p := Option.some.inj h
      simp only [De.hit, Bool.and_eq_true, decide_eq_true_eq, beq_iff_eq] at e
      exact ⟨by simp, e.1.1.symm, e.1.2.symm, e.2.symm⟩
    | false =>
      rw [if_neg (by simp [e])] at h
      have := lookD_some (xs := r) h
      exact ⟨by simp [this.1], this.2⟩
theorem lookD_low {a : Addr} {s m : Int} {xs ys : List De} (h : lookD a s m xs 0 = none) (hy : ∀ y ∈ ys, y.m < m) : lookD a s m (xs ++ ys) 0 = none := by
  rw [lookD_none] at h ⊢
  intro x hx
  rcases List.mem_append.1 hx with hx | hx
  · exact h x hx
  · have := hy x hx
    have hne : (m == x.m) = false := by simp; omega
    simp [De.hit, hne]
end Go.Proofs.Ytpfbommaddaijaa

namespace Go.Proofs.Ytpfbommaddaijaa
open Go.RowKit Go.Maps Go.Proofs.YtpfbommaddaijaaW.PrintWords Go.Proofs.YtpfbommaddaijaaW.PrintLast PBoundTo
set_option linter.unusedVariables false
set_option linter.unusedSimpArgs false

set_option maxHeartbeats 1000000 in
theorem depth_leaf (W : World) (v p M : Int) (A3 A4 : Option Addr) (l3 l4 c3 c4 : Nat) (mp : Value) : Calls Try.prog 99 #[.agg #[.bool true, I v, I p, .slice A3 l3 c3, .slice A4 l4 c4], I M, mp] W fun e w' => e = .returned (I 0) ∧ Below W.heap.size W w' := by
  go_enter Try.func99, Try.ntmps99
  go_wp2
  go_ret
  exact ⟨rfl, (Below.refl _ _).alloc (Nat.le_refl _) _⟩
set_option maxHeartbeats 1000000 in
theorem depth_bare (W : World) (v p M : Int) (A3 A4 : Option Addr) (l3 c3 c4 : Nat) (mp : Value) : Calls Try.prog 99 #[.agg #[.bool false, I v, I p, .slice A3 l3 c3, .slice A4 0 c4], I M, mp] W fun e w' => e = .returned (I 0) ∧ Below W.heap.size W w' := by
  go_enter Try.func99, Try.ntmps99
  go_wp2
  go_ret
  exact ⟨rfl, (Below.refl _ _).alloc (Nat.le_refl _) _⟩
set_option maxHeartbeats 1000000 in
theorem depth_zero (W : World) (v p : Int) (A3 A4 : Option Addr) (l3 c3 c4 N : Nat) (hN : ((N : Int) == 0) = false) (mp : Value) : Calls Try.prog 99 #[.agg #[.bool false, I v, I p, .slice A3 l3 c3, .slice A4 N c4], I 0, mp] W fun e w' => e = .returned (I 1) ∧ Below W.heap.size W w' := by
  go_enter Try.func99, Try.ntmps99
  go_wp2
  go_ret
  exact ⟨rfl, (Below.refl _ _).alloc (Nat.le_refl _) _⟩
theorem Pl.below {w w' : World} {a : Addr} (h : Pl w a) (hb : Below w.heap.size w w') : Pl w' a := by
  obtain ⟨cs, t, h⟩ := h
  exact ⟨cs, t, (hb.block _ (Array.getElem?_eq_some_iff.1 h).1).trans h⟩
theorem PlR.keep {w w' : World} (hb : Below w.heap.size w w') : ∀ {m : Nat} {l : List S32} {A : Option Addr}, PlR m w l A → PlR m w' l A
  | 0, l, A, h => h
  | m + 1, l, A, h => fun i hi => by
    obtain ⟨ad, A3, c3, A4, c4, e, hp, x0, x1, x2, x3, x4, hk⟩ := h i hi
    exact ⟨ad, A3, c3, A4, c4, e, hp.below hb, cell_keep' hb x0, cell_keep' hb x1, cell_keep' hb x2, cell_keep' hb x3, cell_keep' hb x4, hk.keep hb⟩
theorem KRow.keep {w w' : World} {l : List S32} {A : Option Addr} {c : Nat} (h : KRow w l A c) (hb : Below w.heap.size w w') : KRow w' l A c := by
  obtain ⟨h1, h2, m, h3⟩ := h
  exact ⟨Kd.C_below h1 hb, h2, m, h3.keep hb⟩
theorem Dm.below {w w' : World} {b : Nat} {xs : List De} (h : Dm w b xs) (hb : Below w.heap.size w w') : Dm w' b xs := by
  obtain ⟨es, c, h1, h2, h3⟩ := h
  exact ⟨es, c, (hb.block _ (Array.getElem?_eq_some_iff.1 h1).1).trans h1, h2, fun x hx => (h3 x hx).below hb⟩
set_option maxHeartbeats 1000000 in
set_option maxRecDepth 100000 in
theorem depth_hit {W : World} {v p : Int} {A3 : Option Addr} {l3 c3 c4 N : Nat} {a4 : Addr} {b : Nat} {xs : List De} {M : Int} (hM : 0 < M ∧ M ≤ 60) (hN0 : 0 < N) (hN : ((N : Int) == 0) = false) (hD : Dm W b xs) (hp : Pl W a4) {q : Nat × De} (hq : lookD a4 N M xs 0 = some q) : Calls Try.prog 99 #[.agg #[.bool false, I v, I p, .slice A3 l3 c3, .slice (some a4) N c4], I M, .map (some b)] W fun e w' => e = .returned (I q.2.d) ∧ Below W.heap.size W w' := by
  have hM0 : ¬ M = 0 := by omega
  have hN1 : (0 : Int) < (N : Int) := by omega
  go_enter Try.func99, Try.ntmps99
  go_wp2
  go_region
  go_wp2_with (at_lookup; refine wpList_dm_look (b := b) (xs := xs) (ad := a4) (s := N) (t := M) rfl (.tmp 31) (.tmp 32) rfl rfl (hD.below (by exact ((((Below.refl _ _).alloc (Nat.le_refl _) _).alloc (by simp) _).drew))) rfl (hp.below (by exact ((((Below.refl _ _).alloc (Nat.le_refl _) _).alloc (by simp) _).drew))) (v := q.2.d) (r := true) (by rw [hq]) (by rw [hq]; rfl) ?_)
  go_ret
  exact ⟨rfl, ((((Below.refl _ _).alloc (Nat.le_refl _) _).alloc (by simp) _).drew)⟩
end Go.Proofs.Ytpfbommaddaijaa

