/- What an entry of the map of depths says; rows that lie in plain blocks; depths of any tree; depth: a leaf; no kids; the limit reached; a hit. -/
import Derived.Test.YtpfbommaddaijaaZax09
import Derived.Carry
namespace Go.Proofs.Ytpfbommaddaijaa
open Go.RowKit Go.Proofs.YtpfbommaddaijaaW.PrintWords Go.Proofs.YtpfbommaddaijaaW.PrintLast PBoundTo
set_option linter.unusedVariables false
set_option linter.unusedSimpArgs false

mutual
/-- the depth of any tree: what stands below a leaf does not count -/
def dpt : S32 → Nat
  | ⟨lf, _, _, _, kids⟩ => if lf = true then 0 else dptL kids
def dptL : List S32 → Nat
  | [] => 0
  | x :: r => max (1 + dpt x) (dptL r)
end
theorem dpt_eq (x : S32) : dpt x = if x.f0 = true then 0 else dptL x.f4 := by cases x; rw [dpt]
theorem dptL_nil : dptL [] = 0 := by rw [dptL]
theorem dptL_cons (x : S32) (r : List S32) : dptL (x :: r) = max (1 + dpt x) (dptL r) := by rw [dptL]
/-- a row of protocols that lies in a plain block, and so on down -/
def KRow (w : World) (l : List S32) (A : Option Addr) (c : Nat) : Prop := ∃ base ok, PCopy.k32.R 32 w base ok (.slice A l.length c) (cvL l)
theorem KRow.C {w : World} {l : List S32} {A : Option Addr} {c : Nat} (h : KRow w l A c) : k32.C w A l.length l ∧ l.length ≤ c := by
  obtain ⟨base, ok, h⟩ := h
  obtain ⟨A', c', e, h1, h2⟩ := Kd.R_reads h
  rw [cvL_len] at e h1
  injection e with e1 e2 e3
  subst e1 e3
  exact ⟨vc_C (hgL l) (Nat.le_refl _) h2, h1⟩
theorem row_at {w : World} {l : List S32} {A : Option Addr} {c : Nat} (h : KRow w l A c) (i : Nat) (hi : i < l.length) : ∃ ad A3 c3 A4 c4, A = some ad ∧ Pl w ad ∧ w.cell? (ad.add (i * 5)) = some (.bool (rd_T32 l i).f0) ∧ w.cell? ⟨(ad.add (i * 5)).block, (ad.add (i * 5)).off + 1, none⟩ = some (I (rd_T32 l i).f1) ∧ w.cell? ⟨(ad.add (i * 5)).block, (ad.add (i * 5)).off + 2, none⟩ = some (I (rd_T32 l i).f2) ∧ w.cell? ⟨(ad.add (i * 5)).block, (ad.add (i * 5)).off + 3, none⟩ = some (.slice A3 (rd_T32 l i).f3.length c3) ∧ w.cell? ⟨(ad.add (i * 5)).block, (ad.add (i * 5)).off + 4, none⟩ = some (.slice A4 (rd_T32 l i).f4.length c4) ∧ KRow w (rd_T32 l i).f4 A4 c4 := by
  obtain ⟨base, ok, h⟩ := h
  obtain ⟨A', c', e, h1, h2⟩ := OwnRow.reads h.2
  rw [cvL_len] at e h1
  injection e with e1 e2 e3
  subst e1 e3
  obtain ⟨inner, ho⟩ := Kd.R_own h
  obtain ⟨ad, cs, rfl, hsz, hM, hc0⟩ := h2.get_ PCopy.z32 (i : Int) (by omega) (by rw [cvL_len]; omega)
  have hrd := cvL_rd l i hi
  simp only [Int.toNat_natCast] at hM hc0
  have hM' : PCopy.k32.M w base (fun k => ok k ∧ some k ≠ (Value.slice (some ad) l.length c).ownBlock) (cv (rd_T32 l i)) cs := by
    rw [← hrd]; simpa [PCopy.rd_T32] using hM
  have hc : ∀ j u, cs[j]? = some u → w.cell? (ad.add (i * 5 + j)) = some u := hc0
  obtain ⟨v3, v4, rfl, g3, g4⟩ := PCopy.k32_openM hM'
  obtain ⟨A3, c3, rfl, l3, q3⟩ := Kd.R_reads g3
  obtain ⟨A4, c4, rfl, l4, q4⟩ := Kd.R_reads g4
  rw [cv_f0, cv_f1, cv_f2, cv_f3, cv_f4] at hc
  rw [cvL_len] at hc
  have g4' : KRow w (rd_T32 l (i : Int)).f4 A4 c4 := by
    rw [cv_f4] at g4
    rw [cvL_len] at g4
    exact ⟨_, _, g4⟩
  obtain ⟨cells, hb⟩ := own_typed ho ad.block rfl
  refine ⟨ad, A3, c3, A4, c4, rfl, ⟨_, _, hb⟩, hc 0 _ rfl, by rw [← add_field _ _ 1 (by omega)]; exact hc 1 _ rfl, by rw [← add_field _ _ 2 (by omega)]; exact hc 2 _ rfl, by rw [← add_field _ _ 3 (by omega)]; exact hc 3 _ rfl, by rw [← add_field _ _ 4 (by omega)]; exact hc 4 _ rfl, g4'⟩
/-- the entry tells a depth, as the base world w0 reads it -/
def Iv (w0 : World) (e : De) : Prop := ∃ l c, 0 < l.length ∧ (l.length : Int) = e.s ∧ KRow w0 l (some e.a) c ∧ 0 ≤ e.m ∧ e.d = ((min (dptL l) (e.m.toNat + 1) : Nat) : Int)
theorem iv_hit {w0 : World} {e : De} (h : Iv w0 e) {l : List S32} {a : Addr} {c M : Nat} (hr : KRow w0 l (some a) c) (h1 : e.a = a) (h2 : e.s = (l.length : Int)) (h3 : e.m = (M : Int)) : e.d = ((min (dptL l) (M + 1) : Nat) : Int) := by
  obtain ⟨l', c', hp, hs, hr', h0, hd⟩ := h
  rw [h1] at hr'
  have hl : l'.length = l.length := by rw [h2] at hs; omega
  have := k32_uniq (hgL l') (Nat.le_refl _) hr'.C.1 hr.C.1 hl
  subst this
  rw [hd, h3, Int.toNat_natCast]
theorem lookD_none {a : Addr} {s m : Int} : ∀ {xs : List De} {i : Nat}, lookD a s m xs i = none ↔ ∀ x ∈ xs, x.hit a s m = false
  | [], i => by simp [lookD]
  | x :: r, i => by
    rw [lookD]
    cases e : x.hit a s m with
    | true => simp [e]
    | false => simp [e, lookD_none (xs := r) (i := i + 1)]
theorem lookD_some {a : Addr} {s m : Int} : ∀ {xs : List De} {i : Nat} {p : Nat × De}, lookD a s m xs i = some p → p.2 ∈ xs ∧ p.2.a = a ∧ p.2.s = s ∧ p.2.m = m
  | x :: r, i, p, h => by
    rw [lookD] at h
    cases e : x.hit a s m with
    | true =>
      rw [if_pos e] at h
      obtain rfl : (i, x) = p := Option.some.inj h
      simp only [De.hit, Bool.and_eq_true, decide_eq_true_eq, beq_iff_eq] at e
      exact ⟨by simp, e.1.1.symm, e.1.2.symm, e.2.symm⟩
    | false =>
      rw [if_neg (by simp [e])] at h
      have := lookD_some (xs := r) h
      exact ⟨by simp [this.1], this.2⟩
theorem lookD_low {a : Addr} {s m : Int} {xs ys : List De} (h : lookD a s m xs 0 = none) (hy : ∀ y ∈ ys, y.m < m) : lookD a s m (xs ++ ys) 0 = none := by
  rw [lookD_none] at h ⊢
  intro x hx
  rcases List.mem_append.1 hx with hx | hx
  · exact h x hx
  · have := hy x hx
    have hne : (m == x.m) = false := by simp; omega
    simp [De.hit, hne]
end Go.Proofs.Ytpfbommaddaijaa

namespace Go.Proofs.Ytpfbommaddaijaa
open Go.RowKit Go.Maps Go.Proofs.YtpfbommaddaijaaW.PrintWords Go.Proofs.YtpfbommaddaijaaW.PrintLast PBoundTo
set_option linter.unusedVariables false
set_option linter.unusedSimpArgs false

set_option maxHeartbeats 1000000 in
theorem depth_leaf (W : World) (v p M : Int) (A3 A4 : Option Addr) (l3 l4 c3 c4 : Nat) (mp : Value) : Calls Try.prog 99 #[.agg #[.bool true, I v, I p, .slice A3 l3 c3, .slice A4 l4 c4], I M, mp] W fun e w' => e = .returned (I 0) ∧ Below W.heap.size W w' := by
  go_enter Try.func99, Try.ntmps99
  go_wp2
  go_ret
  exact ⟨rfl, (Below.refl _ _).alloc (Nat.le_refl _) _⟩
set_option maxHeartbeats 1000000 in
theorem depth_bare (W : World) (v p M : Int) (A3 A4 : Option Addr) (l3 c3 c4 : Nat) (mp : Value) : Calls Try.prog 99 #[.agg #[.bool false, I v, I p, .slice A3 l3 c3, .slice A4 0 c4], I M, mp] W fun e w' => e = .returned (I 0) ∧ Below W.heap.size W w' := by
  go_enter Try.func99, Try.ntmps99
  go_wp2
  go_ret
  exact ⟨rfl, (Below.refl _ _).alloc (Nat.le_refl _) _⟩
set_option maxHeartbeats 1000000 in
theorem depth_zero (W : World) (v p : Int) (A3 A4 : Option Addr) (l3 c3 c4 N : Nat) (hN : ((N : Int) == 0) = false) (mp : Value) : Calls Try.prog 99 #[.agg #[.bool false, I v, I p, .slice A3 l3 c3, .slice A4 N c4], I 0, mp] W fun e w' => e = .returned (I 1) ∧ Below W.heap.size W w' := by
  go_enter Try.func99, Try.ntmps99
  go_wp2
  go_ret
  exact ⟨rfl, (Below.refl _ _).alloc (Nat.le_refl _) _⟩
theorem Pl.below {w w' : World} {a : Addr} (h : Pl w a) (hb : Below w.heap.size w w') : Pl w' a := by
  obtain ⟨cs, t, h⟩ := h
  exact ⟨cs, t, (hb.block _ (Array.getElem?_eq_some_iff.1 h).1).trans h⟩
theorem Dm.below {w w' : World} {b : Nat} {xs : List De} (h : Dm w b xs) (hb : Below w.heap.size w w') : Dm w' b xs := by
  obtain ⟨es, c, h1, h2, h3⟩ := h
  exact ⟨es, c, (hb.block _ (Array.getElem?_eq_some_iff.1 h1).1).trans h1, h2, fun x hx => (h3 x hx).below hb⟩
set_option maxHeartbeats 1000000 in
set_option maxRecDepth 100000 in
theorem depth_hit {W : World} {v p : Int} {A3 : Option Addr} {l3 c3 c4 N : Nat} {a4 : Addr} {b : Nat} {xs : List De} {M : Int} (hM : 0 < M ∧ M ≤ 60) (hN0 : 0 < N) (hN : ((N : Int) == 0) = false) (hD : Dm W b xs) (hp : Pl W a4) {q : Nat × De} (hq : lookD a4 N M xs 0 = some q) : Calls Try.prog 99 #[.agg #[.bool false, I v, I p, .slice A3 l3 c3, .slice (some a4) N c4], I M, .map (some b)] W fun e w' => e = .returned (I q.2.d) ∧ Below W.heap.size W w' := by
  have hM0 : ¬ M = 0 := by omega
  have hN1 : (0 : Int) < (N : Int) := by omega
  go_enter Try.func99, Try.ntmps99
  go_wp2
  go_region
  go_wp2_with (at_lookup; refine wpList_dm_look (b := b) (xs := xs) (ad := a4) (s := N) (t := M) rfl (.tmp 31) (.tmp 32) rfl rfl (hD.below (by exact ((((Below.refl _ _).alloc (Nat.le_refl _) _).alloc (by simp) _).drew))) rfl (hp.below (by exact ((((Below.refl _ _).alloc (Nat.le_refl _) _).alloc (by simp) _).drew))) (v := q.2.d) (r := true) (by rw [hq]) (by rw [hq]; rfl) ?_)
  go_ret
  exact ⟨rfl, ((((Below.refl _ _).alloc (Nat.le_refl _) _).alloc (by simp) _).drew)⟩
end Go.Proofs.Ytpfbommaddaijaa

