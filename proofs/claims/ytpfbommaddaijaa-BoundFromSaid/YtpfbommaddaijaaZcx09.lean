/- Formulas as trees, in memory; Formula trees and formulas as arguments: one for the other; Plain: the protocol that is made of a formula, and what it solves; The reference's Apply and Truth; What bound.Valid answers on any protocol: the same as the reference; What bound.Execute answers on any protocol. -/
import Derived.Test.YtpfbommaddaijaaZcKa
import Derived.Test.YtpfbommaddaijaaWWords
import Derived.Test.YtpfbommaddaijaaWLast
import Derived.Test.YtpfbommaddaijaaZcV6
import Derived.Test.YtpfbommaddaijaaZcx05
import Derived.Deep.RegionHeld3
import Derived.Test.YtpfbommaddaijaaZcPa
namespace Go.Proofs.Ytpfbommaddaijaa
open Go.RowKit Go.Proofs.YtpfbommaddaijaaW.PrintWords Go.Proofs.YtpfbommaddaijaaW.PrintLast
set_option linter.unusedVariables false
set_option linter.unusedSimpArgs false

inductive Fx where
  | leaf (k n : Int)
  | not (a : Fx)
  | bin (k : Int) (a b : Fx)
/-- the cells of a node -/
def Fm (w : World) : Fx → List Value → Prop
  | .leaf k n, cs => ∃ A c, cs = [I k, I n, .slice A 0 c]
  | .not a, cs => ∃ ad c ca, cs = [I 2, I 0, .slice (some ad) 1 c] ∧ 1 ≤ c ∧ ca.length = 3 ∧ (∀ i u, ca[i]? = some u → w.cell? (ad.add i) = some u) ∧ Fm w a ca
  | .bin k a b, cs => ∃ ad c ca cb, cs = [I k, I 0, .slice (some ad) 2 c] ∧ 2 ≤ c ∧ ca.length = 3 ∧ cb.length = 3 ∧ (∀ i u, ca[i]? = some u → w.cell? (ad.add i) = some u) ∧ (∀ i u, cb[i]? = some u → w.cell? (ad.add (3 + i)) = some u) ∧ Fm w a ca ∧ Fm w b cb
theorem cell_keep {w w' : World} (hb : Below w.heap.size w w') {a : Addr} {v : Value} (h : w.cell? a = some v) : w'.cell? a = some v := (hb.cell (World.block_lt_of_cell? _ _ h)).trans h
theorem Fm.keep {w w' : World} (hb : Below w.heap.size w w') : ∀ {t : Fx} {cs : List Value}, Fm w t cs → Fm w' t cs
  | .leaf k n, cs, h => h
  | .not a, cs, h => by
    obtain ⟨ad, c, ca, h1, h2, h3, h4, h5⟩ := h
    exact ⟨ad, c, ca, h1, h2, h3, fun i u hu => cell_keep hb (h4 i u hu), h5.keep hb⟩
  | .bin k a b, cs, h => by
    obtain ⟨ad, c, ca, cb, h1, h2, h3, h3', h4, h4', h5, h6⟩ := h
    exact ⟨ad, c, ca, cb, h1, h2, h3, h3', fun i u hu => cell_keep hb (h4 i u hu), fun i u hu => cell_keep hb (h4' i u hu), h5.keep hb, h6.keep hb⟩
theorem Fm.three {w : World} : ∀ {t : Fx} {cs : List Value}, Fm w t cs → ∃ k n A l c, cs = [I k, I n, .slice A l c]
  | .leaf k n, cs, ⟨A, c, h⟩ => ⟨k, n, A, 0, c, h⟩
  | .not a, cs, ⟨ad, c, ca, h, _⟩ => ⟨2, 0, _, 1, c, h⟩
  | .bin k a b, cs, ⟨ad, c, ca, cb, h, _⟩ => ⟨k, 0, _, 2, c, h⟩
/-- what a formula is worth -/
def Fx.size : Fx → Nat
  | .leaf _ _ => 1
  | .not a => a.size
  | .bin _ a b => a.size + b.size
def Fx.nodes : Fx → Nat
  | .leaf _ _ => 1
  | .not a => 1 + a.nodes
  | .bin _ a b => 1 + a.nodes + b.nodes
def Fx.val (x : Nat) : Fx → Bool
  | .leaf k n => if k = 0 then x.testBit n.toNat else decide (n = 1)
  | .not a => !a.val x
  | .bin k a b => if k = 3 then a.val x && b.val x else if k = 4 then a.val x || b.val x else a.val x != b.val x
def Fx.ok (m : Int) : Fx → Prop
  | .leaf k n => (k = 0 ∧ 0 ≤ n ∧ n < m) ∨ (k = 1 ∧ (n = 0 ∨ n = 1))
  | .not a => a.ok m
  | .bin k a b => (k = 3 ∨ k = 4 ∨ k = 5) ∧ a.ok m ∧ b.ok m
def Fx.has (q : Int) : Fx → Bool
  | .leaf k _ => k == q
  | .not a => q == 2 || a.has q
  | .bin k a b => k == q || a.has q || b.has q
def Fx.inp : Fx → Int
  | .leaf k n => if k = 0 then n + 1 else 0
  | .not a => max 0 a.inp
  | .bin _ a b => max (max 0 a.inp) b.inp
theorem Fx.inp_le {m : Int} (hm : 0 ≤ m) : ∀ {t : Fx}, t.ok m → 0 ≤ t.inp ∧ t.inp ≤ m
  | .leaf k n, h => by
    simp only [Fx.inp]
    rcases h with ⟨h1, h2, h3⟩ | ⟨h1, _⟩
    · rw [if_pos h1]; omega
    · rw [if_neg (by omega)]; omega
  | .not a, h => by have := Fx.inp_le hm (t := a) h; simp only [Fx.inp]; omega
  | .bin k a b, h => by
    have h1 := Fx.inp_le hm (t := a) h.2.1
    have h2 := Fx.inp_le hm (t := b) h.2.2
    simp only [Fx.inp]; omega
/-- a formula whose kids lie in the blocks from B on, below N -/
def FmS (B N : Nat) (w : World) (t : Fx) (cs : List Value) : Prop := ∀ w' : World, (∀ k, B ≤ k → k < N → w'.heap[k]? = w.heap[k]?) → Fm w' t cs
theorem FmS.on {B N : Nat} {w w1 : World} {t : Fx} {cs : List Value} (h : FmS B N w t cs) (hk : ∀ k, B ≤ k → k < N → w1.heap[k]? = w.heap[k]?) : FmS B N w1 t cs := fun w' hw => h w' (fun k h1 h2 => (hw k h1 h2).trans (hk k h1 h2))
theorem FmS.leaf {B N : Nat} {w : World} {k n : Int} {A : Option Addr} {c : Nat} : FmS B N w (.leaf k n) [I k, I n, .slice A 0 c] := fun w' _ => ⟨A, c, rfl⟩
end Go.Proofs.Ytpfbommaddaijaa

namespace Go.Proofs.Ytpfbommaddaijaa
open Go.RowKit Go.Proofs.YtpfbommaddaijaaW.PrintWords Go.Proofs.YtpfbommaddaijaaW.PrintLast PBoundTo
set_option linter.unusedVariables false
set_option linter.unusedSimpArgs false

def toS : Fx → S24
  | .leaf k n => ⟨k, n, []⟩
  | .not a => ⟨2, 0, [toS a]⟩
  | .bin k a b => ⟨k, 0, [toS a, toS b]⟩
def Fx.dep : Fx → Nat
  | .leaf k _ => cost k
  | .not a => a.dep
  | .bin k a b => max a.dep b.dep + cost k
theorem toS_nd : ∀ t : Fx, fnd (toS t) = t.nodes
  | .leaf k n => by rw [toS, fnd, fndL, Fx.nodes]
  | .not a => by rw [toS, fnd, fndL, fndL, Fx.nodes, toS_nd a]; rfl
  | .bin k a b => by rw [toS, fnd, fndL, fndL, fndL, Fx.nodes, toS_nd a, toS_nd b]; omega
theorem toS_sz : ∀ t : Fx, fsz (toS t) = t.size
  | .leaf k n => by rw [toS, fsz, Fx.size]
  | .not a => by rw [toS, fsz, fszL, Fx.size, toS_sz a]; rfl
  | .bin k a b => by rw [toS, fsz, fszL, fszL, Fx.size, toS_sz a, toS_sz b]; rfl
theorem toS_dp : ∀ t : Fx, fdp (toS t) = t.dep
  | .leaf k n => by rw [toS, fdp, fdpL, Fx.dep]; omega
  | .not a => by rw [toS, fdp, fdpL, fdpL, Fx.dep, toS_dp a]; unfold cost; simp
  | .bin k a b => by rw [toS, fdp, fdpL, fdpL, fdpL, Fx.dep, toS_dp a, toS_dp b]; omega
theorem toS_has (q : Int) : ∀ t : Fx, fhas q (toS t) = t.has q
  | .leaf k n => by rw [toS, fhas, fhasL, Fx.has]; simp
  | .not a => by rw [toS, fhas, fhasL, fhasL, Fx.has, toS_has q a, Bool.or_false, show ((2 : Int) == q) = (q == 2) by rw [Bool.eq_iff_iff, beq_iff_eq, beq_iff_eq]; exact eq_comm]
  | .bin k a b => by rw [toS, fhas, fhasL, fhasL, fhasL, Fx.has, toS_has q a, toS_has q b, Bool.or_false, Bool.or_assoc]
theorem toS_sh : ∀ t : Fx, t.ok 16 → fsh (toS t) = true
  | .leaf k n, h => by
    rw [toS, fsh, fshL]
    rcases h with ⟨rfl, h1, h2⟩ | ⟨rfl, rfl | rfl⟩ <;> simp [nok]
    exact ⟨h1, h2⟩
  | .not a, h => by rw [toS, fsh, fshL, fshL, toS_sh a h]; simp [nok]
  | .bin k a b, h => by
    obtain ⟨hk, h1, h2⟩ := h
    rw [toS, fsh, fshL, fshL, fshL, toS_sh a h1, toS_sh b h2]
    rcases hk with rfl | rfl | rfl <;> simp [nok]
theorem toS_in : ∀ t : Fx, t.ok 16 → fin (toS t) = max 0 t.inp
  | .leaf k n, h => by
    rw [toS, fin, finL, Fx.inp]
    rcases h with ⟨rfl, h1, h2⟩ | ⟨rfl, _⟩
    · simp; omega
    · simp only [if_neg (show ¬ (1 : Int) = 0 by decide)]; omega
  | .not a, h => by rw [toS, fin, finL, finL, Fx.inp, toS_in a h]; simp; omega
  | .bin k a b, h => by
    obtain ⟨hk, h1, h2⟩ := h
    rw [toS, fin, finL, finL, finL, Fx.inp, toS_in a h1, toS_in b h2]
    rcases hk with rfl | rfl | rfl <;> simp <;> omega
/-- a valid formula that is read is a tree in memory -/
theorem fm_of {w : World} : ∀ (m : Nat) (x : S24) {cs : List Value}, fns x ≤ m → fsh x = true → k24.K w x cs → ∃ t : Fx, toS t = x ∧ t.ok 16 ∧ Fm w t cs := by
  intro m
  induction m with
  | zero => intro x cs h; exact absurd h (by have := fns_pos x; omega)
  | succ m ih =>
    intro x cs hm hs hK
    obtain ⟨A2, c2, rfl, l2, g2⟩ := k24_open hK
    have hs' := fsh_eq x
    rw [hs] at hs'
    have hs2 := hs'.symm
    rw [Bool.and_eq_true] at hs2
    obtain ⟨s1, s2⟩ := hs2
    have hkid : ∀ j p, x.f2[j]? = some p → fns p ≤ m ∧ fsh p = true := fun j p hj => by
      obtain ⟨hlt, he⟩ := List.getElem?_eq_some_iff.1 hj
      have hr : rd_T24 x.f2 (j : Int) = p := by simp [rd_T24, List.getD, hj]
      have h1 := fns_kid x.f2 j hlt
      have h2 := fsh_kid x.f2 j hlt s2
      rw [hr] at h1 h2
      have := fns_eq x
      exact ⟨by omega, h2⟩
    obtain ⟨k, n, kids⟩ := x
    simp only at s1 l2 g2 hkid ⊢
    unfold nok at s1
    by_cases h0 : k = 0
    · rw [if_pos h0] at s1
      simp only [Bool.and_eq_true, decide_eq_true_eq, beq_iff_eq] at s1
      have : kids = [] := List.eq_nil_of_length_eq_zero (by omega)
      subst this h0
      exact ⟨.leaf 0 n, rfl, .inl ⟨rfl, s1.1⟩, A2, c2, rfl⟩
    rw [if_neg h0] at s1
    by_cases h1 : k = 1
    · rw [if_pos h1] at s1
      simp only [Bool.and_eq_true, Bool.or_eq_true, beq_iff_eq] at s1
      have : kids = [] := List.eq_nil_of_length_eq_zero (by omega)
      subst this h1
      exact ⟨.leaf 1 n, rfl, .inr ⟨rfl, s1.1⟩, A2, c2, rfl⟩
    rw [if_neg h1] at s1
    by_cases h2 : k = 2
    · rw [if_pos h2] at s1
      simp only [Bool.and_eq_true, beq_iff_eq] at s1
      obtain ⟨rfl, hl⟩ := s1
      subst h2
      match kids, hl with
      | [a], _ =>
        obtain ⟨ad, e, hc⟩ := g2.2.2 (by simp)
        obtain ⟨ca, q1, q2, q3⟩ := hc 0 a rfl
        obtain ⟨t, ht, hok, hf⟩ := ih a (hkid 0 a rfl).1 (hkid 0 a rfl).2 q2
        subst e
        exact ⟨.not t, by rw [toS, ht], hok, ad, c2, ca, rfl, l2, q1, fun i u hu => by have := q3 i u hu; rwa [Nat.zero_mul, Nat.zero_add] at this, hf⟩
    rw [if_neg h2] at s1
    by_cases h3 : k = 3 ∨ k = 4 ∨ k = 5
    · rw [if_pos h3] at s1
      simp only [Bool.and_eq_true, beq_iff_eq] at s1
      obtain ⟨rfl, hl⟩ := s1
      match kids, hl with
      | [a, b], _ =>
        obtain ⟨ad, e, hc⟩ := g2.2.2 (by simp)
        obtain ⟨ca, q1, q2, q3⟩ := hc 0 a rfl
        obtain ⟨cb, r1, r2, r3⟩ := hc 1 b rfl
        obtain ⟨t, ht, hok, hf⟩ := ih a (hkid 0 a rfl).1 (hkid 0 a rfl).2 q2
        obtain ⟨t', ht', hok', hf'⟩ := ih b (hkid 1 b rfl).1 (hkid 1 b rfl).2 r2
        subst e
        exact ⟨.bin k t t', by rw [toS, ht, ht'], ⟨h3, hok, hok'⟩, ad, c2, ca, cb, rfl, l2, q1, r1, fun i u hu => by have := q3 i u hu; rwa [Nat.zero_mul, Nat.zero_add] at this, fun i u hu => by have := r3 i u hu; rwa [Nat.one_mul] at this, hf, hf'⟩
    · rw [if_neg h3] at s1; cases s1
end Go.Proofs.Ytpfbommaddaijaa

namespace Go.Proofs.Ytpfbommaddaijaa
open PBoundTo
set_option linter.unusedVariables false
set_option linter.unusedSimpArgs false

/-- which answers a node gives -/
def ork (k : Int) (neg : Bool) : Bool := (k == 4) != neg
def fpt (n : Nat) : Fx → Bool → Pt
  | .leaf _ v, _ => .leaf v
  | .not a, neg => fpt n a (!neg)
  | .bin k a b, neg => .node (if ork k neg = true then 0 else 1) ((List.range (2 ^ n)).map fun i => (a.val i != neg) != ork k neg) (fpt n a neg) (fpt n b neg)
/-- without constants and FXor -/
def Fx.pl (n : Int) : Fx → Prop
  | .leaf k v => k = 0 ∧ 0 ≤ v ∧ v < n
  | .not a => a.pl n
  | .bin k a b => (k = 3 ∨ k = 4) ∧ a.pl n ∧ b.pl n
theorem pl_of {n : Int} : ∀ {t : Fx}, t.ok n → t.has 5 = false → t.has 1 = false → t.pl n
  | .leaf k v, h, _, h1 => by
    rcases h with h | ⟨rfl, _⟩
    · exact h
    · simp [Fx.has] at h1
  | .not a, h, h5, h1 => by
    simp [Fx.has] at h5 h1
    exact pl_of (t := a) h h5 h1
  | .bin k a b, h, h5, h1 => by
    simp [Fx.has] at h5 h1
    obtain ⟨hk, ha, hb⟩ := h
    refine ⟨?_, pl_of ha h5.1.2 h1.1.2, pl_of hb h5.2 h1.2⟩
    rcases hk with rfl | rfl | rfl
    · exact .inl rfl
    · exact .inr rfl
    · exact absurd rfl h5.1.1
theorem fpt_ok {n : Nat} : ∀ {t : Fx} {neg : Bool}, t.pl n → (fpt n t neg).ok n
  | .leaf k v, neg, h => h.2
  | .not a, neg, h => fpt_ok (t := a) h
  | .bin k a b, neg, h => by
    rw [fpt]
    exact ⟨by split; exact .inl rfl; exact .inr rfl, by simp, fpt_ok h.2.1, fpt_ok h.2.2⟩
theorem fpt_dep {n : Nat} : ∀ {t : Fx} {neg : Bool}, t.pl n → (fpt n t neg).dep = t.dep
  | .leaf k v, neg, h => by rw [fpt, Pt.dep, Fx.dep, h.1]; rfl
  | .not a, neg, h => by rw [fpt, Fx.dep, fpt_dep (t := a) h]
  | .bin k a b, neg, h => by
    rw [fpt, Pt.dep, Fx.dep, fpt_dep h.2.1, fpt_dep h.2.2]
    have : cost k = 1 := by rcases h.1 with rfl | rfl <;> rfl
    omega
theorem fpt_lvs {n : Nat} : ∀ {t : Fx} {neg : Bool}, (fpt n t neg).lvs = t.size
  | .leaf k v, neg => rfl
  | .not a, neg => by rw [fpt, Fx.size, fpt_lvs (t := a)]
  | .bin k a b, neg => by rw [fpt, Pt.lvs, Fx.size, fpt_lvs, fpt_lvs]
theorem Fx.size_pos : ∀ t : Fx, 1 ≤ t.size
  | .leaf _ _ => Nat.le_refl _
  | .not a => a.size_pos
  | .bin _ a b => by rw [Fx.size]; have := a.size_pos; omega
theorem fpt_nd {n : Nat} : ∀ {t : Fx} {neg : Bool}, nd (fpt n t neg).toS + 1 = 2 * t.size
  | .leaf k v, neg => by rw [fpt, Pt.toS, nd, ndL, Fx.size]
  | .not a, neg => by rw [fpt, Fx.size]; exact fpt_nd (t := a)
  | .bin k a b, neg => by
    rw [fpt, Pt.toS, nd, ndL, ndL, ndL, Fx.size]
    have := fpt_nd (n := n) (t := a) (neg := neg)
    have := fpt_nd (n := n) (t := b) (neg := neg)
    omega
/-- its weight -/
theorem fpt_wg {n : Nat} : ∀ {t : Fx} {neg : Bool}, wg (fpt n t neg).toS + 1 + 2 ^ n / 16 = t.size * (2 + 2 ^ n / 16)
  | .leaf k v, neg => by rw [fpt, Pt.toS, wg, wgL, Fx.size]; simp
  | .not a, neg => by rw [fpt, Fx.size]; exact fpt_wg (t := a)
  | .bin k a b, neg => by
    rw [fpt, Pt.toS, wg, wgL, wgL, wgL, Fx.size, Nat.add_mul]
    have := fpt_wg (n := n) (t := a) (neg := neg)
    have := fpt_wg (n := n) (t := b) (neg := neg)
    simp only [List.length_map, List.length_range]
    omega
theorem ask_get {n i : Nat} (hi : i < 2 ^ n) (g : Nat → Bool) : ((List.range (2 ^ n)).map g).getD i false = g i := by
  rw [List.getD_eq_getElem?_getD, List.getElem?_map, List.getElem?_range hi]; rfl
theorem fpt_run {n x y : Nat} (hx : x < 2 ^ n) (hy : y < 2 ^ n) : ∀ {t : Fx} {neg : Bool}, t.pl n → (t.val x != neg) = true → (t.val y != neg) = false → (x ^^^ y).testBit ((fpt n t neg).run x y).toNat = true
  | .leaf k v, neg, h, h1, h2 => by
    obtain ⟨rfl, _, _⟩ := h
    rw [fpt, Pt.run, Nat.testBit_xor]
    simp only [Fx.val, if_pos] at h1 h2
    cases e1 : x.testBit v.toNat <;> cases e2 : y.testBit v.toNat <;> cases neg <;> simp_all
  | .not a, neg, h, h1, h2 => by
    rw [fpt]
    refine fpt_run hx hy (t := a) h ?_ ?_
    · simp only [Fx.val] at h1
      rw [← h1]
      generalize Fx.val x a = u
      cases u <;> cases neg <;> rfl
    · simp only [Fx.val] at h2
      rw [← h2]
      generalize Fx.val y a = u
      cases u <;> cases neg <;> rfl
  | .bin k a b, neg, h, h1, h2 => by
    obtain ⟨hk, ha, hb⟩ := h
    rw [fpt]
    cases ho : ork k neg with
    | true =>
      rw [if_pos rfl, Pt.run0, ask_get hx]
      cases e : (a.val x != neg) with
      | true =>
        rw [if_neg (by decide)]
        refine fpt_run hx hy ha e ?_
        rcases hk with rfl | rfl <;> simp [Fx.val, ork] at h1 h2 ho e ⊢ <;> cases neg <;> simp_all
      | false =>
        rw [if_pos (by decide)]
        refine fpt_run hx hy hb ?_ ?_
        · rcases hk with rfl | rfl <;> simp [Fx.val, ork] at h1 h2 ho e ⊢ <;> cases neg <;> simp_all
        · rcases hk with rfl | rfl <;> simp [Fx.val, ork] at h1 h2 ho e ⊢ <;> cases neg <;> simp_all
    | false =>
      rw [if_neg (by decide), Pt.run1, ask_get hy]
      cases e : (a.val y != neg) with
      | true =>
        rw [if_pos (by decide)]
        refine fpt_run hx hy hb ?_ ?_
        · rcases hk with rfl | rfl <;> simp [Fx.val, ork] at h1 h2 ho e ⊢ <;> cases neg <;> simp_all
        · rcases hk with rfl | rfl <;> simp [Fx.val, ork] at h1 h2 ho e ⊢ <;> cases neg <;> simp_all
      | false =>
        rw [if_neg (by decide)]
        refine fpt_run hx hy ha ?_ e
        rcases hk with rfl | rfl <;> simp [Fx.val, ork] at h1 h2 ho e ⊢ <;> cases neg <;> simp_all
end Go.Proofs.Ytpfbommaddaijaa

namespace Go.Proofs.Ytpfbommaddaijaa
open Go.RowKit Go.Proofs.YtpfbommaddaijaaW.PrintWords
set_option linter.unusedVariables false
set_option linter.unusedSimpArgs false

def app (k : Int) (a b : Bool) : Bool := if k = 2 then !a else if k = 3 then a && b else if k = 4 then a || b else a != b
set_option maxHeartbeats 2000000 in
theorem apply_any {w : World} {k : Int} (hk : k = 2 ∨ k = 3 ∨ k = 4 ∨ k = 5) (a b : Bool) : Calls Try.prog 83 #[I k, .bool a, .bool b] w fun e w' => e = .returned (.bool (app k a b)) ∧ w' = w := by
  rcases hk with rfl | rfl | rfl | rfl
  · go_enter Try.func83, Try.ntmps83
    go_wp2
    go_ret
    exact ⟨rb (by simp [app]), rfl⟩
  · cases a with
    | false =>
      go_enter Try.func83, Try.ntmps83
      go_wp2
      go_ret
      exact ⟨rb (by simp [app]), rfl⟩
    | true =>
      go_enter Try.func83, Try.ntmps83
      go_wp2
      go_ret
      exact ⟨rb (by simp [app]), rfl⟩
  · cases a with
    | false =>
      go_enter Try.func83, Try.ntmps83
      go_wp2
      go_ret
      exact ⟨rb (by simp [app]), rfl⟩
    | true =>
      go_enter Try.func83, Try.ntmps83
      go_wp2
      go_ret
      exact ⟨rb (by simp [app]), rfl⟩
  · go_enter Try.func83, Try.ntmps83
    go_wp2
    go_ret
    exact ⟨rb (by cases a <;> cases b <;> rfl), rfl⟩
/-- the table of a formula in new memory -/
def RT (w : World) (n : Nat) (f : Nat → Bool) (e : Ending) (w' : World) : Prop := ∃ a c, e = .returned (.slice (some a) (2 ^ n) c) ∧ Bs w' (.slice (some a) (2 ^ n) c) (2 ^ n) f ∧ w.heap.size ≤ a.block ∧ Below w.heap.size w w'
theorem row_bs {w : World} {g N : Nat} {f : Nat → Bool} (hN : N ≤ 4096) (h : w.rowIs g 4 N (fun u => .bool (f u))) : Bs w (.slice (some ⟨g, 0, none⟩) N N) N f :=
  ⟨some ⟨g, 0, none⟩, N, rfl, Nat.le_refl _, by unfold maxLen; omega, fun _ => ⟨_, rfl⟩, fun b hb i hi => by cases hb; rw [Addr.add_lit, Nat.zero_add]; exact h.cell hi⟩
theorem wshl (n : Nat) (h : n ≤ 12) : wrap64 ((2 : Int) ^ n) = ((2 ^ n : Nat) : Int) := w2i n (by omega)
set_option maxHeartbeats 4000000 in
set_option maxRecDepth 100000 in
theorem truth_leaf {w : World} {n : Nat} (hn : n ≤ 12) {k m : Int} {A : Option Addr} {c : Nat} (ho : (k = 0 ∧ 0 ≤ m ∧ m < 16) ∨ (k = 1 ∧ (m = 0 ∨ m = 1))) :
    Calls Try.prog 35 #[.agg #[I k, I m, .slice A 0 c], I n] w (RT w n (fun x => (Fx.leaf k m).val x)) := by
  have hw := wshl n hn
  have hp12 : 2 ^ n ≤ 4096 := Nat.pow_le_pow_right (n := 2) (by decide) hn
  unfold RT
  obtain ⟨N, hN⟩ : ∃ N, N = 2 ^ n := ⟨_, rfl⟩
  rw [← hN] at hw hp12 ⊢
  clear hN
  have hmk := run_make_row' (P := Try.prog) 29 4 (.bool false) 1 Try.underlying29 Try.info4 rfl .i64 .i64 N (by omega) (by omega)
  obtain ⟨W, hW⟩ : ∃ W, W = w.alloc (.cells #[I k, I m, .slice A 0 c] 24) := ⟨_, rfl⟩
  have hsz : W.heap.size = w.heap.size + 1 := by rw [hW]; exact World.size_alloc _ _
  have HB1 : Hid (Below w.heap.size w W) := Lib.hid (by rw [hW]; exact (Below.refl _ _).alloc (Nat.le_refl _) _)
  have k0 : W.cell? ⟨w.heap.size, 0, none⟩ = some (I k) := by rw [hW]; simp [go_sem]
  have k1 : W.cell? ⟨w.heap.size, 1, none⟩ = some (I m) := by rw [hW]; simp [go_sem]
  have HR : Hid ((W.alloc (.cells (madeCells #[Value.bool false] N) 4)).rowIs W.heap.size 4 N (fun _ => .bool false)) := Lib.hid (World.rowIs_made W _ N 4)
  have HB : Hid (Below W.heap.size W (W.alloc (.cells (madeCells #[Value.bool false] N) 4))) := Lib.hid ((Below.refl _ _).alloc (Nat.le_refl _) _)
  have HK : Hid (∀ W' : World, Below W.heap.size W W' → W'.cell? ⟨w.heap.size, 0, none⟩ = some (I k) ∧ W'.cell? ⟨w.heap.size, 1, none⟩ = some (I m)) := Lib.hid (fun W' h => ⟨cell_keep h k0, cell_keep h k1⟩)
  have HSZ := Lib.hid hsz
  have hn0 : (0 : Int) ≤ n := by omega
  have HWE := Lib.hid hW
  clear hsz
  obtain ⟨W2, hW2⟩ : ∃ W2, W2 = W.alloc (.cells (madeCells #[Value.bool false] N) 4) := ⟨_, rfl⟩
  replace hmk := hmk W
  rw [← hW2] at hmk HR HB
  clear hW2
  have g0 := (HK.out _ HB.out).1
  have g1 := (HK.out _ HB.out).2
  go_enter Try.func35, Try.ntmps35
  go_upto_region 1 with fail
  rw [← hW]
  clear hW
  rcases ho with ⟨rfl, hm0, hm1⟩ | ⟨rfl, hm⟩
  · obtain ⟨v, rfl⟩ : ∃ v : Nat, m = v := ⟨m.toNat, by omega⟩
    go_wp2
    go_loopw [6] (fun x wr => ∃ i : Nat, i ≤ N ∧ x = I i ∧ Hid (wr.rowIs W.heap.size 4 N (fun u => .bool (decide (u < i) && u.testBit v))) ∧ Hid (Below W.heap.size W wr)) (fun x _ => N - (intOf x).toNat)
    case atStart => exact ⟨0, by omega, rfl, Lib.hid (HR.out.congr fun u _ => by simp), HB⟩
    case round =>
      clear HR HB k0 k1 g0 g1
      obtain ⟨i, hi, rfl, HR, HB⟩ := hrel
      by_cases hiN : i < N
      · obtain ⟨k0, k1⟩ := HK.out wr HB.out
        have hi0 : (0 : Int) ≤ i := by omega
        have hi1 : (i : Int) < N := by omega
        have hsa := shr_and (y := i) (i := v) (by omega)
        have c1 := HR.out.cell hiN
        have q1 := HR.out.frozen i
        have HNR : Hid (∀ b, b = i.testBit v → (wr.setCell ⟨W.heap.size, i, none⟩ (.bool b)).rowIs W.heap.size 4 N (fun u => .bool (decide (u < i + 1) && u.testBit v))) := Lib.hid (fun b hb => (HR.out.set i (.bool b)).congr fun u hu => by
          by_cases e : u = i
          · rw [if_pos e, hb, e]; simp
          · rw [if_neg e]
            have : (u < i) ↔ (u < i + 1) := by omega
            simp [this])
        have HNB : Hid (∀ b : Bool, Below W.heap.size W (wr.setCell ⟨W.heap.size, i, none⟩ (.bool b))) := Lib.hid (fun b => HB.out.setCell (Nat.le_refl _) _)
        cases hb : i.testBit v with
        | true =>
          have hsa' : bits BinOp.and IntKind.i64 ((i : Int) / 2 ^ v) 1 = 1 := by rw [hsa, hb]; rfl
          have HNR' : Hid ((wr.setCell ⟨W.heap.size, i, none⟩ (.bool true)).rowIs W.heap.size 4 N (fun u => .bool (decide (u < i + 1) && u.testBit v))) := Lib.hid (HNR.out _ hb.symm)
          clear hsa hb HR
          go_wp2
          go_roundw
          case rel => exact ⟨i + 1, by omega, by go_num, HNR', Lib.hid (HNB.out _)⟩
          case measure => simp [intOf]; omega
        | false =>
          have hsa' : bits BinOp.and IntKind.i64 ((i : Int) / 2 ^ v) 1 = 0 := by rw [hsa, hb]; rfl
          have HNR' : Hid ((wr.setCell ⟨W.heap.size, i, none⟩ (.bool false)).rowIs W.heap.size 4 N (fun u => .bool (decide (u < i + 1) && u.testBit v))) := Lib.hid (HNR.out _ hb.symm)
          clear hsa hb HR
          go_wp2
          go_roundw
          case rel => exact ⟨i + 1, by omega, by go_num, HNR', Lib.hid (HNB.out _)⟩
          case measure => simp [intOf]; omega
      · obtain rfl : N = i := by omega
        go_wp2
        go_ret
        exact ⟨_, _, rfl, row_bs (by omega) (HR.out.congr fun u hu => by simp [hu, Fx.val]), HB1.out.size, HB1.out.trans (HB.out.mono HB1.out.size)⟩
  · obtain ⟨b, hb⟩ : ∃ b, b = decide (m = 1) := ⟨_, rfl⟩
    have HBB := Lib.hid hb
    have hmb : (m == 1) = b := by rw [hb]; rfl
    clear hb hm
    go_wp2
    go_loopw [6] (fun x wr => ∃ i : Nat, i ≤ N ∧ x = I i ∧ Hid (wr.rowIs W.heap.size 4 N (fun u => .bool (decide (u < i) && b))) ∧ Hid (Below W.heap.size W wr)) (fun x _ => N - (intOf x).toNat)
    case atStart => exact ⟨0, by omega, rfl, Lib.hid (HR.out.congr fun u _ => by simp), HB⟩
    case round =>
      clear HR HB k0 k1 g0 g1
      obtain ⟨i, hi, rfl, HR, HB⟩ := hrel
      by_cases hiN : i < N
      · obtain ⟨k0, k1⟩ := HK.out wr HB.out
        have hi0 : (0 : Int) ≤ i := by omega
        have hi1 : (i : Int) < N := by omega
        have c1 := HR.out.cell hiN
        have q1 := HR.out.frozen i
        have HNR : Hid ((wr.setCell ⟨W.heap.size, i, none⟩ (.bool b)).rowIs W.heap.size 4 N (fun u => .bool (decide (u < i + 1) && b))) := Lib.hid ((HR.out.set i (.bool b)).congr fun u hu => by
          by_cases e : u = i
          · rw [if_pos e, e]; simp
          · rw [if_neg e]
            have : (u < i) ↔ (u < i + 1) := by omega
            simp [this])
        have HNB : Hid (Below W.heap.size W (wr.setCell ⟨W.heap.size, i, none⟩ (.bool b))) := Lib.hid (HB.out.setCell (Nat.le_refl _) _)
        clear HR
        go_wp2
        go_roundw
        case rel => exact ⟨i + 1, by omega, by go_num, HNR, HNB⟩
        case measure => simp [intOf]; omega
      · obtain rfl : N = i := by omega
        go_wp2
        go_ret
        exact ⟨_, _, rfl, row_bs (by omega) (HR.out.congr fun u hu => by simp [hu, Fx.val, HBB.out]), HB1.out.size, HB1.out.trans (HB.out.mono HB1.out.size)⟩
end Go.Proofs.Ytpfbommaddaijaa

namespace Go.Proofs.Ytpfbommaddaijaa
open Go.RowKit Go.Proofs.YtpfbommaddaijaaW.PrintWords Go.Proofs.YtpfbommaddaijaaW.PrintLast PBoundTo
set_option linter.unusedVariables false
set_option linter.unusedSimpArgs false

/-- what valid answers: r, and the count that is left -/
def VR (W : World) (gn : Nat) (r : Bool) (left : Int) (e : Ending) (W' : World) : Prop := e = .returned (.bool r) ∧ W.grownBy W' (some gn) ∧ (r = true → W'.heap[gn]? = some (.cells #[I left] 3 (0, 0)))
/-- what valid answers -/
def vb (n : Nat) (D : Int) (N : Nat) (x : S32) : Bool := decide (nd x ≤ N) && decide ((hg x : Int) ≤ D) && shp n x
theorem VR.left {W W' : World} {gn : Nat} {r r' : Bool} {a b : Int} {e : Ending} (h : VR W gn r a e W') (hr : r = r') (hl : r = true → a = b) : VR W gn r' b e W' := by
  subst hr
  obtain ⟨h1, h2, h3⟩ := h
  exact ⟨h1, h2, fun hr => by rw [← hl hr]; exact h3 hr⟩
end Go.Proofs.Ytpfbommaddaijaa

namespace Go.Proofs.Ytpfbommaddaijaa
open Go.RowKit Go.Proofs.YtpfbommaddaijaaW.PrintWords Go.Proofs.YtpfbommaddaijaaW.PrintLast PBoundTo
set_option linter.unusedVariables false
set_option linter.unusedSimpArgs false

/-- five cells stored -/
theorem blk_put5 {W : World} {g : Nat} {t : TypeId} {a b c d e a' b' c' d' e' : Value} (h : W.heap[g]? = some (.cells #[a', b', c', d', e'] t (0, 0))) :
    (((((W.setCell ⟨g, 0, none⟩ a).setCell ⟨g, 1, none⟩ b).setCell ⟨g, 2, none⟩ c).setCell ⟨g, 3, none⟩ d).setCell ⟨g, 4, none⟩ e).heap[g]? = some (.cells #[a, b, c, d, e] t (0, 0)) :=
  blk_set (blk_set (blk_set (blk_set (blk_set h 0 a) 1 b) 2 c) 3 d) 4 e
theorem below_put5 {w W : World} {g : Nat} {a b c d e : Value} (h : Below w.heap.size w W) (hg : w.heap.size ≤ g) :
    Below w.heap.size w (((((W.setCell ⟨g, 0, none⟩ a).setCell ⟨g, 1, none⟩ b).setCell ⟨g, 2, none⟩ c).setCell ⟨g, 3, none⟩ d).setCell ⟨g, 4, none⟩ e) :=
  below_set (below_set (below_set (below_set (below_set h hg) hg) hg) hg) hg
end Go.Proofs.Ytpfbommaddaijaa

