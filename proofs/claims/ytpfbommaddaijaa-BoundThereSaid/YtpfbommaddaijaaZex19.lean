/- Formulas as trees, in memory; Formula trees and formulas as arguments: one for the other. -/
import Derived.Test.YtpfbommaddaijaaZeKa
import Derived.Test.YtpfbommaddaijaaZeWWords
import Derived.Test.YtpfbommaddaijaaZeWLast
import Derived.Test.YtpfbommaddaijaaZeV6
namespace Go.Proofs.Ytpfbommaddaijaa
open Go.RowKit Go.Proofs.YtpfbommaddaijaaW.PrintWords Go.Proofs.YtpfbommaddaijaaW.PrintLast
set_option linter.unusedVariables false
set_option linter.unusedSimpArgs false

inductive Fx where
  | leaf (k n : Int)
  | not (a : Fx)
  | bin (k : Int) (a b : Fx)
/-- the cells of a node -/
def Fm (w : World) : Fx → List Value → Prop
  | .leaf k n, cs => ∃ A c, cs = [I k, I n, .slice A 0 c]
  | .not a, cs => ∃ ad c ca, cs = [I 2, I 0, .slice (some ad) 1 c] ∧ 1 ≤ c ∧ ca.length = 3 ∧ (∀ i u, ca[i]? = some u → w.cell? (ad.add i) = some u) ∧ Fm w a ca
  | .bin k a b, cs => ∃ ad c ca cb, cs = [I k, I 0, .slice (some ad) 2 c] ∧ 2 ≤ c ∧ ca.length = 3 ∧ cb.length = 3 ∧ (∀ i u, ca[i]? = some u → w.cell? (ad.add i) = some u) ∧ (∀ i u, cb[i]? = some u → w.cell? (ad.add (3 + i)) = some u) ∧ Fm w a ca ∧ Fm w b cb
theorem cell_keep {w w' : World} (hb : Below w.heap.size w w') {a : Addr} {v : Value} (h : w.cell? a = some v) : w'.cell? a = some v := (hb.cell (World.block_lt_of_cell? _ _ h)).trans h
theorem Fm.keep {w w' : World} (hb : Below w.heap.size w w') : ∀ {t : Fx} {cs : List Value}, Fm w t cs → Fm w' t cs
  | .leaf k n, cs, h => h
  | .not a, cs, h => by
    obtain ⟨ad, c, ca, h1, h2, h3, h4, h5⟩ := h
    exact ⟨ad, c, ca, h1, h2, h3, fun i u hu => cell_keep hb (h4 i u hu), h5.keep hb⟩
  | .bin k a b, cs, h => by
    obtain ⟨ad, c, ca, cb, h1, h2, h3, h3', h4, h4', h5, h6⟩ := h
    exact ⟨ad, c, ca, cb, h1, h2, h3, h3', fun i u hu => cell_keep hb (h4 i u hu), fun i u hu => cell_keep hb (h4' i u hu), h5.keep hb, h6.keep hb⟩
theorem Fm.three {w : World} : ∀ {t : Fx} {cs : List Value}, Fm w t cs → ∃ k n A l c, cs = [I k, I n, .slice A l c]
  | .leaf k n, cs, ⟨A, c, h⟩ => ⟨k, n, A, 0, c, h⟩
  | .not a, cs, ⟨ad, c, ca, h, _⟩ => ⟨2, 0, _, 1, c, h⟩
  | .bin k a b, cs, ⟨ad, c, ca, cb, h, _⟩ => ⟨k, 0, _, 2, c, h⟩
/-- what a formula is worth -/
def Fx.size : Fx → Nat
  | .leaf _ _ => 1
  | .not a => a.size
  | .bin _ a b => a.size + b.size
def Fx.nodes : Fx → Nat
  | .leaf _ _ => 1
  | .not a => 1 + a.nodes
  | .bin _ a b => 1 + a.nodes + b.nodes
def Fx.nest : Fx → Nat
  | .leaf _ _ => 1
  | .not a => a.nest + 1
  | .bin _ a b => max a.nest b.nest + 1
def Fx.val (x : Nat) : Fx → Bool
  | .leaf k n => if k = 0 then x.testBit n.toNat else decide (n = 1)
  | .not a => !a.val x
  | .bin k a b => if k = 3 then a.val x && b.val x else if k = 4 then a.val x || b.val x else a.val x != b.val x
def Fx.ok (m : Int) : Fx → Prop
  | .leaf k n => (k = 0 ∧ 0 ≤ n ∧ n < m) ∨ (k = 1 ∧ (n = 0 ∨ n = 1))
  | .not a => a.ok m
  | .bin k a b => (k = 3 ∨ k = 4 ∨ k = 5) ∧ a.ok m ∧ b.ok m
def Fx.has (q : Int) : Fx → Bool
  | .leaf k _ => k == q
  | .not a => q == 2 || a.has q
  | .bin k a b => k == q || a.has q || b.has q
def Fx.inp : Fx → Int
  | .leaf k n => if k = 0 then n + 1 else 0
  | .not a => max 0 a.inp
  | .bin _ a b => max (max 0 a.inp) b.inp
theorem Fx.inp_le {m : Int} (hm : 0 ≤ m) : ∀ {t : Fx}, t.ok m → 0 ≤ t.inp ∧ t.inp ≤ m
  | .leaf k n, h => by
    simp only [Fx.inp]
    rcases h with ⟨h1, h2, h3⟩ | ⟨h1, _⟩
    · rw [if_pos h1]; omega
    · rw [if_neg (by omega)]; omega
  | .not a, h => by have := Fx.inp_le hm (t := a) h; simp only [Fx.inp]; omega
  | .bin k a b, h => by
    have h1 := Fx.inp_le hm (t := a) h.2.1
    have h2 := Fx.inp_le hm (t := b) h.2.2
    simp only [Fx.inp]; omega
theorem Fx.ok_mono {m m' : Int} (h : m ≤ m') : ∀ {t : Fx}, t.ok m → t.ok m'
  | .leaf k n, hk => by rcases hk with ⟨h1, h2, h3⟩ | h1; exact .inl ⟨h1, h2, by omega⟩; exact .inr h1
  | .not a, hk => Fx.ok_mono h (t := a) hk
  | .bin k a b, hk => ⟨hk.1, Fx.ok_mono h hk.2.1, Fx.ok_mono h hk.2.2⟩
/-- a formula whose kids lie in the blocks from B on, below N -/
def FmS (B N : Nat) (w : World) (t : Fx) (cs : List Value) : Prop := ∀ w' : World, (∀ k, B ≤ k → k < N → w'.heap[k]? = w.heap[k]?) → Fm w' t cs
theorem FmS.fm {B N : Nat} {w : World} {t : Fx} {cs : List Value} (h : FmS B N w t cs) : Fm w t cs := h w (fun _ _ _ => rfl)
theorem FmS.on {B N : Nat} {w w1 : World} {t : Fx} {cs : List Value} (h : FmS B N w t cs) (hk : ∀ k, B ≤ k → k < N → w1.heap[k]? = w.heap[k]?) : FmS B N w1 t cs := fun w' hw => h w' (fun k h1 h2 => (hw k h1 h2).trans (hk k h1 h2))
theorem FmS.wide {B N B' N' : Nat} {w : World} {t : Fx} {cs : List Value} (h : FmS B N w t cs) (h1 : B' ≤ B) (h2 : N ≤ N') : FmS B' N' w t cs := fun w' hw => h w' (fun k q1 q2 => hw k (by omega) (by omega))
theorem FmS.leaf {B N : Nat} {w : World} {k n : Int} {A : Option Addr} {c : Nat} : FmS B N w (.leaf k n) [I k, I n, .slice A 0 c] := fun w' _ => ⟨A, c, rfl⟩
end Go.Proofs.Ytpfbommaddaijaa

namespace Go.Proofs.Ytpfbommaddaijaa
open Go.RowKit Go.Proofs.YtpfbommaddaijaaW.PrintWords Go.Proofs.YtpfbommaddaijaaW.PrintLast PBoundTo
set_option linter.unusedVariables false
set_option linter.unusedSimpArgs false

def toS : Fx → S24
  | .leaf k n => ⟨k, n, []⟩
  | .not a => ⟨2, 0, [toS a]⟩
  | .bin k a b => ⟨k, 0, [toS a, toS b]⟩
theorem c_one {w : World} {d : Kd S24} (hsz : d.sz = 3) {ad : Addr} {s : S24} {ca : List Value} (hl : ca.length = 3) (hc : ∀ i u, ca[i]? = some u → w.cell? (ad.add i) = some u) (hk : d.K w s ca) : d.C w (some ad) [s].length [s] :=
  ⟨rfl, by simp, fun _ => ⟨ad, rfl, fun j p hj => by
    have hj0 : j = 0 := by have := (List.getElem?_eq_some_iff.1 hj).1; simpa using this
    subst hj0
    simp at hj
    subst hj
    exact ⟨ca, by rw [hl, hsz], hk, fun i u hu => by rw [Nat.zero_mul, Nat.zero_add]; exact hc i u hu⟩⟩⟩
theorem c_two {w : World} {d : Kd S24} (hsz : d.sz = 3) {ad : Addr} {s s' : S24} {ca cb : List Value} (hl : ca.length = 3) (hl' : cb.length = 3) (hc : ∀ i u, ca[i]? = some u → w.cell? (ad.add i) = some u) (hc' : ∀ i u, cb[i]? = some u → w.cell? (ad.add (3 + i)) = some u) (hk : d.K w s ca) (hk' : d.K w s' cb) : d.C w (some ad) [s, s'].length [s, s'] :=
  ⟨rfl, by simp, fun _ => ⟨ad, rfl, fun j p hj => by
    have hj2 : j < 2 := by have := (List.getElem?_eq_some_iff.1 hj).1; simpa using this
    have h01 : j = 0 ∨ j = 1 := by omega
    rcases h01 with rfl | rfl
    · simp at hj
      subst hj
      exact ⟨ca, by rw [hl, hsz], hk, fun i u hu => by rw [Nat.zero_mul, Nat.zero_add]; exact hc i u hu⟩
    · simp at hj
      subst hj
      exact ⟨cb, by rw [hl', hsz], hk', fun i u hu => by rw [Nat.one_mul, hsz]; exact hc' i u hu⟩⟩⟩
theorem fm_toS {w : World} : ∀ {t : Fx} {cs : List Value}, Fm w t cs → k24.K w (toS t) cs
  | .leaf k n, cs, ⟨A, c, h⟩ => by
    subst h
    exact k24_mk w ⟨k, n, []⟩ (A2 := A) (c2 := c) (Nat.zero_le _) ⟨rfl, by simp, fun h => absurd h (by simp)⟩
  | .not a, cs, ⟨ad, c, ca, h1, h2, h3, h4, h5⟩ => by
    subst h1
    exact k24_mk w ⟨2, 0, [toS a]⟩ (A2 := some ad) (c2 := c) h2 (c_one rfl h3 h4 (fm_toS h5))
  | .bin k a b, cs, ⟨ad, c, ca, cb, h1, h2, h3, h3', h4, h4', h5, h6⟩ => by
    subst h1
    exact k24_mk w ⟨k, 0, [toS a, toS b]⟩ (A2 := some ad) (c2 := c) h2 (c_two rfl h3 h3' h4 h4' (fm_toS h5) (fm_toS h6))
/-- as an argument -/
theorem fm_arg {w : World} {t : Fx} {x y z : Value} (h : Fm w t [x, y, z]) : ∃ A c, x = I (toS t).f0 ∧ y = I (toS t).f1 ∧ z = .slice A (toS t).f2.length c ∧ (toS t).f2.length ≤ c ∧ Kd.C k24 w A (toS t).f2.length (toS t).f2 := by
  obtain ⟨A, c, h1, h2, h3⟩ := k24_open (fm_toS h)
  simp only [List.cons.injEq, and_true] at h1
  exact ⟨A, c, h1.1, h1.2.1, h1.2.2, h2, h3⟩
def Fx.dep : Fx → Nat
  | .leaf k _ => cost k
  | .not a => a.dep
  | .bin k a b => max a.dep b.dep + cost k
theorem toS_nd : ∀ t : Fx, fnd (toS t) = t.nodes
  | .leaf k n => by rw [toS, fnd, fndL, Fx.nodes]
  | .not a => by rw [toS, fnd, fndL, fndL, Fx.nodes, toS_nd a]; rfl
  | .bin k a b => by rw [toS, fnd, fndL, fndL, fndL, Fx.nodes, toS_nd a, toS_nd b]; omega
theorem toS_ns : ∀ t : Fx, fns (toS t) = t.nest
  | .leaf k n => by rw [toS, fns, fnsL, Fx.nest]
  | .not a => by rw [toS, fns, fnsL, fnsL, Fx.nest, toS_ns a]; omega
  | .bin k a b => by rw [toS, fns, fnsL, fnsL, fnsL, Fx.nest, toS_ns a, toS_ns b]; omega
theorem toS_sz : ∀ t : Fx, fsz (toS t) = t.size
  | .leaf k n => by rw [toS, fsz, Fx.size]
  | .not a => by rw [toS, fsz, fszL, Fx.size, toS_sz a]; rfl
  | .bin k a b => by rw [toS, fsz, fszL, fszL, Fx.size, toS_sz a, toS_sz b]; rfl
theorem toS_dp : ∀ t : Fx, fdp (toS t) = t.dep
  | .leaf k n => by rw [toS, fdp, fdpL, Fx.dep]; omega
  | .not a => by rw [toS, fdp, fdpL, fdpL, Fx.dep, toS_dp a]; unfold cost; simp
  | .bin k a b => by rw [toS, fdp, fdpL, fdpL, fdpL, Fx.dep, toS_dp a, toS_dp b]; omega
theorem toS_has (q : Int) : ∀ t : Fx, fhas q (toS t) = t.has q
  | .leaf k n => by rw [toS, fhas, fhasL, Fx.has]; simp
  | .not a => by rw [toS, fhas, fhasL, fhasL, Fx.has, toS_has q a, Bool.or_false, show ((2 : Int) == q) = (q == 2) by rw [Bool.eq_iff_iff, beq_iff_eq, beq_iff_eq]; exact eq_comm]
  | .bin k a b => by rw [toS, fhas, fhasL, fhasL, fhasL, Fx.has, toS_has q a, toS_has q b, Bool.or_false, Bool.or_assoc]
theorem toS_sh : ∀ t : Fx, t.ok 16 → fsh (toS t) = true
  | .leaf k n, h => by
    rw [toS, fsh, fshL]
    rcases h with ⟨rfl, h1, h2⟩ | ⟨rfl, rfl | rfl⟩ <;> simp [nok]
    exact ⟨h1, h2⟩
  | .not a, h => by rw [toS, fsh, fshL, fshL, toS_sh a h]; simp [nok]
  | .bin k a b, h => by
    obtain ⟨hk, h1, h2⟩ := h
    rw [toS, fsh, fshL, fshL, fshL, toS_sh a h1, toS_sh b h2]
    rcases hk with rfl | rfl | rfl <;> simp [nok]
theorem toS_in : ∀ t : Fx, t.ok 16 → fin (toS t) = max 0 t.inp
  | .leaf k n, h => by
    rw [toS, fin, finL, Fx.inp]
    rcases h with ⟨rfl, h1, h2⟩ | ⟨rfl, _⟩
    · simp; omega
    · simp only [if_neg (show ¬ (1 : Int) = 0 by decide)]; omega
  | .not a, h => by rw [toS, fin, finL, finL, Fx.inp, toS_in a h]; simp; omega
  | .bin k a b, h => by
    obtain ⟨hk, h1, h2⟩ := h
    rw [toS, fin, finL, finL, finL, Fx.inp, toS_in a h1, toS_in b h2]
    rcases hk with rfl | rfl | rfl <;> simp <;> omega
/-- a valid formula that is read is a tree in memory -/
theorem fm_of {w : World} : ∀ (m : Nat) (x : S24) {cs : List Value}, fns x ≤ m → fsh x = true → k24.K w x cs → ∃ t : Fx, toS t = x ∧ t.ok 16 ∧ Fm w t cs := by
  intro m
  induction m with
  | zero => intro x cs h; exact absurd h (by have := fns_pos x; omega)
  | succ m ih =>
    intro x cs hm hs hK
    obtain ⟨A2, c2, rfl, l2, g2⟩ := k24_open hK
    have hs' := fsh_eq x
    rw [hs] at hs'
    have hs2 := hs'.symm
    rw [Bool.and_eq_true] at hs2
    obtain ⟨s1, s2⟩ := hs2
    have hkid : ∀ j p, x.f2[j]? = some p → fns p ≤ m ∧ fsh p = true := fun j p hj => by
      obtain ⟨hlt, he⟩ := List.getElem?_eq_some_iff.1 hj
      have hr : rd_T24 x.f2 (j : Int) = p := by simp [rd_T24, List.getD, hj]
      have h1 := fns_kid x.f2 j hlt
      have h2 := fsh_kid x.f2 j hlt s2
      rw [hr] at h1 h2
      have := fns_eq x
      exact ⟨by omega, h2⟩
    obtain ⟨k, n, kids⟩ := x
    simp only at s1 l2 g2 hkid ⊢
    unfold nok at s1
    by_cases h0 : k = 0
    · rw [if_pos h0] at s1
      simp only [Bool.and_eq_true, decide_eq_true_eq, beq_iff_eq] at s1
      have : kids = [] := List.eq_nil_of_length_eq_zero (by omega)
      subst this h0
      exact ⟨.leaf 0 n, rfl, .inl ⟨rfl, s1.1⟩, A2, c2, rfl⟩
    rw [if_neg h0] at s1
    by_cases h1 : k = 1
    · rw [if_pos h1] at s1
      simp only [Bool.and_eq_true, Bool.or_eq_true, beq_iff_eq] at s1
      have : kids = [] := List.eq_nil_of_length_eq_zero (by omega)
      subst this h1
      exact ⟨.leaf 1 n, rfl, .inr ⟨rfl, s1.1⟩, A2, c2, rfl⟩
    rw [if_neg h1] at s1
    by_cases h2 : k = 2
    · rw [if_pos h2] at s1
      simp only [Bool.and_eq_true, beq_iff_eq] at s1
      obtain ⟨rfl, hl⟩ := s1
      subst h2
      match kids, hl with
      | [a], _ =>
        obtain ⟨ad, e, hc⟩ := g2.2.2 (by simp)
        obtain ⟨ca, q1, q2, q3⟩ := hc 0 a rfl
        obtain ⟨t, ht, hok, hf⟩ := ih a (hkid 0 a rfl).1 (hkid 0 a rfl).2 q2
        subst e
        exact ⟨.not t, by rw [toS, ht], hok, ad, c2, ca, rfl, l2, q1, fun i u hu => by have := q3 i u hu; rwa [Nat.zero_mul, Nat.zero_add] at this, hf⟩
    rw [if_neg h2] at s1
    by_cases h3 : k = 3 ∨ k = 4 ∨ k = 5
    · rw [if_pos h3] at s1
      simp only [Bool.and_eq_true, beq_iff_eq] at s1
      obtain ⟨rfl, hl⟩ := s1
      match kids, hl with
      | [a, b], _ =>
        obtain ⟨ad, e, hc⟩ := g2.2.2 (by simp)
        obtain ⟨ca, q1, q2, q3⟩ := hc 0 a rfl
        obtain ⟨cb, r1, r2, r3⟩ := hc 1 b rfl
        obtain ⟨t, ht, hok, hf⟩ := ih a (hkid 0 a rfl).1 (hkid 0 a rfl).2 q2
        obtain ⟨t', ht', hok', hf'⟩ := ih b (hkid 1 b rfl).1 (hkid 1 b rfl).2 r2
        subst e
        exact ⟨.bin k t t', by rw [toS, ht, ht'], ⟨h3, hok, hok'⟩, ad, c2, ca, cb, rfl, l2, q1, r1, fun i u hu => by have := q3 i u hu; rwa [Nat.zero_mul, Nat.zero_add] at this, fun i u hu => by have := r3 i u hu; rwa [Nat.one_mul] at this, hf, hf'⟩
    · rw [if_neg h3] at s1; cases s1
end Go.Proofs.Ytpfbommaddaijaa

