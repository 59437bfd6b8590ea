/- Formulas as trees, in memory. -/
import Derived.Test.YtpfbommaddaijaaZfKa
import Derived.Test.YtpfbommaddaijaaZfWWords
import Derived.Test.YtpfbommaddaijaaZfWLast
namespace Go.Proofs.Ytpfbommaddaijaa
open Go.RowKit Go.Proofs.YtpfbommaddaijaaW.PrintWords Go.Proofs.YtpfbommaddaijaaW.PrintLast
set_option linter.unusedVariables false
set_option linter.unusedSimpArgs false

inductive Fx where
  | leaf (k n : Int)
  | not (a : Fx)
  | bin (k : Int) (a b : Fx)
/-- the cells of a node -/
def Fm (w : World) : Fx → List Value → Prop
  | .leaf k n, cs => ∃ A c, cs = [I k, I n, .slice A 0 c]
  | .not a, cs => ∃ ad c ca, cs = [I 2, I 0, .slice (some ad) 1 c] ∧ 1 ≤ c ∧ ca.length = 3 ∧ (∀ i u, ca[i]? = some u → w.cell? (ad.add i) = some u) ∧ Fm w a ca
  | .bin k a b, cs => ∃ ad c ca cb, cs = [I k, I 0, .slice (some ad) 2 c] ∧ 2 ≤ c ∧ ca.length = 3 ∧ cb.length = 3 ∧ (∀ i u, ca[i]? = some u → w.cell? (ad.add i) = some u) ∧ (∀ i u, cb[i]? = some u → w.cell? (ad.add (3 + i)) = some u) ∧ Fm w a ca ∧ Fm w b cb
theorem cell_keep {w w' : World} (hb : Below w.heap.size w w') {a : Addr} {v : Value} (h : w.cell? a = some v) : w'.cell? a = some v := (hb.cell (World.block_lt_of_cell? _ _ h)).trans h
theorem Fm.keep {w w' : World} (hb : Below w.heap.size w w') : ∀ {t : Fx} {cs : List Value}, Fm w t cs → Fm w' t cs
  | .leaf k n, cs, h => h
  | .not a, cs, h => by
    obtain ⟨ad, c, ca, h1, h2, h3, h4, h5⟩ := h
    exact ⟨ad, c, ca, h1, h2, h3, fun i u hu => cell_keep hb (h4 i u hu), h5.keep hb⟩
  | .bin k a b, cs, h => by
    obtain ⟨ad, c, ca, cb, h1, h2, h3, h3', h4, h4', h5, h6⟩ := h
    exact ⟨ad, c, ca, cb, h1, h2, h3, h3', fun i u hu => cell_keep hb (h4 i u hu), fun i u hu => cell_keep hb (h4' i u hu), h5.keep hb, h6.keep hb⟩
theorem Fm.three {w : World} : ∀ {t : Fx} {cs : List Value}, Fm w t cs → ∃ k n A l c, cs = [I k, I n, .slice A l c]
  | .leaf k n, cs, ⟨A, c, h⟩ => ⟨k, n, A, 0, c, h⟩
  | .not a, cs, ⟨ad, c, ca, h, _⟩ => ⟨2, 0, _, 1, c, h⟩
  | .bin k a b, cs, ⟨ad, c, ca, cb, h, _⟩ => ⟨k, 0, _, 2, c, h⟩
/-- what a formula is worth -/
def Fx.size : Fx → Nat
  | .leaf _ _ => 1
  | .not a => a.size
  | .bin _ a b => a.size + b.size
def Fx.nodes : Fx → Nat
  | .leaf _ _ => 1
  | .not a => 1 + a.nodes
  | .bin _ a b => 1 + a.nodes + b.nodes
def Fx.val (x : Nat) : Fx → Bool
  | .leaf k n => if k = 0 then x.testBit n.toNat else decide (n = 1)
  | .not a => !a.val x
  | .bin k a b => if k = 3 then a.val x && b.val x else if k = 4 then a.val x || b.val x else a.val x != b.val x
def Fx.ok (m : Int) : Fx → Prop
  | .leaf k n => (k = 0 ∧ 0 ≤ n ∧ n < m) ∨ (k = 1 ∧ (n = 0 ∨ n = 1))
  | .not a => a.ok m
  | .bin k a b => (k = 3 ∨ k = 4 ∨ k = 5) ∧ a.ok m ∧ b.ok m
def Fx.has (q : Int) : Fx → Bool
  | .leaf k _ => k == q
  | .not a => q == 2 || a.has q
  | .bin k a b => k == q || a.has q || b.has q
def Fx.inp : Fx → Int
  | .leaf k n => if k = 0 then n + 1 else 0
  | .not a => max 0 a.inp
  | .bin _ a b => max (max 0 a.inp) b.inp
theorem Fx.inp_le {m : Int} (hm : 0 ≤ m) : ∀ {t : Fx}, t.ok m → 0 ≤ t.inp ∧ t.inp ≤ m
  | .leaf k n, h => by
    simp only [Fx.inp]
    rcases h with ⟨h1, h2, h3⟩ | ⟨h1, _⟩
    · rw [if_pos h1]; omega
    · rw [if_neg (by omega)]; omega
  | .not a, h => by have := Fx.inp_le hm (t := a) h; simp only [Fx.inp]; omega
  | .bin k a b, h => by
    have h1 := Fx.inp_le hm (t := a) h.2.1
    have h2 := Fx.inp_le hm (t := b) h.2.2
    simp only [Fx.inp]; omega
/-- a formula whose kids lie in the blocks from B on, below N -/
def FmS (B N : Nat) (w : World) (t : Fx) (cs : List Value) : Prop := ∀ w' : World, (∀ k, B ≤ k → k < N → w'.heap[k]? = w.heap[k]?) → Fm w' t cs
theorem FmS.on {B N : Nat} {w w1 : World} {t : Fx} {cs : List Value} (h : FmS B N w t cs) (hk : ∀ k, B ≤ k → k < N → w1.heap[k]? = w.heap[k]?) : FmS B N w1 t cs := fun w' hw => h w' (fun k h1 h2 => (hw k h1 h2).trans (hk k h1 h2))
theorem FmS.leaf {B N : Nat} {w : World} {k n : Int} {A : Option Addr} {c : Nat} : FmS B N w (.leaf k n) [I k, I n, .slice A 0 c] := fun w' _ => ⟨A, c, rfl⟩
end Go.Proofs.Ytpfbommaddaijaa

