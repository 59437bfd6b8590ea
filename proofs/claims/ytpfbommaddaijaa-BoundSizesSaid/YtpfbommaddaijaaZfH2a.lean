/- Two growing lists of a call's own. -/
import Derived.Test.YtpfbommaddaijaaZfPa
namespace Go.Proofs.Ytpfbommaddaijaa
open Go.RowKit Go.Proofs.YtpfbommaddaijaaW.PrintWords Go.Proofs.YtpfbommaddaijaaW.PrintLast PBoundTo
set_option linter.unusedVariables false
set_option linter.unusedSimpArgs false

/-- two growing lists of a call's own -/
structure Tw (W wr : World) (v u : Value) (p q : List Int) : Prop where
  p : wr.ownsRow W.heap.size 3 1 v p.length (nums .i64 p)
  q : wr.ownsRow W.heap.size 3 1 u q.length (nums .i64 q)
  b : Below W.heap.size W wr
  ne : ∀ k, v.ownBlock = some k → u.ownBlock = some k → False
theorem own_block_lt {w : World} {base n : Nat} {v : Value} {xs : List Value} (h : w.ownsRow base 3 1 v n xs) {k : Nat} (hk : v.ownBlock = some k) : k < w.heap.size := by
  rcases h.2 with ⟨rfl, _⟩ | ⟨g, cap, cur, rfl, _, hh, _⟩
  · simp [Value.ownBlock] at hk
  · have : g = k := by simpa [Value.ownBlock] using hk
    subst this
    exact (Array.getElem?_eq_some_iff.1 hh).1
theorem Tw.start (W : World) : Tw W W (.slice none 0 0) (.slice none 0 0) [] [] := ⟨own_nil _ _ _ _, own_nil _ _ _ _, Below.refl _ _, fun k h _ => by simp [Value.ownBlock] at h⟩
theorem Tw.left {W wr w1 : World} {v u v1 : Value} {p q : List Int} {y : Int} (h : Tw W wr v u p q) (ho : w1.ownsRow W.heap.size 3 1 v1 (p ++ [y]).length (nums .i64 (p ++ [y]))) (hb : Below W.heap.size W w1) (hg : wr.grownBy w1 v.ownBlock) (ha : v1.ownBlock = v.ownBlock ∨ ∃ b, v1.ownBlock = some b ∧ wr.heap.size ≤ b) : Tw W w1 v1 u (p ++ [y]) q := by
  refine ⟨ho, own_move h.q (fun k hk => hg.block k (own_block_lt h.q hk) (fun e => h.ne k e.symm hk)), hb, fun k h1 h2 => ?_⟩
  rcases ha with ha | ⟨b, ha, hlt⟩
  · exact h.ne k (by rw [← ha]; exact h1) h2
  · have := own_block_lt h.q h2
    rw [h1] at ha
    injection ha with ha
    omega
theorem Tw.swap {W wr : World} {v u : Value} {p q : List Int} (h : Tw W wr v u p q) : Tw W wr u v q p := ⟨h.q, h.p, h.b, fun k h1 h2 => h.ne k h2 h1⟩
theorem C_of_reads {w : World} {A : Option Addr} {n : Nat} {xs : List Int} (h : ReadsInt w .i64 A n xs) : Kd.C (Kd.int .i64) w A n xs := by
  obtain ⟨h1, h2, h3⟩ := h
  refine ⟨h1, h2, fun hn => ?_⟩
  obtain ⟨ad, e, hc⟩ := h3 hn
  refine ⟨ad, e, fun j p hj => ⟨[I p], rfl, rfl, fun i u hu => ?_⟩⟩
  obtain ⟨hlt, he⟩ := List.getElem?_eq_some_iff.1 hj
  have := hc j (by omega)
  cases i with
  | zero =>
    simp at hu
    subst hu
    rw [show List.getD xs j 0 = p by simp [List.getD, hj]] at this
    show w.cell? (ad.add (j * 1 + 0)) = some (I p)
    rw [Nat.mul_one, Nat.add_zero]
    exact this
  | succ i => simp at hu
end Go.Proofs.Ytpfbommaddaijaa

