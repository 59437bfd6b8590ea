/- The closures of made, and the library's search that calls them; lists and split, walked by hand; What made builds, plainly; lists and split; made where a list is empty, and at leaves; made at a node; Leaves of a protocol, Equal of two tables, Same of two empty formulas; What an entry of the map of depths says; rows that lie in plain blocks; depths of any tree; depth at a node that the map does not know yet; What Depth answers for any tree; The reference's Execute on a protocol that fits. -/
import Derived.Test.YtpfbommaddaijaaZcPa
import Derived.Test.YtpfbommaddaijaaZcx05
import Derived.Test.YtpfbommaddaijaaZcx09
import Derived.Deep.RegionHeld3
import Derived.Test.YtpfbommaddaijaaZcV6
import Derived.Test.YtpfbommaddaijaaZcx07
import Derived.Carry
namespace Go.Proofs.Ytpfbommaddaijaa
open Go.RowKit Go.Proofs.YtpfbommaddaijaaW.PrintWords Go.Proofs.YtpfbommaddaijaaW.PrintLast PBoundTo
set_option linter.unusedVariables false
set_option linter.unusedSimpArgs false

/-- some element's bit is not so -/
def anyb (v : Nat) (is : Bool) (xs : List Int) : Bool := xs.any fun x => x.toNat.testBit v != is
end Go.Proofs.Ytpfbommaddaijaa

namespace Go.Proofs.Ytpfbommaddaijaa
open Go.RowKit Go.Proofs.YtpfbommaddaijaaW.PrintWords Go.Proofs.YtpfbommaddaijaaW.PrintLast PBoundTo
set_option linter.unusedVariables false
set_option linter.unusedSimpArgs false

/-- two growing lists of a call's own -/
structure Tw (W wr : World) (v u : Value) (p q : List Int) : Prop where
  p : wr.ownsRow W.heap.size 3 1 v p.length (nums .i64 p)
  q : wr.ownsRow W.heap.size 3 1 u q.length (nums .i64 q)
  b : Below W.heap.size W wr
  ne : ∀ k, v.ownBlock = some k → u.ownBlock = some k → False
theorem own_block_lt {w : World} {base n : Nat} {v : Value} {xs : List Value} (h : w.ownsRow base 3 1 v n xs) {k : Nat} (hk : v.ownBlock = some k) : k < w.heap.size := by
  rcases h.2 with ⟨rfl, _⟩ | ⟨g, cap, cur, rfl, _, hh, _⟩
  · simp [Value.ownBlock] at hk
  · have : g = k := by simpa [Value.ownBlock] using hk
    subst this
    exact (Array.getElem?_eq_some_iff.1 hh).1
theorem Tw.start (W : World) : Tw W W (.slice none 0 0) (.slice none 0 0) [] [] := ⟨own_nil _ _ _ _, own_nil _ _ _ _, Below.refl _ _, fun k h _ => by simp [Value.ownBlock] at h⟩
theorem Tw.left {W wr w1 : World} {v u v1 : Value} {p q : List Int} {y : Int} (h : Tw W wr v u p q) (ho : w1.ownsRow W.heap.size 3 1 v1 (p ++ [y]).length (nums .i64 (p ++ [y]))) (hb : Below W.heap.size W w1) (hg : wr.grownBy w1 v.ownBlock) (ha : v1.ownBlock = v.ownBlock ∨ ∃ b, v1.ownBlock = some b ∧ wr.heap.size ≤ b) : Tw W w1 v1 u (p ++ [y]) q := by
  refine ⟨ho, own_move h.q (fun k hk => hg.block k (own_block_lt h.q hk) (fun e => h.ne k e.symm hk)), hb, fun k h1 h2 => ?_⟩
  rcases ha with ha | ⟨b, ha, hlt⟩
  · exact h.ne k (by rw [← ha]; exact h1) h2
  · have := own_block_lt h.q h2
    rw [h1] at ha
    injection ha with ha
    omega
def zs (ask : List Bool) (xs : List Int) : List Int := xs.filter fun x => !ask.getD x.toNat false
def os (ask : List Bool) (xs : List Int) : List Int := xs.filter fun x => ask.getD x.toNat false
end Go.Proofs.Ytpfbommaddaijaa

namespace Go.Proofs.Ytpfbommaddaijaa
open Go.RowKit Go.Proofs.YtpfbommaddaijaaW.PrintWords Go.Proofs.YtpfbommaddaijaaW.PrintLast PBoundTo
set_option linter.unusedVariables false
set_option linter.unusedSimpArgs false

/-- what made answers: a formula, and whether the protocol solves the pairs -/
def comb (k : Int) (x y : Fx × Bool) : Fx × Bool := if (x.2 && y.2) = true then (.bin k x.1 y.1, true) else (.leaf 0 0, false)
def md : Pt → List Int → List Int → Fx × Bool
  | .leaf v, a, b => if a.length = 0 then (.leaf 1 0, true) else if b.length = 0 then (.leaf 1 1, true) else
      (if (a.getD 0 0).toNat.testBit v.toNat = true then .leaf 0 v else .not (.leaf 0 v), !anyb v.toNat ((a.getD 0 0).toNat.testBit v.toNat) a && !anyb v.toNat (!(a.getD 0 0).toNat.testBit v.toNat) b)
  | .node pl ask l r, a, b => if a.length = 0 then (.leaf 1 0, true) else if b.length = 0 then (.leaf 1 1, true) else
      if pl = 1 then comb 3 (md l a (zs ask b)) (md r a (os ask b)) else comb 4 (md l (zs ask a) b) (md r (os ask a) b)
end Go.Proofs.Ytpfbommaddaijaa

namespace Go.Proofs.Ytpfbommaddaijaa
open Go.RowKit Go.Proofs.YtpfbommaddaijaaW.PrintWords Go.Proofs.YtpfbommaddaijaaW.PrintLast PBoundTo
set_option linter.unusedVariables false
set_option linter.unusedSimpArgs false

/-- three cells stored -/
abbrev pt3 (W : World) (g : Nat) (a b c : Value) : World := ((W.setCell ⟨g, 0, none⟩ a).setCell ⟨g, 1, none⟩ b).setCell ⟨g, 2, none⟩ c
theorem cell_farp3 {W : World} {g : Nat} {a : Addr} {v x y z : Value} (h : W.cell? a = some v) (hne : a.block ≠ g) : (pt3 W g x y z).cell? a = some v := by
  rw [← h]
  exact World.cell?_of_block (by
    show (((W.setCell ⟨g, 0, none⟩ x).setCell ⟨g, 1, none⟩ y).setCell ⟨g, 2, none⟩ z).heap[a.block]? = W.heap[a.block]?
    rw [one_other hne, one_other hne, one_other hne])
/-- a formula's three cells hold -/
def F3 (g : Nat) (a b c : Value) (W : World) : Prop := W.cell? ⟨g, 0, none⟩ = some a ∧ W.cell? ⟨g, 1, none⟩ = some b ∧ W.cell? ⟨g, 2, none⟩ = some c
theorem F3.keep {g : Nat} {a b c : Value} {W W' : World} (h : F3 g a b c W) (hb : Below W.heap.size W W') : F3 g a b c W' := ⟨cell_keep' hb h.1, cell_keep' hb h.2.1, cell_keep' hb h.2.2⟩
theorem F3.put {g g' : Nat} {a b c : Value} {W : World} (h : F3 g a b c W) (hne : g ≠ g') (x y z : Value) : F3 g a b c (pt3 W g' x y z) := ⟨cell_farp3 h.1 hne, cell_farp3 h.2.1 hne, cell_farp3 h.2.2 hne⟩
end Go.Proofs.Ytpfbommaddaijaa

namespace Go.Proofs.Ytpfbommaddaijaa
open Go.RowKit Go.Proofs.YtpfbommaddaijaaW.PrintWords Go.Proofs.YtpfbommaddaijaaW.PrintLast PBoundTo
set_option linter.unusedVariables false
set_option linter.unusedSimpArgs false

/-- the kids so far: none, one, two -/
inductive Ks (B : Nat) (q0 q1 : Fx × Bool) (w : World) : Nat → Value → Prop
  | no : Ks B q0 q1 w 0 (.slice none 0 0)
  | one {v : Value} {cs : List Value} {N : Nat} : q0.2 = true → cs.length = 3 → w.ownsRow B 24 3 v 1 cs → FmS B N w q0.1 cs → N ≤ w.heap.size → (∀ k, v.ownBlock = some k → N ≤ k) → Ks B q0 q1 w 1 v
  | two {v : Value} {cs ds : List Value} {N : Nat} : q0.2 = true → q1.2 = true → cs.length = 3 → ds.length = 3 → w.ownsRow B 24 3 v 2 (cs ++ ds) → FmS B w.heap.size w q0.1 cs → FmS B w.heap.size w q1.1 ds → Ks B q0 q1 w 2 v
theorem Ks.drew {B : Nat} {q0 q1 : Fx × Bool} {w : World} {i : Nat} {v : Value} (h : Ks B q0 q1 w i v) : Ks B q0 q1 w.drew i v := by
  cases h with
  | no => exact .no
  | one a b c d e f => exact .one a b c d e f
  | two a b c d e f g => exact .two (N := 0) a b c d e f g
theorem Ks.at2 {B : Nat} {q0 q1 : Fx × Bool} {w : World} {v : Value} (h : Ks B q0 q1 w 2 v) : ∃ (cs ds : List Value), q0.2 = true ∧ q1.2 = true ∧ cs.length = 3 ∧ ds.length = 3 ∧ w.ownsRow B 24 3 v 2 (cs ++ ds) ∧ FmS B w.heap.size w q0.1 cs ∧ FmS B w.heap.size w q1.1 ds := by
  cases h with
  | two a b c d e f g => exact ⟨_, _, a, b, c, d, e, f, g⟩
/-- the first kid appended -/
theorem Ks.first {B : Nat} {q0 q1 : Fx × Bool} {w5 w6 w7 : World} {v : Value} {cs : List Value} (hB : B ≤ w5.heap.size) (hq : q0.2 = true) (hc : cs.length = 3) (hf : FmS B w5.heap.size w5 q0.1 cs) (hb : Below w5.heap.size w5 w6) (ho : w7.ownsRow B 24 3 v 1 ([] ++ cs)) (hg : w6.grownBy w7 (Value.slice none 0 0).ownBlock) (hat : v.ownBlock = (Value.slice none 0 0).ownBlock ∨ ∃ b, v.ownBlock = some b ∧ w6.heap.size ≤ b) : Ks B q0 q1 w7 1 v := by
  have hkeep : ∀ k, k < w5.heap.size → w7.heap[k]? = w5.heap[k]? := fun k hk => (hg.block k (Nat.lt_of_lt_of_le hk hb.size) (by simp [Value.ownBlock])).trans (hb.block k hk)
  refine .one (N := w5.heap.size) hq hc (by simpa using ho) (hf.on fun k _ hk => hkeep k hk) (Nat.le_trans hb.size hg.size) (fun k hk => ?_)
  rcases hat with hat | ⟨b, hb1, hb2⟩
  · rw [hat] at hk; simp [Value.ownBlock] at hk
  · rw [hb1] at hk; cases hk; exact Nat.le_trans hb.size hb2
/-- the node over its kids -/
theorem Ks.node {B : Nat} {q0 q1 : Fx × Bool} {w w' : World} {v : Value} {k : Int} (h : Ks B q0 q1 w 2 v) (hs : w'.heap.size = w.heap.size) (hk : ∀ j, B ≤ j → w'.heap[j]? = w.heap[j]?) : ∃ A c, v = .slice A 2 c ∧ FmS B w'.heap.size w' (.bin k q0.1 q1.1) [I k, I 0, .slice A 2 c] ∧ q0.2 = true ∧ q1.2 = true := by
  obtain ⟨cs, ds, h0, h1, hc, hd, ho, hf, hf1⟩ := h.at2
  obtain ⟨hl, ho⟩ := ho
  rcases ho with ⟨_, h2⟩ | ⟨g, cap, cur, rfl, hg, hh, hcap, _, hcur, htk⟩
  · cases h2
  · refine ⟨_, _, rfl, fun w'' hw => ?_, h0, h1⟩
    have hgl : g < w.heap.size := blk_lt hh
    have hrow : w''.heap[g]? = some (.cells cur 24 (0, 0)) := (hw g hg (by omega)).trans ((hk g hg).trans hh)
    have cell : ∀ i u, (cs ++ ds)[i]? = some u → w''.cell? ⟨g, i, none⟩ = some u := fun i u hu => by
      rw [blk_cell hrow i]
      rw [← htk] at hu
      have hi : i < 2 * 3 := by
        have := (List.getElem?_eq_some_iff.1 hu).1
        simp at this; omega
      rw [List.getElem?_take, if_pos hi] at hu
      simpa using hu
    have agree : ∀ j, B ≤ j → j < w.heap.size → w''.heap[j]? = w.heap[j]? := fun j h1 h2 => (hw j h1 (by omega)).trans (hk j h1)
    refine ⟨⟨g, 0, none⟩, cap, cs, ds, rfl, hcap, hc, hd, fun i u hu => ?_, fun i u hu => ?_, hf w'' agree, hf1 w'' agree⟩
    · rw [add_plain]
      exact cell i u (by rw [List.getElem?_append_left (List.getElem?_eq_some_iff.1 hu).1]; exact hu)
    · rw [add_plain]
      exact cell (3 + i) u (by rw [List.getElem?_append_right (by omega), hc, Nat.add_sub_cancel_left]; exact hu)
/-- what made needs of a list -/
structure Ml (W : World) (n : Nat) (A : Option Addr) (a : List Int) : Prop where
  c : Kd.C (Kd.int .i64) W A a.length a
  b : ∀ x ∈ a, 0 ≤ x ∧ x < ((2 ^ n : Nat) : Int)
  l : a.length ≤ 8192
theorem Ml.keep {W W' : World} {n : Nat} {A : Option Addr} {a : List Int} (h : Ml W n A a) (hb : Below W.heap.size W W') : Ml W' n A a := ⟨Kd.C_below h.c hb, h.b, h.l⟩
end Go.Proofs.Ytpfbommaddaijaa

namespace Go.Proofs.Ytpfbommaddaijaa
open Go.RowKit Go.Proofs.YtpfbommaddaijaaW.PrintWords Go.Proofs.YtpfbommaddaijaaW.PrintLast PBoundTo
set_option linter.unusedVariables false
set_option linter.unusedSimpArgs false

set_option maxHeartbeats 2000000 in
theorem leaves_leaf (W : World) (v p : Int) (A3 A4 : Option Addr) (l3 l4 c3 c4 : Nat) : Calls Try.prog 49 #[.agg #[.bool true, I v, I p, .slice A3 l3 c3, .slice A4 l4 c4]] W fun e w' => e = .returned (I 1) ∧ Below W.heap.size W w' := by
  go_enter Try.func49, Try.ntmps49
  go_wp2
  go_ret
  exact ⟨rfl, (Below.refl _ _).alloc (Nat.le_refl _) _⟩
set_option maxHeartbeats 8000000 in
set_option maxRecDepth 100000 in
theorem leaves_node {W : World} {v pl : Int} {la : Nat} {ad : Addr} {A3 : Option Addr} {c3 c4 : Nat} {r0 r1 : Int} {x0 x1 x2 x3 x4 y0 y1 y2 y3 y4 : Value} (b0 : 0 ≤ r0) (b1 : 0 ≤ r1) (b2 : r0 + r1 ≤ 1000000)
    (p0 : W.cell? (ad.add 0) = some x0) (p1 : W.cell? (ad.add 1) = some x1) (p2 : W.cell? (ad.add 2) = some x2) (p3 : W.cell? (ad.add 3) = some x3) (p4 : W.cell? (ad.add 4) = some x4)
    (q0 : W.cell? (ad.add 5) = some y0) (q1 : W.cell? (ad.add 6) = some y1) (q2 : W.cell? (ad.add 7) = some y2) (q3 : W.cell? (ad.add 8) = some y3) (q4 : W.cell? (ad.add 9) = some y4)
    (HX : ∀ W', Below W.heap.size W W' → Calls Try.prog 49 #[.agg #[x0, x1, x2, x3, x4]] W' fun e W'' => e = .returned (I r0) ∧ Below W'.heap.size W' W'') (HY : ∀ W', Below W.heap.size W W' → Calls Try.prog 49 #[.agg #[y0, y1, y2, y3, y4]] W' fun e W'' => e = .returned (I r1) ∧ Below W'.heap.size W' W'') :
    Calls Try.prog 49 #[.agg #[.bool false, I v, I pl, .slice A3 la c3, .slice (some ad) 2 c4]] W fun e W' => e = .returned (I (r0 + r1)) ∧ Below W.heap.size W W' := by
  obtain ⟨W1, hW1⟩ : ∃ W1, W1 = W.alloc (.cells #[.bool false, I v, I pl, .slice A3 la c3, .slice (some ad) 2 c4] 32) := ⟨_, rfl⟩
  have HB1 : Hid (Below W.heap.size W W1) := Lib.hid (by rw [hW1]; exact below_alloc (Below.refl _ _) _)
  have BK : W1.heap[W.heap.size]? = some (.cells #[.bool false, I v, I pl, .slice A3 la c3, .slice (some ad) 2 c4] 32 (0, 0)) := by rw [hW1]; exact blk_new _ _
  have k0 : W1.cell? ⟨W.heap.size, 0, none⟩ = some (.bool false) := (blk_cell BK 0).trans rfl
  have k4 : W1.cell? ⟨W.heap.size, 4, none⟩ = some (.slice (some ad) 2 c4) := (blk_cell BK 4).trans rfl
  have e4 : ∀ x : Ext W1, x.val.cell? ⟨W.heap.size, 4, none⟩ = some (.slice (some ad) 2 c4) := fun x => x.cell k4
  have f0 : ∀ x : Ext W1, x.val.cell? ad = some x0 := fun x => x.cell (cell_keep' HB1.out (by rw [Addr.add_zero'] at p0; exact p0))
  have f1 : ∀ x : Ext W1, x.val.cell? ⟨ad.block, ad.off + 1, none⟩ = some x1 := fun x => x.cell (cell_keep' HB1.out p1)
  have f2 : ∀ x : Ext W1, x.val.cell? ⟨ad.block, ad.off + 2, none⟩ = some x2 := fun x => x.cell (cell_keep' HB1.out p2)
  have f3 : ∀ x : Ext W1, x.val.cell? ⟨ad.block, ad.off + 3, none⟩ = some x3 := fun x => x.cell (cell_keep' HB1.out p3)
  have f4 : ∀ x : Ext W1, x.val.cell? ⟨ad.block, ad.off + 4, none⟩ = some x4 := fun x => x.cell (cell_keep' HB1.out p4)
  have g0 : ∀ x : Ext W1, x.val.cell? ⟨ad.block, ad.off + 5, none⟩ = some y0 := fun x => x.cell (cell_keep' HB1.out q0)
  have g1 : ∀ x : Ext W1, x.val.cell? ⟨ad.block, ad.off + 5 + 1, none⟩ = some y1 := fun x => x.cell (cell_keep' HB1.out q1)
  have g2 : ∀ x : Ext W1, x.val.cell? ⟨ad.block, ad.off + 5 + 2, none⟩ = some y2 := fun x => x.cell (cell_keep' HB1.out q2)
  have g3 : ∀ x : Ext W1, x.val.cell? ⟨ad.block, ad.off + 5 + 3, none⟩ = some y3 := fun x => x.cell (cell_keep' HB1.out q3)
  have g4 : ∀ x : Ext W1, x.val.cell? ⟨ad.block, ad.off + 5 + 4, none⟩ = some y4 := fun x => x.cell (cell_keep' HB1.out q4)
  have HX := Lib.hid (fun x : Ext W1 => x.call (HX x.val (HB1.out.trans (x.ok.mono HB1.out.size))))
  have HY := Lib.hid (fun x : Ext W1 => x.call (HY x.val (HB1.out.trans (x.ok.mono HB1.out.size))))
  have HSM : Hid (wrap64 (r0 + r1) = r0 + r1) := Lib.hid (wr_ok (by omega) (by omega))
  clear BK k4 p0 p1 p2 p3 p4 q0 q1 q2 q3 q4
  go_enter Try.func49, Try.ntmps49
  go_upto_region 1 with fail
  rw [← hW1]
  clear hW1
  go_upto_region 3 with fail
  refine wp_region_ext (by kernel_rfl) (by kernel_rfl) ?_
  repeat (go_big_quiet_step (first
    | (go_at_call 49; with_reducible exact HX.out _)
    | (go_at_call 49; with_reducible exact HY.out _)))
  refine wpQuiet_nil ?_
  rintro _ ⟨x, rfl⟩
  go_wp2
  go_ret
  refine ⟨?_, HB1.out.trans (x.ok.mono HB1.out.size)⟩
  show Ending.returned (.int .i64 _) = _
  first | rfl | (rw [HSM.out])
theorem protLeaves_any : ∀ (t : Pt) {W : World} {A3 A4 : Option Addr} {c3 c4 : Nat}, t.lvs ≤ 1000000 → Kd.C k32 W A4 t.toS.f4.length t.toS.f4 → Calls Try.prog 49 #[.agg #[.bool t.toS.f0, I t.toS.f1, I t.toS.f2, .slice A3 t.toS.f3.length c3, .slice A4 t.toS.f4.length c4]] W fun e W' => e = .returned (I (t.lvs : Nat)) ∧ Below W.heap.size W W'
  | .leaf v, W, A3, A4, c3, c4, hl, h4 => by rw [Pt.toS, Pt.lvs]; exact leaves_leaf W v 0 A3 A4 _ _ c3 c4
  | .node pl ask l r, W, A3, A4, c3, c4, hl, h4 => by
    rw [Pt.toS] at h4 ⊢
    simp only at h4 ⊢
    have hl' : l.lvs + r.lvs ≤ 1000000 := hl
    obtain ⟨ad, B3, d3, B4, d4, rfl, x0, x1, x2, x3, x4, l3, i3, l4, i4⟩ := at_T32 h4 (0 : Int) (by omega) (by simp)
    obtain ⟨ad', C3, f3, C4, f4, he, y0, y1, y2, y3, y4, l3', i3', l4', i4'⟩ := at_T32 h4 (1 : Int) (by omega) (by simp)
    cases he
    have h := leaves_node (W := W) (A3 := A3) (c3 := c3) (c4 := c4) (v := 0) (pl := pl) (la := ask.length) (ad := ad) (r0 := (l.lvs : Nat)) (r1 := (r.lvs : Nat)) (by omega) (by omega) (by omega) x0 x1 x2 x3 x4 y0 y1 y2 y3 y4
      (fun W' hW => protLeaves_any l (W := W') (by omega) (Kd.C_below i4 hW)) (fun W' hW => protLeaves_any r (W := W') (by omega) (Kd.C_below i4' hW))
    rw [show ((Pt.node pl ask l r).lvs : Int) = (l.lvs : Int) + (r.lvs : Int) by rw [Pt.lvs]; omega]
    exact h
end Go.Proofs.Ytpfbommaddaijaa

namespace Go.Proofs.Ytpfbommaddaijaa
open Go.RowKit Go.Proofs.YtpfbommaddaijaaW.PrintWords Go.Proofs.YtpfbommaddaijaaW.PrintLast PBoundTo
set_option linter.unusedVariables false
set_option linter.unusedSimpArgs false

/-- a row of protocols that lies in a plain block, and so on down -/
def KRow (w : World) (l : List S32) (A : Option Addr) (c : Nat) : Prop := ∃ base ok, PCopy.k32.R 32 w base ok (.slice A l.length c) (cvL l)
theorem KRow.C {w : World} {l : List S32} {A : Option Addr} {c : Nat} (h : KRow w l A c) : k32.C w A l.length l ∧ l.length ≤ c := by
  obtain ⟨base, ok, h⟩ := h
  obtain ⟨A', c', e, h1, h2⟩ := Kd.R_reads h
  rw [cvL_len] at e h1
  injection e with e1 e2 e3
  subst e1 e3
  exact ⟨vc_C (hgL l) (Nat.le_refl _) h2, h1⟩
end Go.Proofs.Ytpfbommaddaijaa

namespace Go.Proofs.Ytpfbommaddaijaa
open Go.RowKit Go.Maps Go.Proofs.YtpfbommaddaijaaW.PrintWords Go.Proofs.YtpfbommaddaijaaW.PrintLast PBoundTo
set_option linter.unusedVariables false
set_option linter.unusedSimpArgs false

theorem Dm.keep {w w' : World} {b : Nat} {xs : List De} (h : Dm w b xs) {r : Option Nat} (hg : w.grownBy w' r) (hr : r ≠ some b) (hp : ∀ x ∈ xs, some x.a.block ≠ r) : Dm w' b xs := by
  obtain ⟨es, c, h1, h2, h3⟩ := h
  refine ⟨es, c, (hg.block _ (Array.getElem?_eq_some_iff.1 h1).1 (fun e => hr e.symm)).trans h1, h2, fun x hx => ?_⟩
  obtain ⟨cs, t, h⟩ := h3 x hx
  exact ⟨cs, t, (hg.block _ (Array.getElem?_eq_some_iff.1 h).1 (hp x hx)).trans h⟩
theorem grown_of_below {w w' : World} (h : Below w.heap.size w w') (r : Option Nat) : w.grownBy w' r := ⟨h.os, h.tape, h.output, h.size, fun k hk _ => h.block k hk⟩
end Go.Proofs.Ytpfbommaddaijaa

namespace Go.Proofs.Ytpfbommaddaijaa
open Go.RowKit Go.Maps Go.Proofs.YtpfbommaddaijaaW.PrintWords Go.Proofs.YtpfbommaddaijaaW.PrintLast PBoundTo
set_option linter.unusedVariables false
set_option linter.unusedSimpArgs false

/-- the copy is a row in plain blocks -/
theorem CR.row {W w' : World} {x : S32} {e : Ending} (h : CR W x e w') : ∃ A3 c3 A4 c4, e = .returned (.agg #[.bool x.f0, I x.f1, I x.f2, .slice A3 x.f3.length c3, .slice A4 x.f4.length c4]) ∧ x.f3.length ≤ c3 ∧ Kd.C Kd.bool w' A3 x.f3.length x.f3 ∧ x.f4.length ≤ c4 ∧ Kd.C k32 w' A4 x.f4.length x.f4 ∧ KRow w' x.f4 A4 c4 ∧ Below W.heap.size W w' := by
  obtain ⟨A3, c3, A4, c4, he, h1, h2, h3, h4, ⟨ok, h5⟩, h6⟩ := h
  exact ⟨A3, c3, A4, c4, he, h1, h2, h3, h4, ⟨_, _, h5⟩, h6⟩
end Go.Proofs.Ytpfbommaddaijaa

namespace Go.Proofs.Ytpfbommaddaijaa
open Go.RowKit Go.Proofs.YtpfbommaddaijaaW.PrintWords Go.Proofs.YtpfbommaddaijaaW.PrintLast Go.Proofs.YtpfbommaddaijaaW.PrintMore PBoundTo
set_option linter.unusedVariables false
set_option linter.unusedSimpArgs false

theorem V_came {α : Type} {d : Kd α} (hd : Kd.Heap d) {e : Nat} {w : World} {base : Nat} {A : Option Addr} {c : Nat} {xs : List α} (h : Kd.C d w A xs.length xs) (hc : xs.length ≤ c) : Kd.V d e w base (fun k => k < w.heap.size) (.slice A xs.length c) xs :=
  Kd.V_mk hc (fun W' hW => hd.C (fun k hk => hW k hk hk) h)
theorem refExecute_any {W : World} {n x y : Nat} {t : Pt} {A3 A4 : Option Addr} {c3 c4 : Nat} (ho : t.ok n) (hx : x < 2 ^ n) (hy : y < 2 ^ n) (h3 : Kd.C Kd.bool W A3 t.toS.f3.length t.toS.f3) (l3 : t.toS.f3.length ≤ c3) (h4 : Kd.C k32 W A4 t.toS.f4.length t.toS.f4) (l4 : t.toS.f4.length ≤ c4) :
    Calls Try.prog 52 #[.agg #[.bool t.toS.f0, I t.toS.f1, I t.toS.f2, .slice A3 t.toS.f3.length c3, .slice A4 t.toS.f4.length c4], I x, I y] W fun e W' => e = .returned (I (t.run x y)) ∧ Below W.heap.size W W' := by
  obtain ⟨k, hk⟩ := (execute_ev hx hy t ho).rounds
  exact commodatumref23_Execute.calls k _ _ _ _ A3 c3 _ _ A4 c4 _ _ _ _ W (V_came Kd.heap_bool h3 l3) (V_came k32_heap h4 l4) hk
end Go.Proofs.Ytpfbommaddaijaa

