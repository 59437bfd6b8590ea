/- Words; the closure of best: sets an entry and its negation if the cost is less; The leaves: a map from the functions of constants and variables; Plain: the entries of best: what a step keeps, and what holds at the end; Plain: the keys of the leaves; the entries ahead of the leaves and behind each; The function best; The joins; the number of a table; bits.Len of a small number; how many inputs a table has. -/
import Derived.Test.YtpfbommaddaijaaRows
import Derived.WalkKit
import Derived.WalkSpells
import Derived.WalkLawsBesides
import Derived.IntWalk
import Derived.Lib.Hide
import Derived.Deep.QuietTactic
import Derived.BigQuiet
import Derived.Deep.LoopGhost
import Derived.Deep.OwnRows
import Derived.Deep.Cut
import Derived.Deep.CutRange
import Derived.Deep.CutBlock
import Derived.Laws.EntriesVeiled
import Derived.Maps.RangeWalk
import Derived.Maps.OwnOps
import Derived.Maps.OwnSet
import Derived.Laws.MakeOwn
import Derived.Shelf.Abstract
import Derived.Laws.Bits64b
namespace Go.Proofs.Ytpfbommaddaijaa
open Go.RowKit
set_option linter.unusedVariables false
set_option linter.unusedSimpArgs false

theorem rb {a b : Bool} (h : a = b) : Ending.returned (.bool a) = .returned (.bool b) := by rw [h]
theorem ri {k : IntKind} {a b : Int} (h : a = b) : Ending.returned (.int k a) = .returned (.int k b) := by rw [h]
abbrev I (n : Int) : Value := .int .i64 n
abbrev U (n : Int) : Value := .int .u64 n

/-- an entry -/
structure Ent where
  c : Int
  k : Int
  a : Int
  b : Int
  nt : Bool
def Ent.cell (e : Ent) : Nat → Value
  | 0 => I e.c
  | 1 => I e.k
  | 2 => I e.a
  | 3 => I e.b
  | _ => .bool e.nt
def Ent.val (e : Ent) : Value := .agg #[I e.c, I e.k, I e.a, I e.b, .bool e.nt]
def Es (E : Nat → Ent) (i : Nat) : Value := (E (i / 5)).cell (i % 5)
def updE (E : Nat → Ent) (f : Nat) (e : Ent) : Nat → Ent := fun u => if u = f then e else E u
/-- what the closure does to the entries -/
def setE (M : Nat) (E : Nat → Ent) (f : Nat) (e : Ent) : Nat → Ent := updE (updE E f e) (M - f) { e with nt := !e.nt }

theorem cell_alloc {w : World} {a : Addr} {v : Value} (h : w.cell? a = some v) (o : Obj) : (w.alloc o).cell? a = some v := by
  rw [← h]; exact World.cell?_of_block (Deep.blk_alloc_lt _ _ _ (World.block_lt_of_cell? _ _ h))
theorem below_drewN {B : Nat} {w w' : World} (h : Below B w w') (m : Nat) : Below B w (w'.drewN m) := by
  refine ⟨h.os, h.tape, h.output, h.size, h.block⟩
theorem Es_cell (E : Nat → Ent) (f : Nat) : ∀ j, j < 5 → Es E (f * 5 + j) = (E f).cell j := by
  intro j hj
  unfold Es
  rw [show (f * 5 + j) / 5 = f by omega, show (f * 5 + j) % 5 = j by omega]
set_option maxHeartbeats 2000000 in
theorem set_no {w : World} {g gs gm N M f : Nat} {E : Nat → Ent} {e : Ent} (hrow : w.rowIs g 95 (5 * N) (Es E)) (hs : w.cell? ⟨gs, 0, none⟩ = some (.slice (some ⟨g, 0, none⟩) N N)) (hm : w.cell? ⟨gm, 0, none⟩ = some (I M)) (hf : f < N) (hN : N ≤ 256) (hc : (E f).c ≤ e.c) :
    Calls Try.prog 144 #[I f, .agg #[I e.c, I e.k, I e.a, I e.b, .bool e.nt], .pointer (some ⟨gs, 0, none⟩), .pointer (some ⟨gm, 0, none⟩)] w fun r w' => r = .returned (.bool false) ∧ Below w.heap.size w w' := by
  obtain ⟨ec, ek, ea, eb, en⟩ := e
  have hE : w.cell? ⟨g, f * 5, none⟩ = some (I (E f).c) := by
    have := hrow.cell (i := f * 5) (by omega)
    rw [this]
    exact congrArg some (Es_cell E f 0 (by decide))
  have hs' := cell_alloc hs (.cells #[I ec, I ek, I ea, I eb, .bool en] 95)
  have hE' := cell_alloc hE (.cells #[I ec, I ek, I ea, I eb, .bool en] 95)
  have hB : Hid (Below w.heap.size w (w.alloc (.cells #[I ec, I ek, I ea, I eb, .bool en] 95))) := Lib.hid ((Below.refl _ _).alloc (Nat.le_refl _) _)
  generalize (E f).c = c0 at *
  have hd : decide (c0 ≤ ec) = true := decide_eq_true hc
  have h0 : (0 : Int) ≤ f := by omega
  have h1 : (f : Int) < N := by omega
  clear hrow hm hE hs
  go_enter Try.func144, Try.ntmps144
  go_wp2_with fail
  go_quiet (fail)
  go_wp2
  go_ret
  exact ⟨rfl, below_drewN hB.out _⟩
/-- an entry stored -/
def put5 (W : World) (g f : Nat) (ec ek ea eb : Int) (en : Bool) : World :=
  ((((W.setCell ⟨g, f * 5, none⟩ (.int .i64 ec)).setCell ⟨g, f * 5 + 1, none⟩ (.int .i64 ek)).setCell ⟨g, f * 5 + 2, none⟩ (.int .i64 ea)).setCell ⟨g, f * 5 + 3, none⟩ (.int .i64 eb)).setCell ⟨g, f * 5 + 4, none⟩ (.bool en)
theorem put5_row {W : World} {g N f : Nat} {E : Nat → Ent} (h : W.rowIs g 95 (5 * N) (Es E)) (ec ek ea eb : Int) (en : Bool) : (put5 W g f ec ek ea eb en).rowIs g 95 (5 * N) (Es (updE E f ⟨ec, ek, ea, eb, en⟩)) := by
  refine (((((h.set (f * 5) (.int .i64 ec)).set (f * 5 + 1) (.int .i64 ek)).set (f * 5 + 2) (.int .i64 ea)).set (f * 5 + 3) (.int .i64 eb)).set (f * 5 + 4) (.bool en)).congr fun i hi => ?_
  by_cases e : i / 5 = f
  · obtain ⟨j, hj, rfl⟩ : ∃ j, j < 5 ∧ i = f * 5 + j := ⟨i % 5, by omega, by omega⟩
    simp only [Es_cell _ _ _ hj]
    have hu : updE E f ⟨ec, ek, ea, eb, en⟩ f = ⟨ec, ek, ea, eb, en⟩ := by simp [updE]
    rw [hu]
    have : j = 0 ∨ j = 1 ∨ j = 2 ∨ j = 3 ∨ j = 4 := by omega
    rcases this with rfl | rfl | rfl | rfl | rfl <;> simp [Ent.cell]
  · rw [if_neg (by omega), if_neg (by omega), if_neg (by omega), if_neg (by omega), if_neg (by omega)]
    unfold Es updE
    rw [if_neg e]
theorem one_other {W : World} {g b : Nat} (hb : b ≠ g) (i : Nat) (v : Value) : (W.setCell ⟨g, i, none⟩ v).heap[b]? = W.heap[b]? := Deep.blk_setCell_other _ _ _ _ hb
theorem put5_other {W : World} {g f b : Nat} (ec ek ea eb : Int) (en : Bool) (hb : b ≠ g) : (put5 W g f ec ek ea eb en).heap[b]? = W.heap[b]? :=
  ((((one_other hb _ _).trans (one_other hb _ _)).trans (one_other hb _ _)).trans (one_other hb _ _)).trans (one_other hb _ _)
theorem grown_set {w W : World} {g b : Nat} (h : w.grownBy W (some g)) (hb : b = g ∨ w.heap.size ≤ b) (i : Nat) (v : Value) : w.grownBy (W.setCell ⟨b, i, none⟩ v) (some g) where
  os := h.os
  tape := h.tape
  output := h.output
  size := by rw [World.size_setCell]; exact h.size
  block k hk hne := by
    rw [one_other (by rcases hb with hb | hb <;> (intro e; first | (apply hne; rw [e, hb]) | omega))]
    exact h.block k hk hne
theorem put5_grown {w W : World} {g f : Nat} (h : w.grownBy W (some g)) (ec ek ea eb : Int) (en : Bool) : w.grownBy (put5 W g f ec ek ea eb en) (some g) := by
  unfold put5
  exact grown_set (grown_set (grown_set (grown_set (grown_set h (.inl rfl) _ _) (.inl rfl) _ _) (.inl rfl) _ _) (.inl rfl) _ _) (.inl rfl) _ _
set_option maxHeartbeats 4000000 in
theorem set_yes {w : World} {g gs gm N M f : Nat} {E : Nat → Ent} {e : Ent} (hrow : w.rowIs g 95 (5 * N) (Es E)) (hs : w.cell? ⟨gs, 0, none⟩ = some (.slice (some ⟨g, 0, none⟩) N N)) (hm : w.cell? ⟨gm, 0, none⟩ = some (I M)) (hgs : gs ≠ g) (hgm : gm ≠ g) (hf : f < N) (hN : N ≤ 256) (hM : M + 1 = N) (hand : bits BinOp.andNot IntKind.i64 (M : Int) (f : Int) = ((M - f : Nat) : Int)) (hc : e.c < (E f).c) :
    Calls Try.prog 144 #[I f, .agg #[I e.c, I e.k, I e.a, I e.b, .bool e.nt], .pointer (some ⟨gs, 0, none⟩), .pointer (some ⟨gm, 0, none⟩)] w fun r w' => r = .returned (.bool true) ∧ w'.rowIs g 95 (5 * N) (Es (setE M E f e)) ∧ w.grownBy w' (some g) := by
  have hE : w.cell? ⟨g, f * 5, none⟩ = some (I (E f).c) := by
    have := hrow.cell (i := f * 5) (by omega)
    rw [this]
    exact congrArg some (Es_cell E f 0 (by decide))
  have hs' := cell_alloc hs (.cells e.val.cells 95)
  have hE' := cell_alloc hE (.cells e.val.cells 95)
  have HR := Lib.hid (hrow.alloc (.cells e.val.cells 95))
  have HBX := Lib.hid (World.rowIs_alloc w e.val.cells 95 e.cell (fun i hi => by
    have : i = 0 ∨ i = 1 ∨ i = 2 ∨ i = 3 ∨ i = 4 := by simp [Ent.val, Value.cells] at hi; omega
    rcases this with rfl | rfl | rfl | rfl | rfl <;> rfl))
  have HM := Lib.hid (cell_alloc hm (.cells e.val.cells 95))
  have HS := Lib.hid hs'
  have hB : Hid (w.grownBy (w.alloc (.cells e.val.cells 95)) (some g)) := Lib.hid (World.grownBy_alloc _ _ _)
  have hgB : g < w.heap.size := hrow.lt
  have hgsB : gs ≠ w.heap.size := Nat.ne_of_lt (World.block_lt_of_cell? _ _ hs)
  have hgmB : gm ≠ w.heap.size := Nat.ne_of_lt (World.block_lt_of_cell? _ _ hm)
  simp only [Ent.val, Value.cells] at *
  obtain ⟨ec, ek, ea, eb, en⟩ := e
  simp only at *
  have hd : decide ((E f).c ≤ ec) = false := decide_eq_false (by omega)
  generalize (E f).c = c0 at *
  have h0 : (0 : Int) ≤ f := by omega
  have h1 : (f : Int) < N := by omega
  clear hrow hm hE hs hc
  go_enter Try.func144, Try.ntmps144
  go_wp2_with fail
  go_quiet (fail)
  go_upto_region 3 with fail
  have HR1 : Hid (((w.alloc (.cells #[I ec, I ek, I ea, I eb, .bool en] 95)).drewN nq).rowIs g 95 (5 * N) (Es E)) := Lib.hid HR.out
  have HX1 : Hid (((w.alloc (.cells #[I ec, I ek, I ea, I eb, .bool en] 95)).drewN nq).rowIs w.heap.size 95 5 (Ent.mk ec ek ea eb en).cell) := Lib.hid HBX.out
  have hs1 : ((w.alloc (.cells #[I ec, I ek, I ea, I eb, .bool en] 95)).drewN nq).cell? ⟨gs, 0, none⟩ = some (.slice (some ⟨g, 0, none⟩) N N) := HS.out
  have hm1 : ((w.alloc (.cells #[I ec, I ek, I ea, I eb, .bool en] 95)).drewN nq).cell? ⟨gm, 0, none⟩ = some (I M) := HM.out
  have hG1 : Hid (w.grownBy ((w.alloc (.cells #[I ec, I ek, I ea, I eb, .bool en] 95)).drewN nq) (some g)) := Lib.hid ⟨hB.out.os, hB.out.tape, hB.out.output, hB.out.size, hB.out.block⟩
  clear HR HBX HM HS hB hs' hE'
  generalize (w.alloc (.cells #[I ec, I ek, I ea, I eb, .bool en] 95)).drewN nq = W1 at *
  obtain ⟨B, hBe⟩ : ∃ B, B = w.heap.size := ⟨_, rfl⟩
  rw [← hBe] at hgB hgsB hgmB HX1 ⊢
  have HBe := Lib.hid hBe
  clear hBe
  have b0 := HX1.out.cell (i := 0) (by decide)
  have b1 := HX1.out.cell (i := 1) (by decide)
  have b2 := HX1.out.cell (i := 2) (by decide)
  have b3 := HX1.out.cell (i := 3) (by decide)
  have b4 := HX1.out.cell (i := 4) (by decide)
  simp only [Ent.cell] at b0 b1 b2 b3 b4
  have r0 := HR1.out.cell (i := f * 5) (by omega)
  have r1 := HR1.out.cell (i := f * 5 + 1) (by omega)
  have r2 := HR1.out.cell (i := f * 5 + 2) (by omega)
  have r3 := HR1.out.cell (i := f * 5 + 3) (by omega)
  have r4 := HR1.out.cell (i := f * 5 + 4) (by omega)
  have q0 := HR1.out.frozen (f * 5)
  have q1 := HR1.out.frozen (f * 5 + 1)
  have q2 := HR1.out.frozen (f * 5 + 2)
  have q3 := HR1.out.frozen (f * 5 + 3)
  have q4 := HR1.out.frozen (f * 5 + 4)
  go_upto_region 4 with fail
  have HR2 : Hid ((put5 W1 g f ec ek ea eb en).rowIs g 95 (5 * N) (Es (updE E f ⟨ec, ek, ea, eb, en⟩))) := Lib.hid (put5_row HR1.out ec ek ea eb en)
  have HX2 : Hid ((put5 W1 g f ec ek ea eb en).rowIs B 95 5 (Ent.mk ec ek ea eb en).cell) := Lib.hid (HX1.out.of_block (put5_other _ _ _ _ _ (by omega)))
  have hs2 : (put5 W1 g f ec ek ea eb en).cell? ⟨gs, 0, none⟩ = some (.slice (some ⟨g, 0, none⟩) N N) := (World.cell?_of_block (put5_other _ _ _ _ _ hgs)).trans hs1
  have hm2 : (put5 W1 g f ec ek ea eb en).cell? ⟨gm, 0, none⟩ = some (I M) := (World.cell?_of_block (put5_other _ _ _ _ _ hgm)).trans hm1
  have hG2 : Hid (w.grownBy (put5 W1 g f ec ek ea eb en) (some g)) := Lib.hid (put5_grown hG1.out ec ek ea eb en)
  rw [show ((((W1.setCell ⟨g, f * 5, none⟩ (.int .i64 ec)).setCell ⟨g, f * 5 + 1, none⟩ (.int .i64 ek)).setCell ⟨g, f * 5 + 2, none⟩ (.int .i64 ea)).setCell ⟨g, f * 5 + 3, none⟩ (.int .i64 eb)).setCell ⟨g, f * 5 + 4, none⟩ (.bool en) = put5 W1 g f ec ek ea eb en from rfl]
  clear HR1 HX1 hs1 hm1 hG1 b0 b1 b2 b3 b4 r0 r1 r2 r3 r4 q0 q1 q2 q3 q4
  generalize put5 W1 g f ec ek ea eb en = W2 at *
  have b4 := HX2.out.cell (i := 4) (by decide)
  have p4 := HX2.out.frozen 4
  simp only [Ent.cell] at b4
  go_upto_region 5 with fail
  have hMf : M - f < N := by omega
  have HR3 : Hid ((W2.setCell ⟨B, 4, none⟩ (.bool (!en))).rowIs g 95 (5 * N) (Es (updE E f ⟨ec, ek, ea, eb, en⟩))) := Lib.hid (HR2.out.setOther (by simp; omega) _)
  have HX3 : Hid ((W2.setCell ⟨B, 4, none⟩ (.bool (!en))).rowIs B 95 5 (Ent.mk ec ek ea eb (!en)).cell) := Lib.hid ((HX2.out.set 4 (.bool (!en))).congr fun i hi => by
    have : i = 0 ∨ i = 1 ∨ i = 2 ∨ i = 3 ∨ i = 4 := by omega
    rcases this with rfl | rfl | rfl | rfl | rfl <;> rfl)
  have hs3 : (W2.setCell ⟨B, 4, none⟩ (.bool (!en))).cell? ⟨gs, 0, none⟩ = some (.slice (some ⟨g, 0, none⟩) N N) := (World.cell?_of_block (one_other hgsB _ _)).trans hs2
  have hm3 : (W2.setCell ⟨B, 4, none⟩ (.bool (!en))).cell? ⟨gm, 0, none⟩ = some (I M) := (World.cell?_of_block (one_other hgmB _ _)).trans hm2
  have hG3 : Hid (w.grownBy (W2.setCell ⟨B, 4, none⟩ (.bool (!en))) (some g)) := Lib.hid (grown_set hG2.out (.inr (by have := HBe.out; omega)) _ _)
  clear HR2 HX2 hs2 hm2 hG2 b4 p4
  generalize W2.setCell ⟨B, 4, none⟩ (.bool (!en)) = W3 at *
  have b0 := HX3.out.cell (i := 0) (by decide)
  have b1 := HX3.out.cell (i := 1) (by decide)
  have b2 := HX3.out.cell (i := 2) (by decide)
  have b3 := HX3.out.cell (i := 3) (by decide)
  have b4 := HX3.out.cell (i := 4) (by decide)
  simp only [Ent.cell] at b0 b1 b2 b3 b4
  have HSE : Hid (setE M E f ⟨ec, ek, ea, eb, en⟩ = updE (updE E f ⟨ec, ek, ea, eb, en⟩) (M - f) ⟨ec, ek, ea, eb, !en⟩) := Lib.hid rfl
  generalize M - f = d at *
  have r0 := HR3.out.cell (i := d * 5) (by omega)
  have r1 := HR3.out.cell (i := d * 5 + 1) (by omega)
  have r2 := HR3.out.cell (i := d * 5 + 2) (by omega)
  have r3 := HR3.out.cell (i := d * 5 + 3) (by omega)
  have r4 := HR3.out.cell (i := d * 5 + 4) (by omega)
  have q0 := HR3.out.frozen (d * 5)
  have q1 := HR3.out.frozen (d * 5 + 1)
  have q2 := HR3.out.frozen (d * 5 + 2)
  have q3 := HR3.out.frozen (d * 5 + 3)
  have q4 := HR3.out.frozen (d * 5 + 4)
  have h2 : (0 : Int) ≤ d := by omega
  have h3 : (d : Int) < N := by omega
  generalize (!en) = en' at *
  have HF : Hid ((put5 W3 g d ec ek ea eb en').rowIs g 95 (5 * N) (Es (updE (updE E f ⟨ec, ek, ea, eb, en⟩) d ⟨ec, ek, ea, eb, en'⟩))) := Lib.hid (put5_row HR3.out ec ek ea eb en')
  have hG4 : Hid (w.grownBy (put5 W3 g d ec ek ea eb en') (some g)) := Lib.hid (put5_grown hG3.out ec ek ea eb en')
  go_wp2
  go_ret
  rw [HSE.out]
  exact ⟨rfl, HF.out, hG4.out⟩
end Go.Proofs.Ytpfbommaddaijaa
namespace Go.Proofs.Ytpfbommaddaijaa
open Go.RowKit Go.Maps
set_option linter.unusedVariables false
set_option linter.unusedSimpArgs false

theorem law3 : Keyed Try.prog 3 := int_keyed Try.underlying3
/-- a leaf's formula, read: its kind and its number -/
def frm (v : Value) : Option (DataW Unit × List MemPlace) :=
  match v with
  | .agg cells => match cells.toList with
    | [.int .i64 a, .int .i64 b, .slice none 0 0] => some (.agg [.lit (.int .i64 a), .lit (.int .i64 b)], [])
    | _ => none
  | _ => none
theorem frm_inv (v : Value) (y : DataW Unit × List MemPlace) (h : frm v = some y) : ∃ p : Int × Int, v = .agg #[.int .i64 p.1, .int .i64 p.2, .slice none 0 0] ∧ y = (.agg [.lit (.int .i64 p.1), .lit (.int .i64 p.2)], []) := by
  unfold frm at h
  cases v <;> try (cases h; done)
  rename_i cells
  simp only at h
  split at h
  · rename_i a b he
    refine ⟨(a, b), ?_, by cases h; rfl⟩
    obtain ⟨l⟩ := cells
    simp only at he
    rw [he]
  · cases h
theorem frm_mk (a b : Int) : frm (.agg #[.int .i64 a, .int .i64 b, .slice none 0 0]) = some (.agg [.lit (.int .i64 a), .lit (.int .i64 b)], []) := rfl
/-- the function of variable v, its bits below j -/
def lf (v : Nat) : Nat → Nat
  | 0 => 0
  | j + 1 => lf v j ||| (((j / 2 ^ v) &&& 1) * 2 ^ j)
/-- the map behind k variables of n -/
def Dl (n : Nat) : Nat → DataW Unit
  | 0 => (DataW.map []).put (.int .i64 0) (.agg [.lit (.int .i64 1), .lit (.int .i64 0)])
  | k + 1 => (Dl n k).put (.int .i64 (lf k (2 ^ n))) (.agg [.lit (.int .i64 0), .lit (.int .i64 k)])
theorem lf_wf : ∀ (v : Fin 3) (n : Fin 4), (Lit.int .i64 (lf v.val (2 ^ n.val))).wf = true := by decide +kernel
theorem bit_step : ∀ (v : Fin 3) (j : Fin 8), bits BinOp.or .i64 (lf v.val j.val : Int) (wrap64 (bits BinOp.and .i64 ((j.val : Int) / 2 ^ v.val) 1 * 2 ^ j.val)) = (lf v.val (j.val + 1) : Int) := by decide +kernel
set_option maxHeartbeats 4000000 in
set_option maxRecDepth 100000 in
theorem leaves_any {w : World} (n : Nat) (hn : n ≤ 3) : Calls Try.prog 78 #[I n] w fun e w' => e = .returned (.map (some w.heap.size)) ∧ w'.ownsMap Try.prog 3 frm w.heap.size (n + 1) (Dl n n) ∧ Below w.heap.size w w' := by
  have hmm := @run_makeMap Try.prog
  have hown0 := World.ownsMap_made w Try.prog 3 frm
  have hb0 : Below w.heap.size w (w.alloc (.map #[] 0)) := (Below.refl _ _).alloc (Nat.le_refl _) _
  have HO := Lib.hid hown0
  have HB := Lib.hid hb0
  have hp : wrap64 ((2 : Int) ^ n) = ((2 ^ n : Nat) : Int) := by
    have : ∀ c : Fin 4, wrap64 ((2 : Int) ^ c.val) = ((2 ^ c.val : Nat) : Int) := by decide +kernel
    exact this ⟨n, by omega⟩
  have h0 : (0 : Int) ≤ n := by omega
  obtain ⟨P, hpw⟩ : ∃ P, P = 2 ^ n := ⟨_, rfl⟩
  rw [← hpw] at hp
  have HPW := Lib.hid hpw
  have hP8 : P ≤ 8 := by
    have : 2 ^ n ≤ 2 ^ 3 := Nat.pow_le_pow_right (by decide) hn
    omega
  clear hpw hown0 hb0
  go_enter Try.func78, Try.ntmps78
  go_wp2_with (first
    | (at_mapUpdate; refine wpList_mapUpdate_own _ rfl _ _ _ 97 rfl 3 24 law3 Try.underlying97 _ w.heap.size 0 _ rfl HO.out (by unfold maxLen; omega) _ _ _ rfl rfl (keyOf_int_mk Try.underlying3 (by decide)) _ [] (frm_mk 1 0) ?_; intro w1 hown1 hgrow1; have HO1 := Lib.hid hown1; have HB1 := Lib.hid (HB.out.grown hgrow1 HB.out.size (fun j hj => by cases hj; exact Nat.le_refl _)); clear hown1 hgrow1)
    | go_in)
  clear HO HB
  go_loopw [14] (fun x wr => ∃ k : Nat, k ≤ n ∧ x = I k ∧ Hid (wr.ownsMap Try.prog 3 frm w.heap.size (k + 1) (Dl n k)) ∧ Hid (Below w.heap.size w wr)) (fun x _ => n - (intOf x).toNat)
  case atStart => exact ⟨0, by omega, rfl, HO1, HB1⟩
  case round =>
    clear HO1 HB1
    obtain ⟨k, hk, rfl, HO, HB⟩ := hrel
    by_cases hkn : k < n
    · have hk0 : (0 : Int) ≤ k := by omega
      go_wp2
      go_loopw [6, 18] (fun x y wc => ∃ j : Nat, j ≤ P ∧ x = I (lf k j) ∧ y = I j ∧ wc = wr) (fun _ y _ => P - (intOf y).toNat)
      case atStart => exact ⟨0, by omega, rfl, rfl, rfl⟩
      case round =>
        obtain ⟨j, hj, rfl, rfl, hwc⟩ := hrel
        rw [hwc]
        clear hwc
        by_cases hjp : j < P
        · have hst := bit_step ⟨k, by omega⟩ ⟨j, by omega⟩
          simp only at hst
          generalize hL : lf k (j + 1) = L1 at *
          generalize lf k j = L0 at *
          go_wp2
          go_roundw
          case rel => exact ⟨j + 1, by omega, by rw [hL], by go_num, by first | rfl | trivial⟩
          case measure => simp [intOf]; omega
        · obtain rfl : j = P := by omega
          have hwf := lf_wf ⟨k, by omega⟩ ⟨n, by omega⟩
          simp only at hwf
          rw [← HPW.out] at hwf
          have hD : Hid (Dl n (k + 1) = (Dl n k).put (.int .i64 (lf k j)) (.agg [.lit (.int .i64 0), .lit (.int .i64 k)])) := Lib.hid (by rw [HPW.out]; rfl)
          have hkey := Lib.hid (keyOf_int_mk Try.underlying3 hwf)
          clear hwf
          generalize lf k j = L0 at *
          go_wp2_with (first
            | (at_mapUpdate; refine wpList_mapUpdate_own _ rfl _ _ _ 97 rfl 3 24 law3 Try.underlying97 _ w.heap.size (k + 1) _ rfl HO.out (by unfold maxLen; omega) _ _ _ rfl rfl hkey.out _ [] (frm_mk 0 k) ?_; intro w2 hown1 hgrow1; have HO2 := Lib.hid hown1; have HB2 := Lib.hid (HB.out.grown hgrow1 HB.out.size (fun j hj => by cases hj; exact Nat.le_refl _)); clear hown1 hgrow1)
            | go_in)
          go_roundw
          case rel => exact ⟨k + 1, by omega, by go_num, Lib.hid (by rw [hD.out]; exact HO2.out), HB2⟩
          case measure => simp [intOf]; omega
    · obtain rfl : k = n := by omega
      go_wp2
      go_ret
      exact ⟨rfl, HO.out, HB.out⟩
end Go.Proofs.Ytpfbommaddaijaa
namespace Go.Proofs.Ytpfbommaddaijaa
set_option linter.unusedVariables false
set_option linter.unusedSimpArgs false

abbrev BIG : Int := 1048576
/-- the functions of leaves -/
def LS (n l : Nat) : Prop := l = 0 ∨ ∃ v, v < n ∧ l = lf v (2 ^ n)
structure Join (J : Int → Int → Int) : Prop where
  mono : ∀ a b c d, 0 ≤ a → 0 ≤ b → a ≤ c → b ≤ d → J a b ≤ J c d
  comm : ∀ a b, J a b = J b a
  pos : ∀ a b, 0 ≤ a → 0 ≤ b → a ≤ J a b ∧ b ≤ J a b
  top : ∀ a b, 0 ≤ a → 0 ≤ b → a ≤ BIG → b ≤ BIG → J a b ≤ 2 * BIG + 1
theorem join_sum : Join (fun a b => a + b) := ⟨fun _ _ _ _ _ _ _ _ => by omega, fun _ _ => by omega, fun _ _ _ _ => by omega, fun _ _ _ _ _ _ => by omega⟩
theorem join_max : Join (fun a b => 1 + max a b) := ⟨fun _ _ _ _ _ _ _ _ => by omega, fun _ _ => by omega, fun _ _ _ _ => by omega, fun _ _ _ _ _ _ => by omega⟩
inductive Der (n M : Nat) (leaf : Int) (xor : Bool) (J : Int → Int → Int) : Nat → Int → Prop
  | leaf {l : Nat} : LS n l → Der n M leaf xor J l leaf
  | neg {f : Nat} {c : Int} : f ≤ M → Der n M leaf xor J f c → Der n M leaf xor J (M - f) c
  | and {x y : Nat} {a b : Int} : x ≤ M → y ≤ M → Der n M leaf xor J x a → Der n M leaf xor J y b → Der n M leaf xor J (x &&& y) (J a b)
  | xor {x y : Nat} {a b : Int} : xor = true → x ≤ M → y ≤ M → Der n M leaf xor J x a → Der n M leaf xor J y b → Der n M leaf xor J (x ^^^ y) (J a b)
/-- how an entry is made -/
def Shp (n M : Nat) (leaf : Int) (xor : Bool) (J : Int → Int → Int) (C : Nat → Int) (f : Nat) (e : Ent) : Prop :=
  (e.k = -1 ∧ ∃ l : Nat, LS n l ∧ e.a = l ∧ e.c = leaf ∧ f = if e.nt then M - l else l) ∨
  (∃ x y : Nat, y ≤ x ∧ x ≤ M ∧ e.a = x ∧ e.b = y ∧ J (C x) (C y) ≤ e.c ∧ C x < BIG ∧ C y < BIG ∧ ((e.k = 3 ∧ f = if e.nt then M - (x &&& y) else x &&& y) ∨ (xor = true ∧ e.k = 5 ∧ f = if e.nt then M - (x ^^^ y) else x ^^^ y)))
def cs (E : Nat → Ent) (f : Nat) : Int := (E f).c
structure Inv (n M : Nat) (leaf : Int) (xor : Bool) (J : Int → Int → Int) (E : Nat → Ent) : Prop where
  hb : ∀ f, f ≤ M → 0 ≤ cs E f ∧ cs E f ≤ BIG
  hd : ∀ f, f ≤ M → cs E f < BIG → Der n M leaf xor J f (cs E f)
  hs : ∀ f, f ≤ M → cs E (M - f) = cs E f
  hk : ∀ f, f ≤ M → cs E f < BIG → Shp n M leaf xor J (cs E) f (E f)
theorem cs_set (M : Nat) (E : Nat → Ent) (f : Nat) (e : Ent) (u : Nat) : cs (setE M E f e) u = if u = M - f ∨ u = f then e.c else cs E u := by
  unfold cs setE updE
  by_cases h1 : u = M - f
  · simp [h1]
  · by_cases h2 : u = f
    · simp only [h2, or_true, if_true]
      split <;> rfl
    · simp [h1, h2]
theorem Shp.less {n M : Nat} {leaf : Int} {xor : Bool} {J : Int → Int → Int} {C C' : Nat → Int} {f : Nat} {e : Ent} (h : Shp n M leaf xor J C f e) (hJ : Join J) (h0 : ∀ u, u ≤ M → 0 ≤ C' u) (hle : ∀ u, u ≤ M → C' u ≤ C u) : Shp n M leaf xor J C' f e := by
  rcases h with h | ⟨x, y, h1, h2, h3, h4, h5, h6, h7, h8⟩
  · exact .inl h
  · refine .inr ⟨x, y, h1, h2, h3, h4, ?_, ?_, ?_, h8⟩
    · exact Int.le_trans (hJ.mono _ _ _ _ (h0 x h2) (h0 y (by omega)) (hle x h2) (hle y (by omega))) h5
    · have := hle x h2; omega
    · have := hle y (by omega); omega
theorem Shp.neg {n M : Nat} {leaf : Int} {xor : Bool} {J : Int → Int → Int} {C : Nat → Int} {f : Nat} {e : Ent} (h : Shp n M leaf xor J C f e) (hn : e.nt = false) : Shp n M leaf xor J C (M - f) { e with nt := true } := by
  rcases h with ⟨h1, l, h2, h3, h4, h5⟩ | ⟨x, y, h1, h2, h3, h4, h5, h6, h7, h8⟩
  · refine .inl ⟨h1, l, h2, h3, h4, ?_⟩
    rw [hn] at h5
    simp at h5
    simp [h5]
  · refine .inr ⟨x, y, h1, h2, h3, h4, h5, h6, h7, ?_⟩
    rw [hn] at h8
    simp at h8
    rcases h8 with ⟨e1, e2⟩ | ⟨e0, e1, e2⟩
    · exact .inl ⟨e1, by simp [e2]⟩
    · exact .inr ⟨e0, e1, by simp [e2]⟩
theorem Inv.step {n M : Nat} {leaf : Int} {xor : Bool} {J : Int → Int → Int} {E : Nat → Ent} (h : Inv n M leaf xor J E) (hJ : Join J) {f : Nat} {e : Ent} (hf : f ≤ M) (hodd : M % 2 = 1) (hc : e.c < cs E f) (h0 : 0 ≤ e.c) (hn : e.nt = false) (hder : Der n M leaf xor J f e.c) (hshp : Shp n M leaf xor J (cs E) f e) : Inv n M leaf xor J (setE M E f e) := by
  have hle : ∀ u, u ≤ M → cs (setE M E f e) u ≤ cs E u := fun u hu => by
    rw [cs_set]
    by_cases h1 : u = M - f
    · rw [if_pos (.inl h1), h1, h.hs f hf]; omega
    · by_cases h2 : u = f
      · rw [if_pos (.inr h2), h2]; omega
      · rw [if_neg (by simp [h1, h2])]; omega
  have hge : ∀ u, u ≤ M → 0 ≤ cs (setE M E f e) u := fun u hu => by
    rw [cs_set]
    split
    · exact h0
    · exact (h.hb u hu).1
  have hne : M - f ≠ f := by omega
  refine ⟨fun u hu => ⟨hge u hu, Int.le_trans (hle u hu) (h.hb u hu).2⟩, fun u hu hlt => ?_, fun u hu => ?_, fun u hu hlt => ?_⟩
  · rw [cs_set] at hlt ⊢
    by_cases h1 : u = M - f
    · rw [if_pos (.inl h1), h1]; exact .neg hf hder
    · by_cases h2 : u = f
      · rw [if_pos (.inr h2), h2]; exact hder
      · rw [if_neg (by simp [h1, h2])] at hlt ⊢
        exact h.hd u hu hlt
  · rw [cs_set, cs_set]
    have e1 : (M - u = M - f ∨ M - u = f) ↔ (u = M - f ∨ u = f) := by omega
    by_cases h3 : u = M - f ∨ u = f
    · rw [if_pos h3, if_pos (e1.2 h3)]
    · rw [if_neg h3, if_neg (fun h4 => h3 (e1.1 h4))]
      exact h.hs u hu
  · have key : Shp n M leaf xor J (cs E) u (setE M E f e u) := by
      by_cases h1 : u = M - f
      · have : setE M E f e u = { e with nt := true } := by simp [setE, updE, h1, hn]
        rw [this, h1]
        exact hshp.neg hn
      · by_cases h2 : u = f
        · have : setE M E f e u = e := by simp only [setE, updE]; rw [if_neg h1, if_pos h2]
          rw [this, h2]
          exact hshp
        · have : setE M E f e u = E u := by simp only [setE, updE]; rw [if_neg h1, if_neg h2]
          rw [this]
          refine h.hk u hu ?_
          rw [cs_set, if_neg (by simp [h1, h2])] at hlt
          exact hlt
    exact key.less hJ hge hle
/-- the sum of the costs -/
def phi (E : Nat → Ent) : Nat → Nat
  | 0 => 0
  | i + 1 => phi E i + (cs E i).toNat
theorem phi_le {E E' : Nat → Ent} : ∀ N, (∀ u, u < N → cs E' u ≤ cs E u) → phi E' N ≤ phi E N
  | 0, h => Nat.le_refl _
  | N + 1, h => by
    have := phi_le N (fun u hu => h u (by omega))
    have := h N (by omega)
    simp only [phi]
    omega
theorem phi_lt {E E' : Nat → Ent} : ∀ N, (∀ u, u < N → cs E' u ≤ cs E u) → ∀ f, f < N → 0 ≤ cs E' f → cs E' f < cs E f → phi E' N < phi E N
  | 0, h, f, hf, h0, hlt => by omega
  | N + 1, h, f, hf, h0, hlt => by
    simp only [phi]
    by_cases e : f = N
    · have := phi_le N (fun u hu => h u (by omega))
      subst e
      omega
    · have := phi_lt N (fun u hu => h u (by omega)) f (by omega) h0 hlt
      have := h N (by omega)
      omega
/-- closed under leaves and joins -/
structure Clo (n M : Nat) (leaf : Int) (xor : Bool) (J : Int → Int → Int) (E : Nat → Ent) : Prop where
  lv : ∀ l, LS n l → cs E l ≤ leaf
  nd : ∀ x y, y ≤ x → x ≤ M → J (cs E x) (cs E y) < BIG → cs E (x &&& y) ≤ J (cs E x) (cs E y) ∧ (xor = true → cs E (x ^^^ y) ≤ J (cs E x) (cs E y))
theorem Clo.least {n M : Nat} {leaf : Int} {xor : Bool} {J : Int → Int → Int} {E : Nat → Ent} (h : Clo n M leaf xor J E) (hi : Inv n M leaf xor J E) (hJ : Join J) (hpow : ∃ k, M + 1 = 2 ^ k) (hls : ∀ l, LS n l → l ≤ M) : ∀ {f : Nat} {c : Int}, Der n M leaf xor J f c → f ≤ M ∧ (c < BIG → cs E f ≤ c) := by
  have hand : ∀ x y, x ≤ M → x &&& y ≤ M := fun x y hx => Nat.le_trans Nat.and_le_left hx
  have hxor : ∀ x y, x ≤ M → y ≤ M → x ^^^ y ≤ M := fun x y hx hy => by
    obtain ⟨k, hk⟩ := hpow
    have := Nat.xor_lt_two_pow (n := k) (x := x) (y := y) (by omega) (by omega)
    omega
  have hBIG : BIG = 1048576 := rfl
  intro f c hd
  induction hd with
  | leaf hl => exact ⟨hls _ hl, fun _ => h.lv _ hl⟩
  | neg hf _ ih => exact ⟨by omega, fun hc => by rw [hi.hs _ hf]; exact ih.2 hc⟩
  | @and x y a b hx hy _ _ i1 i2 =>
    refine ⟨hand _ _ hx, fun hc => ?_⟩
    have p0 := (hi.hb x hx).1
    have p1 := (hi.hb y hy).1
    by_cases ha : a < BIG
    · by_cases hb : b < BIG
      · have m1 := hJ.mono _ _ _ _ p0 p1 (i1.2 ha) (i2.2 hb)
        rcases Nat.le_total y x with hyx | hxy
        · have := (h.nd x y hyx hx (by omega)).1
          omega
        · have := (h.nd y x hxy hy (by rw [hJ.comm]; omega)).1
          rw [Nat.and_comm, hJ.comm] at this
          omega
      · have a0 : 0 ≤ a := Int.le_trans p0 (i1.2 ha)
        have := (hJ.pos a b a0 (by omega)).2
        omega
    · by_cases hb : 0 ≤ b
      · have := (hJ.pos a b (by omega) hb).1
        omega
      · have := i2.2 (by omega)
        omega
  | @xor x y a b hxo hx hy _ _ i1 i2 =>
    refine ⟨hxor _ _ hx hy, fun hc => ?_⟩
    have p0 := (hi.hb x hx).1
    have p1 := (hi.hb y hy).1
    by_cases ha : a < BIG
    · by_cases hb : b < BIG
      · have m1 := hJ.mono _ _ _ _ p0 p1 (i1.2 ha) (i2.2 hb)
        rcases Nat.le_total y x with hyx | hxy
        · have := (h.nd x y hyx hx (by omega)).2 hxo
          omega
        · have := (h.nd y x hxy hy (by rw [hJ.comm]; omega)).2 hxo
          rw [Nat.xor_comm, hJ.comm] at this
          omega
      · have a0 : 0 ≤ a := Int.le_trans p0 (i1.2 ha)
        have := (hJ.pos a b a0 (by omega)).2
        omega
    · by_cases hb : 0 ≤ b
      · have := (hJ.pos a b (by omega) hb).1
        omega
      · have := i2.2 (by omega)
        omega
end Go.Proofs.Ytpfbommaddaijaa
namespace Go.Proofs.Ytpfbommaddaijaa
open Go.Maps
set_option linter.unusedVariables false
set_option linter.unusedSimpArgs false

theorem isMap_Dl (n : Nat) : ∀ k, IsMap (Dl n k)
  | 0 => isMap_empty.put _ _
  | k + 1 => (isMap_Dl n k).put _ _
theorem has_Dl (n : Nat) (x : Int) : ∀ k, has (Dl n k) (.int .i64 x) = true ↔ x = 0 ∨ ∃ v, v < k ∧ x = lf v (2 ^ n)
  | 0 => by
    rw [Dl]
    by_cases h : x = 0
    · subst h
      have e := has_put_same (H := Unit) (D := .map []) (k := .int .i64 0) isMap_empty trivial (.agg [.lit (.int .i64 1), .lit (.int .i64 0)])
      simp [e]
    · rw [has_put_other (by intro e; cases e; exact h rfl)]
      simp [has, h]
  | k + 1 => by
    rw [Dl]
    by_cases h : x = lf k (2 ^ n)
    · rw [h]
      have e := has_put_same (k := .int .i64 (lf k (2 ^ n) : Int)) (isMap_Dl n k) trivial (.agg [.lit (.int .i64 0), .lit (.int .i64 k)])
      simp only [e, true_iff]
      exact .inr ⟨k, by omega, rfl⟩
    · rw [has_put_other (by intro e; cases e; exact h rfl), has_Dl n x k]
      refine ⟨fun h1 => ?_, fun h1 => ?_⟩
      · rcases h1 with h1 | ⟨v, h2, h3⟩
        · exact .inl h1
        · exact .inr ⟨v, by omega, h3⟩
      · rcases h1 with h1 | ⟨v, h2, h3⟩
        · exact .inl h1
        · refine .inr ⟨v, ?_, h3⟩
          by_cases e : v = k
          · subst e; exact absurd h3 h
          · omega
theorem has_LS {n : Nat} {x : Int} (h : has (Dl n n) (.int .i64 x) = true) : ∃ l : Nat, LS n l ∧ x = l := by
  rcases (has_Dl n x n).1 h with h | ⟨v, h1, h2⟩
  · exact ⟨0, .inl rfl, by simp [h]⟩
  · exact ⟨_, .inr ⟨v, h1, rfl⟩, h2⟩
theorem LS_has {n l : Nat} (h : LS n l) : has (Dl n n) (.int .i64 (l : Int)) = true := by
  refine (has_Dl n l n).2 ?_
  rcases h with rfl | ⟨v, h1, rfl⟩
  · exact .inl rfl
  · exact .inr ⟨v, h1, rfl⟩
theorem lf_lt : ∀ (n : Fin 4) (v : Fin 3), v.val < n.val → lf v.val (2 ^ n.val) < 2 ^ 2 ^ n.val := by decide +kernel
theorem LS_lt {n l : Nat} (hn : n ≤ 3) (h : LS n l) : l < 2 ^ 2 ^ n := by
  rcases h with rfl | ⟨v, h1, rfl⟩
  · exact Nat.two_pow_pos _
  · exact lf_lt ⟨n, by omega⟩ ⟨v, by omega⟩ h1
/-- ahead of the leaves -/
def E1 (i : Nat) : Nat → Ent := fun f => ⟨if f < i then 1048576 else 0, 0, 0, 0, false⟩
theorem inv_E1 {n M N : Nat} {leaf : Int} {xor : Bool} {J : Int → Int → Int} (hM : M + 1 = N) : Inv n M leaf xor J (E1 N) := by
  have hc : ∀ f, f ≤ M → cs (E1 N) f = BIG := fun f hf => by
    unfold cs E1
    simp only
    rw [if_pos (by omega)]
  refine ⟨fun f hf => by rw [hc f hf]; simp [BIG], fun f hf h => ?_, fun f hf => by rw [hc f hf, hc _ (by omega)], fun f hf h => ?_⟩
  · rw [hc f hf] at h; exact absurd h (by simp)
  · rw [hc f hf] at h; exact absurd h (by simp)
/-- while the leaves are laid: what is still to come, or laid -/
structure Lv (n M : Nat) (leaf : Int) (xor : Bool) (J : Int → Int → Int) (left : Lit → Bool) (E : Nat → Ent) : Prop where
  inv : Inv n M leaf xor J E
  keys : ∀ kl, left kl = true → has (Dl n n) kl = true
  laid : ∀ l, LS n l → left (.int .i64 (l : Int)) = false → cs E l ≤ leaf
theorem Lv.next {n M : Nat} {leaf : Int} {xor : Bool} {J : Int → Int → Int} {left : Lit → Bool} {E : Nat → Ent} (h : Lv n M leaf xor J left E) (hJ : Join J) (hodd : M % 2 = 1) (h0 : 0 ≤ leaf) {l : Nat} (hl : LS n l) (hlM : l ≤ M) (hlB : ∀ l', LS n l' → l' ≤ M) {r : Bool} (hr : r = decide (leaf < cs E l)) :
    Lv n M leaf xor J (fun z => left z && !z.sameKey (.int .i64 (l : Int))) (if r = true then setE M E l ⟨leaf, -1, l, 0, false⟩ else E) := by
  subst hr
  by_cases hc : leaf < cs E l
  · rw [decide_eq_true hc, if_pos rfl]
    refine ⟨h.inv.step hJ hlM hodd hc h0 rfl (.leaf hl) (.inl ⟨rfl, l, hl, rfl, rfl, rfl⟩), fun kl hk => h.keys kl (by simp at hk; exact hk.1), fun l' hl' hf => ?_⟩
    rw [cs_set]
    by_cases e : l' = M - l ∨ l' = l
    · rw [if_pos e]; exact Int.le_refl _
    · rw [if_neg e]
      refine h.laid l' hl' ?_
      by_cases e2 : left (.int .i64 (l' : Int)) = true
      · simp only [e2, Bool.true_and, Bool.not_eq_false'] at hf
        have hne : l' ≠ l := fun e3 => e (.inr e3)
        rw [sameKey_ne (by intro e3; cases e3; exact hne (by omega))] at hf
        cases hf
      · exact eq_false_of_ne_true e2
  · rw [decide_eq_false hc, if_neg (by decide)]
    refine ⟨h.inv, fun kl hk => h.keys kl (by simp at hk; exact hk.1), fun l' hl' hf => ?_⟩
    by_cases e : l' = l
    · rw [e]; omega
    · refine h.laid l' hl' ?_
      by_cases e2 : left (.int .i64 (l' : Int)) = true
      · simp only [e2, Bool.true_and, Bool.not_eq_false'] at hf
        rw [sameKey_ne (by intro e3; cases e3; exact e (by omega))] at hf
        cases hf
      · exact eq_false_of_ne_true e2
/-- within a pass -/
structure Ps (n M : Nat) (leaf : Int) (xor : Bool) (J : Int → Int → Int) (p0 : Nat) (a b : Nat) (mb : Bool) (E : Nat → Ent) : Prop where
  inv : Inv n M leaf xor J E
  lv : ∀ l, LS n l → cs E l ≤ leaf
  ph : phi E (M + 1) ≤ p0
  tr : mb = true → phi E (M + 1) < p0
  nd : mb = false → ∀ x y, y ≤ x → x ≤ M → (x < a ∨ (x = a ∧ y < b)) → J (cs E x) (cs E y) < BIG → cs E (x &&& y) ≤ J (cs E x) (cs E y) ∧ (xor = true → cs E (x ^^^ y) ≤ J (cs E x) (cs E y))
namespace Ps
variable {n M : Nat} {leaf : Int} {xor : Bool} {J : Int → Int → Int} {p0 a b : Nat} {mb : Bool} {E : Nat → Ent}
theorem start (hi : Inv n M leaf xor J E) (hl : ∀ l, LS n l → cs E l ≤ leaf) : Ps n M leaf xor J (phi E (M + 1)) 0 0 false E :=
  ⟨hi, hl, Nat.le_refl _, (fun h => by cases h), (fun _ x y _ _ h => by omega)⟩
theorem set (h : Ps n M leaf xor J p0 a b mb E) (hJ : Join J) (hodd : M % 2 = 1) {f : Nat} {e : Ent} (hf : f ≤ M) (h0 : 0 ≤ e.c) (hn : e.nt = false) (hder : Der n M leaf xor J f e.c) (hshp : Shp n M leaf xor J (cs E) f e) {r : Bool} (hr : r = decide (e.c < cs E f)) :
    Ps n M leaf xor J p0 a b (r || mb) (if r = true then setE M E f e else E) := by
  subst hr
  by_cases hc : e.c < cs E f
  · rw [decide_eq_true hc, if_pos rfl]
    have hle : ∀ u, u < M + 1 → cs (setE M E f e) u ≤ cs E u := fun u hu => by
      rw [cs_set]
      by_cases h1 : u = M - f
      · rw [if_pos (.inl h1), h1, h.inv.hs f hf]; omega
      · by_cases h2 : u = f
        · rw [if_pos (.inr h2), h2]; omega
        · rw [if_neg (by simp [h1, h2])]; omega
    have hlt : phi (setE M E f e) (M + 1) < phi E (M + 1) := phi_lt (M + 1) hle f (by omega) (by rw [cs_set, if_pos (.inr rfl)]; exact h0) (by rw [cs_set, if_pos (.inr rfl)]; exact hc)
    have hp := h.ph
    refine ⟨h.inv.step hJ hf hodd hc h0 hn hder hshp, fun l hl => ?_, by omega, fun _ => by omega, fun hm => by simp at hm⟩
    by_cases hlM : l < M + 1
    · exact Int.le_trans (hle l hlM) (h.lv l hl)
    · rw [cs_set, if_neg (by omega)]
      exact h.lv l hl
  · rw [decide_eq_false hc, if_neg (by decide), Bool.false_or]
    exact h
theorem done (h : Ps n M leaf xor J p0 a b mb E) (hb : b ≤ a) (hp : mb = false → J (cs E a) (cs E b) < BIG → cs E (a &&& b) ≤ J (cs E a) (cs E b) ∧ (xor = true → cs E (a ^^^ b) ≤ J (cs E a) (cs E b))) : Ps n M leaf xor J p0 a (b + 1) mb E :=
  ⟨h.inv, h.lv, h.ph, h.tr, fun hm x y h1 h2 h3 h4 => by
    by_cases e : x = a ∧ y = b
    · obtain ⟨rfl, rfl⟩ := e
      exact hp hm h4
    · exact h.nd hm x y h1 h2 (by omega) h4⟩
theorem row (h : Ps n M leaf xor J p0 a (a + 1) mb E) : Ps n M leaf xor J p0 (a + 1) 0 mb E :=
  ⟨h.inv, h.lv, h.ph, h.tr, fun hm x y h1 h2 h3 h4 => h.nd hm x y h1 h2 (by omega) h4⟩
theorem clo (h : Ps n M leaf xor J p0 (M + 1) 0 false E) : Clo n M leaf xor J E :=
  ⟨h.lv, fun x y h1 h2 h4 => h.nd rfl x y h1 h2 (by omega) h4⟩
/-- a pair, whole -/
theorem pair (h : Ps n M leaf xor J p0 a b mb E) (hJ : Join J) (hodd : M % 2 = 1) (hpow : ∃ k, M + 1 = 2 ^ k) (hb : b ≤ a) (ha : a ≤ M) (hlt : J (cs E a) (cs E b) < BIG) {E1 E2 : Nat → Ent} {r1 r2 : Bool}
    (hr1 : r1 = decide (J (cs E a) (cs E b) < cs E (a &&& b))) (hE1 : E1 = if r1 = true then setE M E (a &&& b) ⟨J (cs E a) (cs E b), 3, a, b, false⟩ else E)
    (hr2 : r2 = (xor && decide (J (cs E a) (cs E b) < cs E1 (a ^^^ b)))) (hE2 : E2 = if r2 = true then setE M E1 (a ^^^ b) ⟨J (cs E a) (cs E b), 5, a, b, false⟩ else E1) :
    Ps n M leaf xor J p0 a (b + 1) (r2 || (r1 || mb)) E2 := by
  have c0 := (h.inv.hb a ha).1
  have c1 := (h.inv.hb b (by omega)).1
  have hBIG : BIG = 1048576 := rfl
  have ha2 : cs E a < BIG := by have := (hJ.pos _ _ c0 c1).1; omega
  have hb2 : cs E b < BIG := by have := (hJ.pos _ _ c0 c1).2; omega
  have hJ0 : 0 ≤ J (cs E a) (cs E b) := by have := (hJ.pos _ _ c0 c1).1; omega
  have da := h.inv.hd a ha ha2
  have db := h.inv.hd b (by omega) hb2
  have hand : a &&& b ≤ M := Nat.le_trans Nat.and_le_left ha
  have hxor : a ^^^ b ≤ M := by
    obtain ⟨k, hk⟩ := hpow
    have := Nat.xor_lt_two_pow (n := k) (x := a) (y := b) (by omega) (by omega)
    omega
  have s1 : Ps n M leaf xor J p0 a b (r1 || mb) E1 := by
    rw [hE1]
    exact h.set hJ hodd (e := ⟨J (cs E a) (cs E b), 3, a, b, false⟩) hand hJ0 rfl (.and ha (by omega) da db) (.inr ⟨a, b, hb, ha, rfl, rfl, Int.le_refl _, ha2, hb2, .inl ⟨rfl, rfl⟩⟩) hr1
  have hle : ∀ u, u ≤ M → cs E1 u ≤ cs E u := fun u hu => by
    rw [hE1, hr1]
    by_cases hc : J (cs E a) (cs E b) < cs E (a &&& b)
    · rw [decide_eq_true hc, if_pos rfl, cs_set]
      by_cases h1 : u = M - (a &&& b)
      · rw [if_pos (.inl h1), h1, h.inv.hs _ hand]; dsimp only; omega
      · by_cases h2 : u = a &&& b
        · rw [if_pos (.inr h2), h2]; dsimp only; omega
        · rw [if_neg (by simp [h1, h2])]; omega
    · rw [decide_eq_false hc, if_neg (by decide)]; omega
  have s2 : Ps n M leaf xor J p0 a b (r2 || (r1 || mb)) E2 := by
    by_cases hx : xor = true
    · rw [hE2]
      have q0 := (s1.inv.hb a ha).1
      have q1 := (s1.inv.hb b (by omega)).1
      have q2 := hle a ha
      have q3 := hle b (by omega)
      exact s1.set hJ hodd (e := ⟨J (cs E a) (cs E b), 5, a, b, false⟩) hxor hJ0 rfl (.xor hx ha (by omega) da db) (.inr ⟨a, b, hb, ha, rfl, rfl, hJ.mono _ _ _ _ q0 q1 q2 q3, by omega, by omega, .inr ⟨hx, rfl, rfl⟩⟩) (by rw [hr2, hx, Bool.true_and])
    · have hx' := eq_false_of_ne_true hx
      have : r2 = false := by rw [hr2, hx', Bool.false_and]
      rw [hE2, this, if_neg (by decide), Bool.false_or]
      exact s1
  refine s2.done hb fun hm hlt2 => ?_
  have e2 : r2 = false := by cases r2 <;> simp at hm ⊢
  have e1 : r1 = false := by cases r1 <;> simp [e2] at hm ⊢
  have hEE : E2 = E := by rw [hE2, e2, if_neg (by decide), hE1, e1, if_neg (by decide)]
  have hE1E : E1 = E := by rw [hE1, e1, if_neg (by decide)]
  rw [hEE]
  rw [e1] at hr1
  have h1 := of_decide_eq_false hr1.symm
  refine ⟨by omega, fun hx => ?_⟩
  rw [e2, hx, Bool.true_and, hE1E] at hr2
  have h2 := of_decide_eq_false hr2.symm
  omega
end Ps
end Go.Proofs.Ytpfbommaddaijaa
namespace Go.Proofs.Ytpfbommaddaijaa
open Go.RowKit Go.Maps
set_option linter.unusedVariables false
set_option linter.unusedSimpArgs false

theorem Try.info95 : (Try.prog.info? 95).map (fun i => (i.zero, i.size, i.bytes)) = some (some (.agg #[.int .i64 0, .int .i64 0, .int .i64 0, .int .i64 0, .bool false]), 5, 40) := by kernel_rfl
theorem make81 (M N : Nat) (hM : M + 1 = N) (hN : N ≤ 256) : ∃ Z : Array Value, Z.size = 5 * N ∧ (∀ i, i < 5 * N → Z[i]? = some (Es (fun _ => ⟨0, 0, 0, 0, false⟩) i)) ∧ ∀ W : World, (Instr.makeSlice 90 (.int .i64 ((M : Int) + 1)) (.int .i64 ((M : Int) + 1))).run Try.prog W = .ok (.slice (some ⟨W.heap.size, 0, none⟩) N N) (W.alloc (.cells Z 95)) := by
  obtain ⟨i0, hi, hz⟩ := Option.map_eq_some_iff.1 Try.info95
  simp only [Prod.mk.injEq] at hz
  obtain ⟨hz0, hz1, hz2⟩ := hz
  have hnn : ((M : Int) + 1).toNat = N := by omega
  refine ⟨madeCells (Value.agg #[.int .i64 0, .int .i64 0, .int .i64 0, .int .i64 0, .bool false]).cells (N * i0.size), by rw [size_madeCells, hz1]; omega, fun i hi => ?_, fun W => ?_⟩
  · rw [hz1]
    have hj : i % 5 = 0 ∨ i % 5 = 1 ∨ i % 5 = 2 ∨ i % 5 = 3 ∨ i % 5 = 4 := by omega
    have hlt : i < N * 5 := by omega
    have e : (madeCells (Value.agg #[.int .i64 0, .int .i64 0, .int .i64 0, .int .i64 0, .bool false]).cells (N * 5))[i]? = some ((#[Value.int .i64 0, .int .i64 0, .int .i64 0, .int .i64 0, .bool false])[i % 5]!) := by
      simp [madeCells, hlt, Value.cells]
    rw [e]
    unfold Es
    rcases hj with h | h | h | h | h <;> rw [h] <;> rfl
  · have h := run_makeSlice (P := Try.prog) W 90 95 i0 _ Try.underlying90 hi hz0 .i64 .i64 ((M : Int) + 1) ((M : Int) + 1) (by omega) (Int.le_refl _) (by rw [hz1]; omega) (by rw [hz2]; omega) (by omega)
    rw [hnn] at h
    exact h

theorem row_cost {W : World} {g N i : Nat} (h : W.rowIs g 95 (5 * N) (Es (E1 i))) : (W.setCell ⟨g, i * 5, none⟩ (I 1048576)).rowIs g 95 (5 * N) (Es (E1 (i + 1))) := by
  refine (h.set (i * 5) _).congr fun j hj => ?_
  by_cases e : j = i * 5
  · subst e
    rw [if_pos rfl]
    have := Es_cell (E1 (i + 1)) i 0 (by decide)
    show I 1048576 = Es (E1 (i + 1)) (i * 5 + 0)
    rw [this]
    simp [E1, Ent.cell]
  · rw [if_neg e]
    unfold Es E1 Ent.cell
    have hj5 : j % 5 = 0 ∨ j % 5 = 1 ∨ j % 5 = 2 ∨ j % 5 = 3 ∨ j % 5 = 4 := by omega
    rcases hj5 with h5 | h5 | h5 | h5 | h5 <;> rw [h5] <;> simp
    have : (j / 5 < i) ↔ (j / 5 < i + 1) := by omega
    simp [this]
/-- the entries in memory -/
structure Bm (w0 wr : World) (M N : Nat) (E : Nat → Ent) : Prop where
  row : wr.rowIs (w0.heap.size + 1) 95 (5 * N) (Es E)
  cm : wr.cell? ⟨w0.heap.size, 0, none⟩ = some (I M)
  cz : wr.cell? ⟨w0.heap.size + 1 + 1, 0, none⟩ = some (.slice (some ⟨w0.heap.size + 1, 0, none⟩) N N)
  bel : Below w0.heap.size w0 wr
  sz : w0.heap.size + 3 ≤ wr.heap.size
theorem Bm.on {w0 wr w' : World} {M N : Nat} {E E' : Nat → Ent} (h : Bm w0 wr M N E) (hg : wr.grownBy w' (some (w0.heap.size + 1))) (hrow : w'.rowIs (w0.heap.size + 1) 95 (5 * N) (Es E')) : Bm w0 w' M N E' where
  row := hrow
  cm := (World.cell?_of_block (hg.block w0.heap.size (by have := h.sz; omega) (by simp))).trans h.cm
  cz := (World.cell?_of_block (hg.block (w0.heap.size + 1 + 1) (by have := h.sz; omega) (by simp))).trans h.cz
  bel := h.bel.grown hg h.bel.size (fun j hj => by cases hj; omega)
  sz := Nat.le_trans h.sz hg.size
theorem Bm.keep {w0 wr w' : World} {M N : Nat} {E : Nat → Ent} (h : Bm w0 wr M N E) (hb : Below wr.heap.size wr w') : Bm w0 w' M N E where
  row := h.row.of_block (hb.block _ h.row.lt)
  cm := (hb.cell (World.block_lt_of_cell? _ _ h.cm)).trans h.cm
  cz := (hb.cell (World.block_lt_of_cell? _ _ h.cz)).trans h.cz
  bel := h.bel.trans (hb.mono h.bel.size)
  sz := Nat.le_trans h.sz hb.size
theorem Bm.far {w0 wr w' : World} {M N r : Nat} {E : Nat → Ent} (h : Bm w0 wr M N E) (hg : wr.grownBy w' (some r)) (hr : w0.heap.size + 3 ≤ r) : Bm w0 w' M N E where
  row := h.row.of_block (hg.block _ h.row.lt (by simp; omega))
  cm := (World.cell?_of_block (hg.block w0.heap.size (by have := h.sz; omega) (by simp; omega))).trans h.cm
  cz := (World.cell?_of_block (hg.block (w0.heap.size + 1 + 1) (by have := h.sz; omega) (by simp; omega))).trans h.cz
  bel := h.bel.grown hg h.bel.size (fun j hj => by cases hj; omega)
  sz := Nat.le_trans h.sz hg.size
theorem Bm.drew {w0 wr : World} {M N : Nat} {E : Nat → Ent} (h : Bm w0 wr M N E) (m : Nat) : Bm w0 (wr.drewN m) M N E := ⟨h.row, h.cm, h.cz, below_drewN h.bel m, h.sz⟩
theorem Bm.cost {w0 wr : World} {M N : Nat} {E : Nat → Ent} (h : Bm w0 wr M N E) {f : Nat} (hf : f < N) : wr.cell? ⟨w0.heap.size + 1, f * 5, none⟩ = some (I (cs E f)) := by
  rw [h.row.cell (i := f * 5) (by omega)]
  exact congrArg some (Es_cell E f 0 (by decide))
/-- what the closure does -/
theorem set_bm {w0 wr : World} {M N f : Nat} {E : Nat → Ent} (h : Bm w0 wr M N E) (hf : f < N) (hN : N ≤ 256) (hM : M + 1 = N) (hand : bits BinOp.andNot IntKind.i64 (M : Int) (f : Int) = ((M - f : Nat) : Int)) (c k a b : Int) (nt : Bool) {r : Bool} (hr : r = decide (c < cs E f)) :
    Calls Try.prog 144 #[I f, .agg #[I c, I k, I a, I b, .bool nt], .pointer (some ⟨w0.heap.size + 1 + 1, 0, none⟩), .pointer (some ⟨w0.heap.size, 0, none⟩)] wr fun e w' => e = .returned (.bool r) ∧ Bm w0 w' M N (if r = true then setE M E f ⟨c, k, a, b, nt⟩ else E) ∧ wr.grownBy w' (some (w0.heap.size + 1)) := by
  subst hr
  by_cases hc : c < cs E f
  · rw [decide_eq_true hc, if_pos rfl]
    refine (set_yes (e := ⟨c, k, a, b, nt⟩) h.row h.cz h.cm (by omega) (by omega) hf hN hM hand hc).mono ?_
    rintro e w' ⟨rfl, h1, h2⟩
    exact ⟨rfl, h.on h2 h1, h2⟩
  · rw [decide_eq_false hc, if_neg (by decide)]
    refine (set_no (e := ⟨c, k, a, b, nt⟩) h.row h.cz h.cm hf hN (by unfold cs at hc; simp only; omega)).mono ?_
    rintro e w' ⟨rfl, h1⟩
    exact ⟨rfl, h.keep h1, h1.os, h1.tape, h1.output, h1.size, fun i hi _ => h1.block i hi⟩
theorem bm_start (w : World) {M N : Nat} {Z : Array Value} (hZ1 : Z.size = 5 * N) (hZ2 : ∀ i, i < 5 * N → Z[i]? = some (Es (fun _ => ⟨0, 0, 0, 0, false⟩) i)) : Bm w (((w.alloc (.cells #[I M] 3)).alloc (.cells Z 95)).alloc (.cells #[.slice (some ⟨w.heap.size + 1, 0, none⟩) N N] 90)) M N (E1 0) where
  row := by
    have h := World.rowIs_alloc (w.alloc (.cells #[I M] 3)) Z 95 (Es (E1 0)) (fun i hi => hZ2 i (by omega))
    rw [World.size_alloc, hZ1] at h
    exact h.alloc _
  cm := cell_alloc (cell_alloc (by simp [go_sem]) _) _
  cz := by
    have h : ((w.alloc (.cells #[I M] 3)).alloc (.cells Z 95)).heap.size = w.heap.size + 1 + 1 := by simp [World.size_alloc]
    rw [← h]
    simp [go_sem]
  bel := (((Below.refl _ _).alloc (Nat.le_refl _) _).alloc (by simp [World.size_alloc]) _).alloc (by simp [World.size_alloc]; omega) _
  sz := by simp [World.size_alloc]
theorem and_i64 (a b : Nat) (ha : a < 256) (hb : b < 256) : bits .and .i64 (a : Int) (b : Int) = ((a &&& b : Nat) : Int) := by
  have hx : a &&& b < 2 ^ 8 := Nat.and_lt_two_pow _ (by omega)
  have h1 : (BitVec.ofInt 64 (a : Int)).toNat = a := by
    rw [BitVec.ofInt_natCast, BitVec.toNat_ofNat]; exact Nat.mod_eq_of_lt (by omega)
  have h2 : (BitVec.ofInt 64 (b : Int)).toNat = b := by
    rw [BitVec.ofInt_natCast, BitVec.toNat_ofNat]; exact Nat.mod_eq_of_lt (by omega)
  show IntKind.i64.wrap ((BitVec.ofInt 64 (a : Int) &&& BitVec.ofInt 64 (b : Int)).toNat : Int) = _
  rw [BitVec.toNat_and, h1, h2, IntKind.wrap_i64]
  omega
theorem xor_i64 (a b : Nat) (ha : a < 256) (hb : b < 256) : bits .xor .i64 (a : Int) (b : Int) = ((a ^^^ b : Nat) : Int) := by
  have hx : a ^^^ b < 2 ^ 8 := Nat.xor_lt_two_pow (by omega) (by omega)
  have h1 : (BitVec.ofInt 64 (a : Int)).toNat = a := by
    rw [BitVec.ofInt_natCast, BitVec.toNat_ofNat]; exact Nat.mod_eq_of_lt (by omega)
  have h2 : (BitVec.ofInt 64 (b : Int)).toNat = b := by
    rw [BitVec.ofInt_natCast, BitVec.toNat_ofNat]; exact Nat.mod_eq_of_lt (by omega)
  show IntKind.i64.wrap ((BitVec.ofInt 64 (a : Int) ^^^ BitVec.ofInt 64 (b : Int)).toNat : Int) = _
  rw [BitVec.toNat_xor, h1, h2, IntKind.wrap_i64]
  omega
/-- what best answers -/
def BestR (w : World) (n M N : Nat) (leaf : Int) (xor : Bool) (J : Int → Int → Int) (e : Ending) (w' : World) : Prop :=
  ∃ E g, e = .returned (.slice (some ⟨g, 0, none⟩) N N) ∧ w'.rowIs g 95 (5 * N) (Es E) ∧ Inv n M leaf xor J E ∧ Clo n M leaf xor J E ∧ Below w.heap.size w w'
theorem and_not (M f : Nat) (h : M = 1 ∨ M = 3 ∨ M = 15 ∨ M = 255) (hf : f ≤ M) : bits BinOp.andNot IntKind.i64 (M : Int) (f : Int) = ((M - f : Nat) : Int) := by
  have h1 : ∀ f : Fin 2, bits BinOp.andNot IntKind.i64 ((1 : Nat) : Int) (f.val : Int) = ((1 - f.val : Nat) : Int) := by decide +kernel
  have h3 : ∀ f : Fin 4, bits BinOp.andNot IntKind.i64 ((3 : Nat) : Int) (f.val : Int) = ((3 - f.val : Nat) : Int) := by decide +kernel
  have h15 : ∀ f : Fin 16, bits BinOp.andNot IntKind.i64 ((15 : Nat) : Int) (f.val : Int) = ((15 - f.val : Nat) : Int) := by decide +kernel
  have h255 : ∀ f : Fin 256, bits BinOp.andNot IntKind.i64 ((255 : Nat) : Int) (f.val : Int) = ((255 - f.val : Nat) : Int) := by decide +kernel
  rcases h with rfl | rfl | rfl | rfl
  · exact h1 ⟨f, by omega⟩
  · exact h3 ⟨f, by omega⟩
  · exact h15 ⟨f, by omega⟩
  · exact h255 ⟨f, by omega⟩
end Go.Proofs.Ytpfbommaddaijaa
namespace Go.Proofs.Ytpfbommaddaijaa
open Go.RowKit
set_option linter.unusedVariables false
set_option linter.unusedSimpArgs false

theorem join55 (w : World) (a b : Int) (ha : 0 ≤ a) (hb : 0 ≤ b) (ha2 : a ≤ BIG) (hb2 : b ≤ BIG) : Calls Try.prog 77 #[I a, I b] w fun e w' => e = .returned (I ((fun a b => a + b) a b)) ∧ w = w' := by
  have hB : BIG = 1048576 := rfl
  rw [hB] at ha2 hb2
  go_enter Try.func77, Try.ntmps77
  go_wp2
  go_ret
  exact ⟨rfl, rfl⟩
theorem join50 (w : World) (a b : Int) (ha : 0 ≤ a) (hb : 0 ≤ b) (ha2 : a ≤ BIG) (hb2 : b ≤ BIG) : Calls Try.prog 72 #[I a, I b] w fun e w' => e = .returned (I ((fun a b => 1 + max a b) a b)) ∧ w = w' := by
  have hB : BIG = 1048576 := rfl
  rw [hB] at ha2 hb2
  by_cases h : a < b
  · have hm : max a b = b := by omega
    simp only [hm]
    have hd : decide (a < b) = true := decide_eq_true h
    go_enter Try.func72, Try.ntmps72
    go_wp2
    go_ret
    exact ⟨rfl, rfl⟩
  · have hm : max a b = a := by omega
    simp only [hm]
    have hd : decide (a < b) = false := decide_eq_false h
    go_enter Try.func72, Try.ntmps72
    go_wp2
    go_ret
    exact ⟨rfl, rfl⟩
/-- a list of bools in memory -/
structure Bs (w : World) (v : Value) (n : Nat) (f : Nat → Bool) : Prop where
  ex : ∃ (a : Option Addr) (cap : Nat), v = .slice a n cap ∧ n ≤ cap ∧ cap ≤ maxLen ∧ (0 < n → ∃ b, a = some b) ∧ ∀ b, a = some b → ∀ i, i < n → w.cell? (b.add i) = some (.bool (f i))
theorem Bs.shape {w : World} {v : Value} {n : Nat} {f : Nat → Bool} (h : Bs w v n f) : ∃ a c, v = .slice a n c := by
  obtain ⟨a, c, h1, _⟩ := h.ex
  exact ⟨a, c, h1⟩
theorem Bs.at' {w : World} {a : Option Addr} {n k c : Nat} {f : Nat → Bool} (h : Bs w (.slice a k c) n f) {i : Nat} (hi : i < n) : ∃ b, a = some b ∧ w.cell? (b.add i) = some (.bool (f i)) := by
  obtain ⟨a', c', h1, h2, h3, h4, h5⟩ := h.ex
  cases h1
  obtain ⟨b, rfl⟩ := h4 (by omega)
  exact ⟨b, rfl, h5 b rfl i hi⟩
theorem Bs.keep {w w' : World} {v : Value} {n : Nat} {f : Nat → Bool} (h : Bs w v n f) (hb : Below w.heap.size w w') : Bs w' v n f := by
  obtain ⟨a, c, h1, h2, h3, h4, h5⟩ := h.ex
  exact ⟨a, c, h1, h2, h3, h4, fun b hb' i hi => by have := h5 b hb' i hi; exact (hb.cell (World.block_lt_of_cell? _ _ this)).trans this⟩
/-- the number of a table -/
def tn (f : Nat → Bool) : Nat → Nat
  | 0 => 0
  | i + 1 => tn f i ||| (if f i = true then 2 ^ i else 0)
theorem tn_lt (f : Nat → Bool) : ∀ i, tn f i < 2 ^ i
  | 0 => by simp [tn]
  | i + 1 => by
    have := tn_lt f i
    have hp : 2 ^ (i + 1) = 2 ^ i * 2 := Nat.pow_succ ..
    simp only [tn]
    split
    · exact Nat.or_lt_two_pow (by omega) (by omega)
    · simp; omega
theorem or_bit : ∀ (j : Fin 8) (x : Fin 256), bits BinOp.or .i64 (x.val : Int) (wrap64 (2 ^ j.val)) = ((x.val ||| 2 ^ j.val : Nat) : Int) := by decide +kernel
set_option maxHeartbeats 2000000 in
theorem function_any {w : World} {v : Value} {n : Nat} {f : Nat → Bool} (h : Bs w v n f) (hn : n ≤ 8) : Calls Try.prog 73 #[v] w fun e w' => e = .returned (I (tn f n)) ∧ w = w' := by
  obtain ⟨a, c, rfl⟩ := h.shape
  have HB := Lib.hid h
  clear h
  go_enter Try.func73, Try.ntmps73
  go_wp2
  go_loop [3, 4, 5, 8] (fun x _ _ y => ∃ i : Nat, i ≤ n ∧ x = I (tn f i) ∧ y = I i) (fun _ _ _ y => n - (intOf y).toNat)
  case atStart => exact ⟨0, by omega, rfl, rfl⟩
  case round =>
    obtain ⟨i, hi, rfl, rfl⟩ := hrel
    by_cases hin : i < n
    · obtain ⟨b, rfl, cb⟩ := HB.out.at' hin
      have hlt := tn_lt f i
      have h256 : tn f i < 256 := by
        have : 2 ^ i ≤ 2 ^ 8 := Nat.pow_le_pow_right (by decide) (by omega)
        omega
      have hor := or_bit ⟨i, by omega⟩ ⟨tn f i, h256⟩
      simp only at hor
      have hst : Hid (tn f (i + 1) = tn f i ||| (if f i = true then 2 ^ i else 0)) := Lib.hid rfl
      generalize hL : (tn f i ||| 2 ^ i) = L1 at hor
      have HL := Lib.hid hL
      clear hL hlt h256
      have hi0 : (0 : Int) ≤ i := by omega
      generalize tn f i = L0 at *
      cases hfi : f i with
      | true =>
        rw [hfi] at cb
        have HF := Lib.hid hfi
        clear hfi
        go_wp2
        go_round
        case rel => exact ⟨i + 1, by omega, by rw [hst.out, if_pos HF.out, HL.out], by go_num⟩
        case measure => simp [intOf]; omega
      | false =>
        rw [hfi] at cb
        have HF := Lib.hid hfi
        clear hfi
        go_wp2
        go_round
        case rel => exact ⟨i + 1, by omega, by rw [hst.out, HF.out]; simp, by go_num⟩
        case measure => simp [intOf]; omega
    · obtain rfl : i = n := by omega
      go_wp2
      go_ret
      exact ⟨rfl, rfl⟩
end Go.Proofs.Ytpfbommaddaijaa
namespace Go.Proofs.Ytpfbommaddaijaa
open Go.RowKit
set_option linter.unusedVariables false
set_option linter.unusedSimpArgs false

/-- how many bits -/
def bl : Nat → Nat → Nat
  | 0, _ => 0
  | k + 1, x => if x = 0 then 0 else bl k (x / 2) + 1
theorem wr_small (n : Nat) (h : n ≤ 100) : wrap64 (n : Int) = n := by
  have : ∀ c : Fin 101, wrap64 ((c.val : Nat) : Int) = c.val := by decide +kernel
  exact this ⟨n, by omega⟩
theorem bl_le : ∀ k x, bl k x ≤ k
  | 0, x => Nat.le_refl _
  | k + 1, x => by
    have := bl_le k (x / 2)
    simp only [bl]
    split <;> omega
theorem tab_at (T : ByteArray) (x : Nat) (hx : x < T.size) (hT : (List.range 256).all (fun i => (T.data.getD i 0).toNat == bl 13 i) = true) (h : x < 256) : (T[x]'hx).toNat = bl 13 x := by
  have h1 := List.all_eq_true.1 hT x (List.mem_range.2 h)
  have h2 : (T.data.getD x 0).toNat = bl 13 x := by simpa using h1
  rw [← h2]
  have : T.data.getD x 0 = T[x]'hx := by
    have hx2 : x < T.data.size := hx
    simp only [Array.getD]
    rw [dif_pos hx2]
    rfl
  rw [this]
theorem tab_lo (T : ByteArray) (x : Nat) (hx : x < T.size) (hT : (List.range 256).all (fun i => (T.data.getD i 0).toNat == bl 13 i) = true) (h : x < 256) : wrap64 (wrap64 ((T[x]'hx).toNat : Int)) = (bl 13 x : Int) := by
  rw [tab_at T x hx hT h, wr_small _ (by have := bl_le 13 x; omega), wr_small _ (by have := bl_le 13 x; omega)]
theorem bl_half {k x : Nat} (h : x ≠ 0) : bl (k + 1) x = bl k (x / 2) + 1 := by rw [bl, if_neg h]
theorem bl_hi {x : Nat} (h : 256 ≤ x) (h2 : x < 8192) : bl 13 x = bl 13 (x / 256) + 8 := by
  have hs : ∀ y : Fin 32, bl 5 y.val = bl 13 y.val := by decide
  rw [← hs ⟨x / 256, by omega⟩]
  rw [bl_half (by omega), bl_half (by omega), bl_half (by omega), bl_half (by omega), bl_half (by omega), bl_half (by omega), bl_half (by omega), bl_half (by omega)]
  have e : x / 2 / 2 / 2 / 2 / 2 / 2 / 2 / 2 = x / 256 := by omega
  rw [e]
theorem tab_hi (T : ByteArray) (x : Nat) (hx : x / 256 < T.size) (hT : (List.range 256).all (fun i => (T.data.getD i 0).toNat == bl 13 i) = true) (h : 256 ≤ x) (h2 : x < 8192) : wrap64 (8 + wrap64 ((T[x / 256]'hx).toNat : Int)) = (bl 13 x : Int) := by
  have h3 := bl_le 13 (x / 256)
  rw [tab_at T _ hx hT (by omega), wr_small _ (by omega), bl_hi h h2]
  have e : (8 : Int) + (bl 13 (x / 256) : Int) = ((bl 13 (x / 256) + 8 : Nat) : Int) := by omega
  rw [e, wr_small _ (by omega)]
set_option maxHeartbeats 4000000 in
set_option maxRecDepth 100000 in
theorem len64 {w : World} (x : Nat) (hx : x < 8192) : Calls Try.prog 124 #[U x] w fun e w' => e = .returned (I (bl 13 x)) ∧ w = w' := by
  have d1 : decide ((4294967296 : Int) ≤ x) = false := decide_eq_false (by omega)
  have d2 : decide ((65536 : Int) ≤ x) = false := decide_eq_false (by omega)
  by_cases h : 256 ≤ x
  · have d3 : decide ((256 : Int) ≤ x) = true := decide_eq_true (by omega)
    go_enter Try.func124, Try.ntmps124
    go_wp2
    go_ret
    exact ⟨ri (tab_hi _ _ _ (by kernel_rfl) h hx), rfl⟩
  · have d3 : decide ((256 : Int) ≤ x) = false := decide_eq_false (by omega)
    go_enter Try.func124, Try.ntmps124
    go_wp2
    go_ret
    exact ⟨ri (tab_lo _ _ _ (by kernel_rfl) (by omega)), rfl⟩
set_option maxHeartbeats 2000000 in
theorem len_any {w : World} (x : Nat) (hx : x < 8192) : Calls Try.prog 86 #[U x] w fun e w' => e = .returned (I (bl 13 x)) ∧ w = w' := by
  have H := Lib.hid (fun w : World => len64 (w := w) x hx)
  go_enter Try.func86, Try.ntmps86
  go_wp2_with (go_at_call 124; refine (H.out _).mono ?_; rintro e w' ⟨rfl, rfl⟩)
  go_ret
  exact ⟨rfl, rfl⟩
theorem w2i (p : Nat) (h : p < 15) : wrap64 ((2 : Int) ^ p) = ((2 ^ p : Nat) : Int) := by
  have : ∀ c : Fin 15, wrap64 ((2 : Int) ^ c.val) = ((2 ^ c.val : Nat) : Int) := by decide +kernel
  exact this ⟨p, h⟩
/-- the table has k inputs -/
def Inp (len : Nat) (n : Int) (ok : Bool) : Prop := n = (bl 13 len : Int) - 1 ∧ (ok = true ↔ 0 ≤ n ∧ len = 2 ^ n.toNat)
set_option maxHeartbeats 4000000 in
theorem inputs_any {w : World} {a : Option Addr} {len cap : Nat} (hl : len < 8192) {n : Int} {ok : Bool} (h : Inp len n ok) : Calls Try.prog 84 #[.slice a len cap] w fun e w' => e = .returned (.tuple #[I n, .bool ok]) ∧ ∃ m, w' = w.drewN m := by
  obtain ⟨rfl, hok⟩ := h
  have H := Lib.hid (fun w : World => len_any (w := w) len hl)
  have hle := bl_le 13 len
  obtain ⟨b, hb⟩ : ∃ b, b = bl 13 len := ⟨_, rfl⟩
  rw [← hb] at H hok hle ⊢
  have hbp : len = 0 ↔ b = 0 := by
    rw [hb]
    constructor
    · intro h; rw [h]; rfl
    · intro h
      by_cases e : len = 0
      · exact e
      · rw [bl_half e] at h; omega
  clear hb
  by_cases h0 : b = 0
  · have hd : decide ((0 : Int) ≤ (b : Int) - 1) = false := decide_eq_false (by omega)
    have hokf : ok = false := by
      cases ok with
      | false => rfl
      | true => have := (hok.1 rfl).1; omega
    subst hokf
    clear hok hbp
    subst h0
    have e1 : ((0 : Nat) : Int) - 1 = -1 := rfl
    rw [e1] at hd ⊢
    have H' : Hid (∀ (w : World), Calls Try.prog 86 #[U len] w fun e w' => e = .returned (I 0) ∧ w = w') := H
    clear H
    go_enter Try.func84, Try.ntmps84
    go_upto_region 2 with (go_at_call 86; refine (H'.out _).mono ?_; rintro e w' ⟨rfl, rfl⟩)
    go_quiet (fail)
    go_wp2
    go_ret2
    exact ⟨rfl, _, rfl⟩
  · obtain ⟨m, rfl⟩ : ∃ m, b = m + 1 := ⟨b - 1, by omega⟩
    have hbm : ((m + 1 : Nat) : Int) - 1 = (m : Int) := by omega
    rw [hbm] at hok ⊢
    have hw := w2i m (by omega)
    have hm0 : (0 : Int) ≤ m := by omega
    have hd : decide ((0 : Int) ≤ (m : Int)) = true := decide_eq_true (by omega)
    have hd2 : decide ((m : Int) ≤ 12) = true := decide_eq_true (by omega)
    have hok2 : ok = ((len : Int) == ((2 ^ m : Nat) : Int)) := by
      rw [Bool.eq_iff_iff, hok, beq_iff_eq]
      simp only [Int.toNat_natCast]
      omega
    clear hok hbp
    generalize 2 ^ m = N at *
    subst hok2
    have H' : Hid (∀ (w : World), Calls Try.prog 86 #[U len] w fun e w' => e = .returned (I ((m : Int) + 1)) ∧ w = w') := H
    clear H
    go_enter Try.func84, Try.ntmps84
    go_upto_region 2 with (go_at_call 86; refine (H'.out _).mono ?_; rintro e w' ⟨rfl, rfl⟩)
    go_quiet (fail)
    go_wp2
    go_ret2
    exact ⟨rfl, _, rfl⟩
end Go.Proofs.Ytpfbommaddaijaa

