/- Words; the closure of best: sets an entry and its negation if the cost is less. -/
import Derived.Test.YtpmjpkpaclmpbaaRows
import Derived.WalkKit
import Derived.WalkSpells
import Derived.WalkLawsBesides
import Derived.IntWalk
import Derived.Lib.Hide
import Derived.Deep.QuietTactic
import Derived.BigQuiet
import Derived.Deep.LoopGhost
import Derived.Deep.OwnRows
import Derived.Deep.Cut
import Derived.Deep.CutRange
import Derived.Deep.CutBlock
import Derived.Laws.EntriesVeiled
namespace Go.Proofs.Ytpmjpkpaclmpbaa
open Go.RowKit
set_option linter.unusedVariables false
set_option linter.unusedSimpArgs false

def Fn (f : FuncId) (args : Array Value) (v : Value) : Prop := ∀ w : World, Calls Try.prog f args w fun e w' => e = .returned v ∧ Below w.heap.size w w'
def Fs (f : FuncId) (args : Array Value) (v : Value) : Prop := ∀ w : World, Calls Try.prog f args w fun e w' => e = .returned v ∧ w = w'
theorem rb {a b : Bool} (h : a = b) : Ending.returned (.bool a) = .returned (.bool b) := by rw [h]
theorem ri {k : IntKind} {a b : Int} (h : a = b) : Ending.returned (.int k a) = .returned (.int k b) := by rw [h]
abbrev I (n : Int) : Value := .int .i64 n
abbrev U (n : Int) : Value := .int .u64 n

/-- an entry -/
structure Ent where
  c : Int
  k : Int
  a : Int
  b : Int
  nt : Bool
def Ent.cell (e : Ent) : Nat → Value
  | 0 => I e.c
  | 1 => I e.k
  | 2 => I e.a
  | 3 => I e.b
  | _ => .bool e.nt
def Ent.val (e : Ent) : Value := .agg #[I e.c, I e.k, I e.a, I e.b, .bool e.nt]
def Es (E : Nat → Ent) (i : Nat) : Value := (E (i / 5)).cell (i % 5)
def updE (E : Nat → Ent) (f : Nat) (e : Ent) : Nat → Ent := fun u => if u = f then e else E u
/-- what the closure does to the entries -/
def setE (M : Nat) (E : Nat → Ent) (f : Nat) (e : Ent) : Nat → Ent := updE (updE E f e) (M - f) { e with nt := !e.nt }

theorem cell_alloc {w : World} {a : Addr} {v : Value} (h : w.cell? a = some v) (o : Obj) : (w.alloc o).cell? a = some v := by
  rw [← h]; exact World.cell?_of_block (Deep.blk_alloc_lt _ _ _ (World.block_lt_of_cell? _ _ h))
theorem below_drewN {B : Nat} {w w' : World} (h : Below B w w') (m : Nat) : Below B w (w'.drewN m) := by
  refine ⟨h.os, h.tape, h.output, h.size, h.block⟩
theorem Es_cell (E : Nat → Ent) (f : Nat) : ∀ j, j < 5 → Es E (f * 5 + j) = (E f).cell j := by
  intro j hj
  unfold Es
  rw [show (f * 5 + j) / 5 = f by omega, show (f * 5 + j) % 5 = j by omega]
set_option maxHeartbeats 2000000 in
theorem set_no {w : World} {g gs gm N M f : Nat} {E : Nat → Ent} {e : Ent} (hrow : w.rowIs g 81 (5 * N) (Es E)) (hs : w.cell? ⟨gs, 0, none⟩ = some (.slice (some ⟨g, 0, none⟩) N N)) (hm : w.cell? ⟨gm, 0, none⟩ = some (I M)) (hf : f < N) (hN : N ≤ 256) (hc : (E f).c ≤ e.c) :
    Calls Try.prog 73 #[I f, .agg #[I e.c, I e.k, I e.a, I e.b, .bool e.nt], .pointer (some ⟨gs, 0, none⟩), .pointer (some ⟨gm, 0, none⟩)] w fun r w' => r = .returned (.bool false) ∧ Below w.heap.size w w' := by
  obtain ⟨ec, ek, ea, eb, en⟩ := e
  have hE : w.cell? ⟨g, f * 5, none⟩ = some (I (E f).c) := by
    have := hrow.cell (i := f * 5) (by omega)
    rw [this]
    exact congrArg some (Es_cell E f 0 (by decide))
  have hs' := cell_alloc hs (.cells #[I ec, I ek, I ea, I eb, .bool en] 81)
  have hE' := cell_alloc hE (.cells #[I ec, I ek, I ea, I eb, .bool en] 81)
  have hB : Hid (Below w.heap.size w (w.alloc (.cells #[I ec, I ek, I ea, I eb, .bool en] 81))) := Lib.hid ((Below.refl _ _).alloc (Nat.le_refl _) _)
  generalize (E f).c = c0 at *
  have hd : decide (c0 ≤ ec) = true := decide_eq_true hc
  have h0 : (0 : Int) ≤ f := by omega
  have h1 : (f : Int) < N := by omega
  clear hrow hm hE hs
  go_enter Try.func73, Try.ntmps73
  go_wp2_with fail
  go_quiet (fail)
  go_wp2
  go_ret
  exact ⟨rfl, below_drewN hB.out _⟩
/-- an entry stored -/
def put5 (W : World) (g f : Nat) (ec ek ea eb : Int) (en : Bool) : World :=
  ((((W.setCell ⟨g, f * 5, none⟩ (.int .i64 ec)).setCell ⟨g, f * 5 + 1, none⟩ (.int .i64 ek)).setCell ⟨g, f * 5 + 2, none⟩ (.int .i64 ea)).setCell ⟨g, f * 5 + 3, none⟩ (.int .i64 eb)).setCell ⟨g, f * 5 + 4, none⟩ (.bool en)
theorem put5_row {W : World} {g N f : Nat} {E : Nat → Ent} (h : W.rowIs g 81 (5 * N) (Es E)) (ec ek ea eb : Int) (en : Bool) : (put5 W g f ec ek ea eb en).rowIs g 81 (5 * N) (Es (updE E f ⟨ec, ek, ea, eb, en⟩)) := by
  refine (((((h.set (f * 5) (.int .i64 ec)).set (f * 5 + 1) (.int .i64 ek)).set (f * 5 + 2) (.int .i64 ea)).set (f * 5 + 3) (.int .i64 eb)).set (f * 5 + 4) (.bool en)).congr fun i hi => ?_
  by_cases e : i / 5 = f
  · obtain ⟨j, hj, rfl⟩ : ∃ j, j < 5 ∧ i = f * 5 + j := ⟨i % 5, by omega, by omega⟩
    simp only [Es_cell _ _ _ hj]
    have hu : updE E f ⟨ec, ek, ea, eb, en⟩ f = ⟨ec, ek, ea, eb, en⟩ := by simp [updE]
    rw [hu]
    have : j = 0 ∨ j = 1 ∨ j = 2 ∨ j = 3 ∨ j = 4 := by omega
    rcases this with rfl | rfl | rfl | rfl | rfl <;> simp [Ent.cell]
  · rw [if_neg (by omega), if_neg (by omega), if_neg (by omega), if_neg (by omega), if_neg (by omega)]
    unfold Es updE
    rw [if_neg e]
theorem one_other {W : World} {g b : Nat} (hb : b ≠ g) (i : Nat) (v : Value) : (W.setCell ⟨g, i, none⟩ v).heap[b]? = W.heap[b]? := Deep.blk_setCell_other _ _ _ _ hb
theorem put5_other {W : World} {g f b : Nat} (ec ek ea eb : Int) (en : Bool) (hb : b ≠ g) : (put5 W g f ec ek ea eb en).heap[b]? = W.heap[b]? :=
  ((((one_other hb _ _).trans (one_other hb _ _)).trans (one_other hb _ _)).trans (one_other hb _ _)).trans (one_other hb _ _)
theorem grown_set {w W : World} {g b : Nat} (h : w.grownBy W (some g)) (hb : b = g ∨ w.heap.size ≤ b) (i : Nat) (v : Value) : w.grownBy (W.setCell ⟨b, i, none⟩ v) (some g) where
  os := h.os
  tape := h.tape
  output := h.output
  size := by rw [World.size_setCell]; exact h.size
  block k hk hne := by
    rw [one_other (by rcases hb with hb | hb <;> (intro e; first | (apply hne; rw [e, hb]) | omega))]
    exact h.block k hk hne
theorem put5_grown {w W : World} {g f : Nat} (h : w.grownBy W (some g)) (ec ek ea eb : Int) (en : Bool) : w.grownBy (put5 W g f ec ek ea eb en) (some g) := by
  unfold put5
  exact grown_set (grown_set (grown_set (grown_set (grown_set h (.inl rfl) _ _) (.inl rfl) _ _) (.inl rfl) _ _) (.inl rfl) _ _) (.inl rfl) _ _
set_option maxHeartbeats 4000000 in
theorem set_yes {w : World} {g gs gm N M f : Nat} {E : Nat → Ent} {e : Ent} (hrow : w.rowIs g 81 (5 * N) (Es E)) (hs : w.cell? ⟨gs, 0, none⟩ = some (.slice (some ⟨g, 0, none⟩) N N)) (hm : w.cell? ⟨gm, 0, none⟩ = some (I M)) (hgs : gs ≠ g) (hgm : gm ≠ g) (hf : f < N) (hN : N ≤ 256) (hM : M + 1 = N) (hand : bits BinOp.andNot IntKind.i64 (M : Int) (f : Int) = ((M - f : Nat) : Int)) (hc : e.c < (E f).c) :
    Calls Try.prog 73 #[I f, .agg #[I e.c, I e.k, I e.a, I e.b, .bool e.nt], .pointer (some ⟨gs, 0, none⟩), .pointer (some ⟨gm, 0, none⟩)] w fun r w' => r = .returned (.bool true) ∧ w'.rowIs g 81 (5 * N) (Es (setE M E f e)) ∧ w.grownBy w' (some g) := by
  have hE : w.cell? ⟨g, f * 5, none⟩ = some (I (E f).c) := by
    have := hrow.cell (i := f * 5) (by omega)
    rw [this]
    exact congrArg some (Es_cell E f 0 (by decide))
  have hs' := cell_alloc hs (.cells e.val.cells 81)
  have hE' := cell_alloc hE (.cells e.val.cells 81)
  have HR := Lib.hid (hrow.alloc (.cells e.val.cells 81))
  have HBX := Lib.hid (World.rowIs_alloc w e.val.cells 81 e.cell (fun i hi => by
    have : i = 0 ∨ i = 1 ∨ i = 2 ∨ i = 3 ∨ i = 4 := by simp [Ent.val, Value.cells] at hi; omega
    rcases this with rfl | rfl | rfl | rfl | rfl <;> rfl))
  have HM := Lib.hid (cell_alloc hm (.cells e.val.cells 81))
  have HS := Lib.hid hs'
  have hB : Hid (w.grownBy (w.alloc (.cells e.val.cells 81)) (some g)) := Lib.hid (World.grownBy_alloc _ _ _)
  have hgB : g < w.heap.size := hrow.lt
  have hgsB : gs ≠ w.heap.size := Nat.ne_of_lt (World.block_lt_of_cell? _ _ hs)
  have hgmB : gm ≠ w.heap.size := Nat.ne_of_lt (World.block_lt_of_cell? _ _ hm)
  simp only [Ent.val, Value.cells] at *
  obtain ⟨ec, ek, ea, eb, en⟩ := e
  simp only at *
  have hd : decide ((E f).c ≤ ec) = false := decide_eq_false (by omega)
  generalize (E f).c = c0 at *
  have h0 : (0 : Int) ≤ f := by omega
  have h1 : (f : Int) < N := by omega
  clear hrow hm hE hs hc
  go_enter Try.func73, Try.ntmps73
  go_wp2_with fail
  go_quiet (fail)
  go_upto_region 3 with fail
  have HR1 : Hid (((w.alloc (.cells #[I ec, I ek, I ea, I eb, .bool en] 81)).drewN nq).rowIs g 81 (5 * N) (Es E)) := Lib.hid HR.out
  have HX1 : Hid (((w.alloc (.cells #[I ec, I ek, I ea, I eb, .bool en] 81)).drewN nq).rowIs w.heap.size 81 5 (Ent.mk ec ek ea eb en).cell) := Lib.hid HBX.out
  have hs1 : ((w.alloc (.cells #[I ec, I ek, I ea, I eb, .bool en] 81)).drewN nq).cell? ⟨gs, 0, none⟩ = some (.slice (some ⟨g, 0, none⟩) N N) := HS.out
  have hm1 : ((w.alloc (.cells #[I ec, I ek, I ea, I eb, .bool en] 81)).drewN nq).cell? ⟨gm, 0, none⟩ = some (I M) := HM.out
  have hG1 : Hid (w.grownBy ((w.alloc (.cells #[I ec, I ek, I ea, I eb, .bool en] 81)).drewN nq) (some g)) := Lib.hid ⟨hB.out.os, hB.out.tape, hB.out.output, hB.out.size, hB.out.block⟩
  clear HR HBX HM HS hB hs' hE'
  generalize (w.alloc (.cells #[I ec, I ek, I ea, I eb, .bool en] 81)).drewN nq = W1 at *
  obtain ⟨B, hBe⟩ : ∃ B, B = w.heap.size := ⟨_, rfl⟩
  rw [← hBe] at hgB hgsB hgmB HX1 ⊢
  have HBe := Lib.hid hBe
  clear hBe
  have b0 := HX1.out.cell (i := 0) (by decide)
  have b1 := HX1.out.cell (i := 1) (by decide)
  have b2 := HX1.out.cell (i := 2) (by decide)
  have b3 := HX1.out.cell (i := 3) (by decide)
  have b4 := HX1.out.cell (i := 4) (by decide)
  simp only [Ent.cell] at b0 b1 b2 b3 b4
  have r0 := HR1.out.cell (i := f * 5) (by omega)
  have r1 := HR1.out.cell (i := f * 5 + 1) (by omega)
  have r2 := HR1.out.cell (i := f * 5 + 2) (by omega)
  have r3 := HR1.out.cell (i := f * 5 + 3) (by omega)
  have r4 := HR1.out.cell (i := f * 5 + 4) (by omega)
  have q0 := HR1.out.frozen (f * 5)
  have q1 := HR1.out.frozen (f * 5 + 1)
  have q2 := HR1.out.frozen (f * 5 + 2)
  have q3 := HR1.out.frozen (f * 5 + 3)
  have q4 := HR1.out.frozen (f * 5 + 4)
  go_upto_region 4 with fail
  have HR2 : Hid ((put5 W1 g f ec ek ea eb en).rowIs g 81 (5 * N) (Es (updE E f ⟨ec, ek, ea, eb, en⟩))) := Lib.hid (put5_row HR1.out ec ek ea eb en)
  have HX2 : Hid ((put5 W1 g f ec ek ea eb en).rowIs B 81 5 (Ent.mk ec ek ea eb en).cell) := Lib.hid (HX1.out.of_block (put5_other _ _ _ _ _ (by omega)))
  have hs2 : (put5 W1 g f ec ek ea eb en).cell? ⟨gs, 0, none⟩ = some (.slice (some ⟨g, 0, none⟩) N N) := (World.cell?_of_block (put5_other _ _ _ _ _ hgs)).trans hs1
  have hm2 : (put5 W1 g f ec ek ea eb en).cell? ⟨gm, 0, none⟩ = some (I M) := (World.cell?_of_block (put5_other _ _ _ _ _ hgm)).trans hm1
  have hG2 : Hid (w.grownBy (put5 W1 g f ec ek ea eb en) (some g)) := Lib.hid (put5_grown hG1.out ec ek ea eb en)
  rw [show ((((W1.setCell ⟨g, f * 5, none⟩ (.int .i64 ec)).setCell ⟨g, f * 5 + 1, none⟩ (.int .i64 ek)).setCell ⟨g, f * 5 + 2, none⟩ (.int .i64 ea)).setCell ⟨g, f * 5 + 3, none⟩ (.int .i64 eb)).setCell ⟨g, f * 5 + 4, none⟩ (.bool en) = put5 W1 g f ec ek ea eb en from rfl]
  clear HR1 HX1 hs1 hm1 hG1 b0 b1 b2 b3 b4 r0 r1 r2 r3 r4 q0 q1 q2 q3 q4
  generalize put5 W1 g f ec ek ea eb en = W2 at *
  have b4 := HX2.out.cell (i := 4) (by decide)
  have p4 := HX2.out.frozen 4
  simp only [Ent.cell] at b4
  go_upto_region 5 with fail
  have hMf : M - f < N := by omega
  have HR3 : Hid ((W2.setCell ⟨B, 4, none⟩ (.bool (!en))).rowIs g 81 (5 * N) (Es (updE E f ⟨ec, ek, ea, eb, en⟩))) := Lib.hid (HR2.out.setOther (by simp; omega) _)
  have HX3 : Hid ((W2.setCell ⟨B, 4, none⟩ (.bool (!en))).rowIs B 81 5 (Ent.mk ec ek ea eb (!en)).cell) := Lib.hid ((HX2.out.set 4 (.bool (!en))).congr fun i hi => by
    have : i = 0 ∨ i = 1 ∨ i = 2 ∨ i = 3 ∨ i = 4 := by omega
    rcases this with rfl | rfl | rfl | rfl | rfl <;> rfl)
  have hs3 : (W2.setCell ⟨B, 4, none⟩ (.bool (!en))).cell? ⟨gs, 0, none⟩ = some (.slice (some ⟨g, 0, none⟩) N N) := (World.cell?_of_block (one_other hgsB _ _)).trans hs2
  have hm3 : (W2.setCell ⟨B, 4, none⟩ (.bool (!en))).cell? ⟨gm, 0, none⟩ = some (I M) := (World.cell?_of_block (one_other hgmB _ _)).trans hm2
  have hG3 : Hid (w.grownBy (W2.setCell ⟨B, 4, none⟩ (.bool (!en))) (some g)) := Lib.hid (grown_set hG2.out (.inr (by have := HBe.out; omega)) _ _)
  clear HR2 HX2 hs2 hm2 hG2 b4 p4
  generalize W2.setCell ⟨B, 4, none⟩ (.bool (!en)) = W3 at *
  have b0 := HX3.out.cell (i := 0) (by decide)
  have b1 := HX3.out.cell (i := 1) (by decide)
  have b2 := HX3.out.cell (i := 2) (by decide)
  have b3 := HX3.out.cell (i := 3) (by decide)
  have b4 := HX3.out.cell (i := 4) (by decide)
  simp only [Ent.cell] at b0 b1 b2 b3 b4
  have HSE : Hid (setE M E f ⟨ec, ek, ea, eb, en⟩ = updE (updE E f ⟨ec, ek, ea, eb, en⟩) (M - f) ⟨ec, ek, ea, eb, !en⟩) := Lib.hid rfl
  generalize M - f = d at *
  have r0 := HR3.out.cell (i := d * 5) (by omega)
  have r1 := HR3.out.cell (i := d * 5 + 1) (by omega)
  have r2 := HR3.out.cell (i := d * 5 + 2) (by omega)
  have r3 := HR3.out.cell (i := d * 5 + 3) (by omega)
  have r4 := HR3.out.cell (i := d * 5 + 4) (by omega)
  have q0 := HR3.out.frozen (d * 5)
  have q1 := HR3.out.frozen (d * 5 + 1)
  have q2 := HR3.out.frozen (d * 5 + 2)
  have q3 := HR3.out.frozen (d * 5 + 3)
  have q4 := HR3.out.frozen (d * 5 + 4)
  have h2 : (0 : Int) ≤ d := by omega
  have h3 : (d : Int) < N := by omega
  generalize (!en) = en' at *
  have HF : Hid ((put5 W3 g d ec ek ea eb en').rowIs g 81 (5 * N) (Es (updE (updE E f ⟨ec, ek, ea, eb, en⟩) d ⟨ec, ek, ea, eb, en'⟩))) := Lib.hid (put5_row HR3.out ec ek ea eb en')
  have hG4 : Hid (w.grownBy (put5 W3 g d ec ek ea eb en') (some g)) := Lib.hid (put5_grown hG3.out ec ek ea eb en')
  go_wp2
  go_ret
  rw [HSE.out]
  exact ⟨rfl, HF.out, hG4.out⟩
end Go.Proofs.Ytpmjpkpaclmpbaa
