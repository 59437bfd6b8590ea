/- The function best. -/
import Derived.Test.YtpmjpkpaclmpbaaFb
import Derived.Laws.MakeOwn
import Derived.Shelf.Abstract
import Derived.Laws.Bits64b
namespace Go.Proofs.Ytpmjpkpaclmpbaa
open Go.RowKit Go.Maps
set_option linter.unusedVariables false
set_option linter.unusedSimpArgs false

theorem Try.info81 : (Try.prog.info? 81).map (fun i => (i.zero, i.size, i.bytes)) = some (some (.agg #[.int .i64 0, .int .i64 0, .int .i64 0, .int .i64 0, .bool false]), 5, 40) := by kernel_rfl
theorem make81 (M N : Nat) (hM : M + 1 = N) (hN : N ≤ 256) : ∃ Z : Array Value, Z.size = 5 * N ∧ (∀ i, i < 5 * N → Z[i]? = some (Es (fun _ => ⟨0, 0, 0, 0, false⟩) i)) ∧ ∀ W : World, (Instr.makeSlice 76 (.int .i64 ((M : Int) + 1)) (.int .i64 ((M : Int) + 1))).run Try.prog W = .ok (.slice (some ⟨W.heap.size, 0, none⟩) N N) (W.alloc (.cells Z 81)) := by
  obtain ⟨i0, hi, hz⟩ := Option.map_eq_some_iff.1 Try.info81
  simp only [Prod.mk.injEq] at hz
  obtain ⟨hz0, hz1, hz2⟩ := hz
  have hnn : ((M : Int) + 1).toNat = N := by omega
  refine ⟨madeCells (Value.agg #[.int .i64 0, .int .i64 0, .int .i64 0, .int .i64 0, .bool false]).cells (N * i0.size), by rw [size_madeCells, hz1]; omega, fun i hi => ?_, fun W => ?_⟩
  · rw [hz1]
    have hj : i % 5 = 0 ∨ i % 5 = 1 ∨ i % 5 = 2 ∨ i % 5 = 3 ∨ i % 5 = 4 := by omega
    have hlt : i < N * 5 := by omega
    have e : (madeCells (Value.agg #[.int .i64 0, .int .i64 0, .int .i64 0, .int .i64 0, .bool false]).cells (N * 5))[i]? = some ((#[Value.int .i64 0, .int .i64 0, .int .i64 0, .int .i64 0, .bool false])[i % 5]!) := by
      simp [madeCells, hlt, Value.cells]
    rw [e]
    unfold Es
    rcases hj with h | h | h | h | h <;> rw [h] <;> rfl
  · have h := run_makeSlice (P := Try.prog) W 76 81 i0 _ Try.underlying76 hi hz0 .i64 .i64 ((M : Int) + 1) ((M : Int) + 1) (by omega) (Int.le_refl _) (by rw [hz1]; omega) (by rw [hz2]; omega) (by omega)
    rw [hnn] at h
    exact h

theorem row_cost {W : World} {g N i : Nat} (h : W.rowIs g 81 (5 * N) (Es (E1 i))) : (W.setCell ⟨g, i * 5, none⟩ (I 1048576)).rowIs g 81 (5 * N) (Es (E1 (i + 1))) := by
  refine (h.set (i * 5) _).congr fun j hj => ?_
  by_cases e : j = i * 5
  · subst e
    rw [if_pos rfl]
    have := Es_cell (E1 (i + 1)) i 0 (by decide)
    show I 1048576 = Es (E1 (i + 1)) (i * 5 + 0)
    rw [this]
    simp [E1, Ent.cell]
  · rw [if_neg e]
    unfold Es E1 Ent.cell
    have hj5 : j % 5 = 0 ∨ j % 5 = 1 ∨ j % 5 = 2 ∨ j % 5 = 3 ∨ j % 5 = 4 := by omega
    rcases hj5 with h5 | h5 | h5 | h5 | h5 <;> rw [h5] <;> simp
    have : (j / 5 < i) ↔ (j / 5 < i + 1) := by omega
    simp [this]
/-- the entries in memory -/
structure Bm (w0 wr : World) (M N : Nat) (E : Nat → Ent) : Prop where
  row : wr.rowIs (w0.heap.size + 1) 81 (5 * N) (Es E)
  cm : wr.cell? ⟨w0.heap.size, 0, none⟩ = some (I M)
  cz : wr.cell? ⟨w0.heap.size + 1 + 1, 0, none⟩ = some (.slice (some ⟨w0.heap.size + 1, 0, none⟩) N N)
  bel : Below w0.heap.size w0 wr
  sz : w0.heap.size + 3 ≤ wr.heap.size
theorem Bm.on {w0 wr w' : World} {M N : Nat} {E E' : Nat → Ent} (h : Bm w0 wr M N E) (hg : wr.grownBy w' (some (w0.heap.size + 1))) (hrow : w'.rowIs (w0.heap.size + 1) 81 (5 * N) (Es E')) : Bm w0 w' M N E' where
  row := hrow
  cm := (World.cell?_of_block (hg.block w0.heap.size (by have := h.sz; omega) (by simp))).trans h.cm
  cz := (World.cell?_of_block (hg.block (w0.heap.size + 1 + 1) (by have := h.sz; omega) (by simp))).trans h.cz
  bel := h.bel.grown hg h.bel.size (fun j hj => by cases hj; omega)
  sz := Nat.le_trans h.sz hg.size
theorem Bm.keep {w0 wr w' : World} {M N : Nat} {E : Nat → Ent} (h : Bm w0 wr M N E) (hb : Below wr.heap.size wr w') : Bm w0 w' M N E where
  row := h.row.of_block (hb.block _ h.row.lt)
  cm := (hb.cell (World.block_lt_of_cell? _ _ h.cm)).trans h.cm
  cz := (hb.cell (World.block_lt_of_cell? _ _ h.cz)).trans h.cz
  bel := h.bel.trans (hb.mono h.bel.size)
  sz := Nat.le_trans h.sz hb.size
theorem Bm.far {w0 wr w' : World} {M N r : Nat} {E : Nat → Ent} (h : Bm w0 wr M N E) (hg : wr.grownBy w' (some r)) (hr : w0.heap.size + 3 ≤ r) : Bm w0 w' M N E where
  row := h.row.of_block (hg.block _ h.row.lt (by simp; omega))
  cm := (World.cell?_of_block (hg.block w0.heap.size (by have := h.sz; omega) (by simp; omega))).trans h.cm
  cz := (World.cell?_of_block (hg.block (w0.heap.size + 1 + 1) (by have := h.sz; omega) (by simp; omega))).trans h.cz
  bel := h.bel.grown hg h.bel.size (fun j hj => by cases hj; omega)
  sz := Nat.le_trans h.sz hg.size
theorem Bm.drew {w0 wr : World} {M N : Nat} {E : Nat → Ent} (h : Bm w0 wr M N E) (m : Nat) : Bm w0 (wr.drewN m) M N E := ⟨h.row, h.cm, h.cz, below_drewN h.bel m, h.sz⟩
theorem Bm.cost {w0 wr : World} {M N : Nat} {E : Nat → Ent} (h : Bm w0 wr M N E) {f : Nat} (hf : f < N) : wr.cell? ⟨w0.heap.size + 1, f * 5, none⟩ = some (I (cs E f)) := by
  rw [h.row.cell (i := f * 5) (by omega)]
  exact congrArg some (Es_cell E f 0 (by decide))
/-- what the closure does -/
theorem set_bm {w0 wr : World} {M N f : Nat} {E : Nat → Ent} (h : Bm w0 wr M N E) (hf : f < N) (hN : N ≤ 256) (hM : M + 1 = N) (hand : bits BinOp.andNot IntKind.i64 (M : Int) (f : Int) = ((M - f : Nat) : Int)) (c k a b : Int) (nt : Bool) {r : Bool} (hr : r = decide (c < cs E f)) :
    Calls Try.prog 73 #[I f, .agg #[I c, I k, I a, I b, .bool nt], .pointer (some ⟨w0.heap.size + 1 + 1, 0, none⟩), .pointer (some ⟨w0.heap.size, 0, none⟩)] wr fun e w' => e = .returned (.bool r) ∧ Bm w0 w' M N (if r = true then setE M E f ⟨c, k, a, b, nt⟩ else E) ∧ wr.grownBy w' (some (w0.heap.size + 1)) := by
  subst hr
  by_cases hc : c < cs E f
  · rw [decide_eq_true hc, if_pos rfl]
    refine (set_yes (e := ⟨c, k, a, b, nt⟩) h.row h.cz h.cm (by omega) (by omega) hf hN hM hand hc).mono ?_
    rintro e w' ⟨rfl, h1, h2⟩
    exact ⟨rfl, h.on h2 h1, h2⟩
  · rw [decide_eq_false hc, if_neg (by decide)]
    refine (set_no (e := ⟨c, k, a, b, nt⟩) h.row h.cz h.cm hf hN (by unfold cs at hc; simp only; omega)).mono ?_
    rintro e w' ⟨rfl, h1⟩
    exact ⟨rfl, h.keep h1, h1.os, h1.tape, h1.output, h1.size, fun i hi _ => h1.block i hi⟩
theorem bm_start (w : World) {M N : Nat} {Z : Array Value} (hZ1 : Z.size = 5 * N) (hZ2 : ∀ i, i < 5 * N → Z[i]? = some (Es (fun _ => ⟨0, 0, 0, 0, false⟩) i)) : Bm w (((w.alloc (.cells #[I M] 3)).alloc (.cells Z 81)).alloc (.cells #[.slice (some ⟨w.heap.size + 1, 0, none⟩) N N] 76)) M N (E1 0) where
  row := by
    have h := World.rowIs_alloc (w.alloc (.cells #[I M] 3)) Z 81 (Es (E1 0)) (fun i hi => hZ2 i (by omega))
    rw [World.size_alloc, hZ1] at h
    exact h.alloc _
  cm := cell_alloc (cell_alloc (by simp [go_sem]) _) _
  cz := by
    have h : ((w.alloc (.cells #[I M] 3)).alloc (.cells Z 81)).heap.size = w.heap.size + 1 + 1 := by simp [World.size_alloc]
    rw [← h]
    simp [go_sem]
  bel := (((Below.refl _ _).alloc (Nat.le_refl _) _).alloc (by simp [World.size_alloc]) _).alloc (by simp [World.size_alloc]; omega) _
  sz := by simp [World.size_alloc]
theorem and_i64 (a b : Nat) (ha : a < 256) (hb : b < 256) : bits .and .i64 (a : Int) (b : Int) = ((a &&& b : Nat) : Int) := by
  have hx : a &&& b < 2 ^ 8 := Nat.and_lt_two_pow _ (by omega)
  have h1 : (BitVec.ofInt 64 (a : Int)).toNat = a := by
    rw [BitVec.ofInt_natCast, BitVec.toNat_ofNat]; exact Nat.mod_eq_of_lt (by omega)
  have h2 : (BitVec.ofInt 64 (b : Int)).toNat = b := by
    rw [BitVec.ofInt_natCast, BitVec.toNat_ofNat]; exact Nat.mod_eq_of_lt (by omega)
  show IntKind.i64.wrap ((BitVec.ofInt 64 (a : Int) &&& BitVec.ofInt 64 (b : Int)).toNat : Int) = _
  rw [BitVec.toNat_and, h1, h2, IntKind.wrap_i64]
  omega
theorem xor_i64 (a b : Nat) (ha : a < 256) (hb : b < 256) : bits .xor .i64 (a : Int) (b : Int) = ((a ^^^ b : Nat) : Int) := by
  have hx : a ^^^ b < 2 ^ 8 := Nat.xor_lt_two_pow (by omega) (by omega)
  have h1 : (BitVec.ofInt 64 (a : Int)).toNat = a := by
    rw [BitVec.ofInt_natCast, BitVec.toNat_ofNat]; exact Nat.mod_eq_of_lt (by omega)
  have h2 : (BitVec.ofInt 64 (b : Int)).toNat = b := by
    rw [BitVec.ofInt_natCast, BitVec.toNat_ofNat]; exact Nat.mod_eq_of_lt (by omega)
  show IntKind.i64.wrap ((BitVec.ofInt 64 (a : Int) ^^^ BitVec.ofInt 64 (b : Int)).toNat : Int) = _
  rw [BitVec.toNat_xor, h1, h2, IntKind.wrap_i64]
  omega
/-- what best answers -/
def BestR (w : World) (n M N : Nat) (leaf : Int) (xor : Bool) (J : Int → Int → Int) (e : Ending) (w' : World) : Prop :=
  ∃ E g, e = .returned (.slice (some ⟨g, 0, none⟩) N N) ∧ w'.rowIs g 81 (5 * N) (Es E) ∧ Inv n M leaf xor J E ∧ Clo n M leaf xor J E ∧ Below w.heap.size w w'
theorem and_not (M f : Nat) (h : M = 1 ∨ M = 3 ∨ M = 15 ∨ M = 255) (hf : f ≤ M) : bits BinOp.andNot IntKind.i64 (M : Int) (f : Int) = ((M - f : Nat) : Int) := by
  have h1 : ∀ f : Fin 2, bits BinOp.andNot IntKind.i64 ((1 : Nat) : Int) (f.val : Int) = ((1 - f.val : Nat) : Int) := by decide +kernel
  have h3 : ∀ f : Fin 4, bits BinOp.andNot IntKind.i64 ((3 : Nat) : Int) (f.val : Int) = ((3 - f.val : Nat) : Int) := by decide +kernel
  have h15 : ∀ f : Fin 16, bits BinOp.andNot IntKind.i64 ((15 : Nat) : Int) (f.val : Int) = ((15 - f.val : Nat) : Int) := by decide +kernel
  have h255 : ∀ f : Fin 256, bits BinOp.andNot IntKind.i64 ((255 : Nat) : Int) (f.val : Int) = ((255 - f.val : Nat) : Int) := by decide +kernel
  rcases h with rfl | rfl | rfl | rfl
  · exact h1 ⟨f, by omega⟩
  · exact h3 ⟨f, by omega⟩
  · exact h15 ⟨f, by omega⟩
  · exact h255 ⟨f, by omega⟩
end Go.Proofs.Ytpmjpkpaclmpbaa
