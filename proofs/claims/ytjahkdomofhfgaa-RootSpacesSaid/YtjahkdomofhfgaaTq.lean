/- The set of the keys that were met, as a map of the call's own. -/
import Derived.Test.YtjahkdomofhfgaaTl
import Derived.Maps.Own
import Derived.Maps.OwnOps
import Derived.Maps.Views
import Derived.DeepKeys4
import Derived.Laws.IdiomCopy
import Derived.Test.YtjahkdomofhfgaaTm
namespace Go.Proofs.Ytjahkdomofhfgaa
open Go.RowKit Go.Maps
set_option linter.unusedVariables false
set_option linter.unusedSimpArgs false

abbrev KY (a b c d : Int) : Value := .agg #[I a, I b, I c, I d]
theorem laidOut' : laidOutB Try.prog = true := by kernel_rfl
theorem key58 : Keyed Try.prog 58 := Keyed.of_law (deep_law_laid (m := 5) laidOut' (by omega) (of_decide_eq_true (by kernel_rfl)) (by kernel_rfl) (by kernel_rfl))
theorem c58 : Try.prog.cellsOf 58 = 4 := by kernel_rfl
theorem c56 : Try.prog.cellsOf 56 = 3 := by kernel_rfl
theorem c3 : Try.prog.cellsOf 3 = 1 := by kernel_rfl
theorem kl3 (m : Nat) {a : Int} (ha : (Lit.int .i64 a).wf = true) : Try.prog.keyLits (m + 1) 3 [I a] = some [.int .i64 a] := by
  simp [Program.keyLits, Try.underlying3, ha]
theorem kl56 (m : Nat) {b c d : Int} (hb : (Lit.int .i64 b).wf = true) (hc : (Lit.int .i64 c).wf = true) (hd : (Lit.int .i64 d).wf = true) : Try.prog.keyLits (m + 2) 56 [I b, I c, I d] = some [.int .i64 b, .int .i64 c, .int .i64 d] := by
  have e1 := kl3 m hb
  have e2 := kl3 m hc
  have e3 := kl3 m hd
  unfold Program.keyLits
  simp only [Try.underlying56, c56, c3, List.length_cons, List.length_nil]
  simp [List.range, List.range.loop, e1, e2, e3]
theorem kl58 (m : Nat) {a b c d : Int} (ha : (Lit.int .i64 a).wf = true) (hb : (Lit.int .i64 b).wf = true) (hc : (Lit.int .i64 c).wf = true) (hd : (Lit.int .i64 d).wf = true) : Try.prog.keyLits (m + 3) 58 [I a, I b, I c, I d] = some [.int .i64 a, .int .i64 b, .int .i64 c, .int .i64 d] := by
  have e1 := kl3 (m + 1) ha
  have e2 := kl56 m hb hc hd
  unfold Program.keyLits
  simp only [Try.underlying58, c58, List.length_cons, List.length_nil]
  simp [c56, c3, e1, e2]
theorem key_ex {a b c d : Int} (ha : (Lit.int .i64 a).wf = true) (hb : (Lit.int .i64 b).wf = true) (hc : (Lit.int .i64 c).wf = true) (hd : (Lit.int .i64 d).wf = true) : ∃ kl, keyOf Try.prog 58 (KY a b c d) = some kl := by
  have ht : Try.prog.keyType 58 = true := by kernel_rfl
  have hf : Value.formed Try.prog 58 (KY a b c d) = true := by
    simp [Value.formed, Try.underlying58, c58]
  obtain ⟨m, hm⟩ : ∃ m, Try.prog.types.size + 1 = m + 3 := ⟨Try.prog.types.size - 2, by have : 3 ≤ Try.prog.types.size := of_decide_eq_true (by kernel_rfl); omega⟩
  unfold keyOf
  rw [ht, hf, hm]
  have := kl58 m ha hb hc hd
  exact ⟨_, by simp [Try.underlying58, Value.cells, this]; rfl⟩

open Classical in
/-- block b is a map that holds true at the keys KV 0 .. KV (k - 1), and nothing else -/
def Seen (w : World) (b k : Nat) (KV : Nat → Value) : Prop := ∃ D : DataW Unit, w.ownsMap Try.prog 58 (plainElem Try.prog 4) b k D ∧ IsMap D ∧ ∀ v kl, keyOf Try.prog 58 v = some kl → D.atKey kl (.lit (.bool false)) = .lit (.bool (decide (∃ j, j < k ∧ KV j = v)))
open Classical in
theorem Seen.made (w : World) (KV : Nat → Value) : Seen (w.alloc (.map #[] 0)) w.heap.size 0 KV := by
  refine ⟨_, World.ownsMap_made w _ _ _, ⟨_, rfl⟩, fun v kl _ => ?_⟩
  have : ¬ ∃ j, j < 0 ∧ KV j = v := by rintro ⟨j, hj, _⟩; omega
  simp only [this, decide_false]
  rfl
theorem Seen.lt {w : World} {b k : Nat} {KV : Nat → Value} (h : Seen w b k KV) : b < w.heap.size := by
  obtain ⟨D, h1, _⟩ := h
  exact h1.lt
theorem Seen.keep {w w' : World} {b k : Nat} {KV : Nat → Value} (h : Seen w b k KV) (hb : Below w.heap.size w w') : Seen w' b k KV := by
  obtain ⟨D, h1, h2, h3⟩ := h
  exact ⟨D, h1.kept (row := none) ⟨hb.os, hb.tape, hb.output, hb.size, fun k hk _ => hb.block k hk⟩ (by simp), h2, h3⟩
theorem zero4 (w : World) : (zeroValue 4).run Try.prog w = .ok (.bool false) w := by kernel_rfl
theorem Seen.look {w : World} {b k : Nat} {KV : Nat → Value} (h : Seen w b k KV) {v : Value} {kl : Lit} (hk : keyOf Try.prog 58 v = some kl) {r : Bool} (hr : r = true ↔ ∃ j, j < k ∧ KV j = v) : (Instr.lookup 55 (.map (some b)) v false).run Try.prog w = .ok (.bool r) w := by
  obtain ⟨D, h1, h2, h3⟩ := h
  obtain ⟨x, ps, hrun, hx⟩ := h1.lookup key58 Try.underlying55 (zero4 w) (plainElem_bool Try.underlying4 false) hk
  rw [h3 v kl hk] at hx
  rw [hrun]
  unfold plainElem at hx
  rw [Try.underlying4] at hx
  cases x <;> simp at hx
  congr 2
  rw [Bool.eq_iff_iff, hr, hx.1]
  simp
open Classical in
theorem Seen.put {w : World} {b k : Nat} {KV : Nat → Value} (h : Seen w b k KV) (hn : k < maxLen) {kl : Lit} (hk : keyOf Try.prog 58 (KV k) = some kl) : ∃ w', (Instr.mapUpdate 55 (.map (some b)) (KV k) (.bool true)).run Try.prog w = .ok () w' ∧ Seen w' b (k + 1) KV ∧ w.grownBy w' (some b) := by
  obtain ⟨D, h1, h2, h3⟩ := h
  obtain ⟨w', hrun, ho, hg⟩ := h1.update key58 Try.underlying55 hn hk (plainElem_bool Try.underlying4 true)
  refine ⟨w', hrun, ⟨_, ho, ?_, fun v l hv => ?_⟩, hg⟩
  · obtain ⟨es, rfl⟩ := h2
    exact ⟨_, rfl⟩
  · by_cases e : l = kl
    · subst e
      have : v = KV k := key58.inj hv hk
      have hex : ∃ j, j < k + 1 ∧ KV j = v := ⟨k, by omega, this.symm⟩
      rw [atKey_put_same h2 (key58.key hk)]
      simp only [hex, decide_true]
    · rw [atKey_put_other e, h3 v l hv]
      congr 2
      rw [decide_eq_decide]
      constructor
      · rintro ⟨j, hj, hv'⟩
        exact ⟨j, by omega, hv'⟩
      · rintro ⟨j, hj, hv'⟩
        rcases Nat.lt_or_ge j k with hl | hl
        · exact ⟨j, hl, hv'⟩
        · obtain rfl : j = k := by omega
          subst hv'
          exact absurd (Option.some.inj (hv.symm.trans hk)) e
theorem wpList_seen_put {w : World} {ops : Array Oper} {rest : List Oper} {o : Oper} {a : Act} {Q : Exit → Act → World → Prop}
    (hg : o.guard = none) (m x v : Operand) (hop : o.op = Op.mapUpdate 55 m x v) {b k : Nat} {KV : Nat → Value} (hm : a.eval m = .map (some b)) (hs : Seen w b k KV) (hn : k < maxLen) (hx : a.eval x = KV k) (hv : a.eval v = .bool true) {kl : Lit} (hk : keyOf Try.prog 58 (KV k) = some kl)
    (hK : ∀ w', Seen w' b (k + 1) KV → w.grownBy w' (some b) → wpList Try.prog ops Q rest (a.put o.dst undef) w') : wpList Try.prog ops Q (o :: rest) a w := by
  refine wpList_plain hg fun K' hK' => ?_
  obtain ⟨w', hrun, r1, r2⟩ := hs.put hn hk
  unfold Oper.wp
  simp [execOp, hop, hm, hx, hv, hrun, Result.andThen]
  exact hK' _ _ (hK w' r1 r2)

/-- the key of a state and of symbols -/
def keyV (f : Int) (L : Nat) (Z : Nat → Int) : Value := KY f (if 0 < L then Z 0 else 0) (if 1 < L then Z 1 else 0) (if 2 < L then Z 2 else 0)

theorem setk {W : World} {b : Nat} {f : Int} {L : Nat} {Z : Nat → Int} (h : W.heap[b]? = some (.cells #[I f, I 0, I 0, I 0] 58 (0, 0))) (hL : 1 ≤ L ∧ L ≤ 3) :
    (W.setCells b 1 (nums L Z)).heap[b]? = some (.cells #[I f, I (if 0 < L then Z 0 else 0), I (if 1 < L then Z 1 else 0), I (if 2 < L then Z 2 else 0)] 58 (0, 0)) ∧ (∀ k, k ≠ b → (W.setCells b 1 (nums L Z)).heap[k]? = W.heap[k]?) ∧ ∀ B, B ≤ b → Below B W (W.setCells b 1 (nums L Z)) := by
  have hL3 : L = 1 ∨ L = 2 ∨ L = 3 := by omega
  rcases hL3 with rfl | rfl | rfl
  · simp only [nums, List.range, List.range.loop, List.map_cons, List.map_nil, World.setCells]
    exact ⟨by simp [World.setCell, Array.getElem?_modify, h], fun k hk => Deep.blk_setCell_other _ _ _ _ hk, fun B hB => (Below.refl _ _).setCell (p := ⟨b, 1, none⟩) hB _⟩
  · simp only [nums, List.range, List.range.loop, List.map_cons, List.map_nil, World.setCells]
    exact ⟨by simp [World.setCell, Array.getElem?_modify, h], fun k hk => (Deep.blk_setCell_other _ _ _ _ hk).trans (Deep.blk_setCell_other _ _ _ _ hk), fun B hB => ((Below.refl _ _).setCell (p := ⟨b, 1, none⟩) hB _).setCell (p := ⟨b, 2, none⟩) hB _⟩
  · simp only [nums, List.range, List.range.loop, List.map_cons, List.map_nil, World.setCells]
    exact ⟨by simp [World.setCell, Array.getElem?_modify, h], fun k hk => ((Deep.blk_setCell_other _ _ _ _ hk).trans (Deep.blk_setCell_other _ _ _ _ hk)).trans (Deep.blk_setCell_other _ _ _ _ hk), fun B hB => (((Below.refl _ _).setCell (p := ⟨b, 1, none⟩) hB _).setCell (p := ⟨b, 2, none⟩) hB _).setCell (p := ⟨b, 3, none⟩) hB _⟩

set_option maxHeartbeats 2000000 in
theorem keyOf_any {w : World} {a : Option Addr} {L C : Nat} {Z : Nat → Int} (h : Sl w a L Z) (f : Int) (hL : 1 ≤ L ∧ L ≤ 3) : Calls Try.prog 26 #[I f, .slice a L C] w fun e w' => e = .returned (keyV f L Z) ∧ Below w.heap.size w w' := by
  obtain ⟨b, rfl⟩ := h.ne (by omega)
  have H := Lib.hid h
  clear h
  have hinfo : (Try.prog.info? 3).map (·.size) = some 1 := by kernel_rfl
  obtain ⟨W, hW⟩ : ∃ W, W = ((w.alloc (Obj.cells #[I 0, I 0, I 0, I 0] 58)).alloc (Obj.cells #[I f, I 0, I 0, I 0] 58)) := ⟨_, rfl⟩
  have hBW : Below w.heap.size w W := by rw [hW]; exact ((Below.refl _ _).alloc (Nat.le_refl _) _).alloc (by simp) _
  have hb1 : W.heap[w.heap.size]? = some (.cells #[I 0, I 0, I 0, I 0] 58 (0, 0)) := by
    rw [hW, Deep.blk_alloc_lt _ _ _ (by simp)]
    exact Deep.blk_alloc_new _ _
  have hb2 : W.heap[w.heap.size + 1]? = some (.cells #[I f, I 0, I 0, I 0] 58 (0, 0)) := by
    rw [hW]
    have := Deep.blk_alloc_new (w.alloc (Obj.cells #[I 0, I 0, I 0, I 0] 58)) (Obj.cells #[I f, I 0, I 0, I 0] 58)
    rwa [World.size_alloc] at this
  have hs : Sl W (some b) L Z := H.out.keep hBW
  have hcp := run_copy_cells (P := Try.prog) W 27 27 3 3 (w.heap.size + 1) 1 3 3 b L C (nums L Z) Try.underlying27 hinfo (by simp [Nat.min_def]; omega) hs.nums
    (fun j hj => by
      simp at hj
      have : j < 3 := by omega
      match j, this with
      | 0, _ => simp [World.cell?, hb2]
      | 1, _ => simp [World.cell?, hb2]
      | 2, _ => simp [World.cell?, hb2]) (fun j hj => by simp [World.frozen?, hb2]) (nums_one _ _)
  have Hcp := Lib.hid hcp
  have H1 := Lib.hid hb1
  have H2 := Lib.hid hb2
  have HB := Lib.hid hBW
  have HW := Lib.hid hW
  clear hcp hb1 hb2 hBW hW hs
  have hL3 : L = 1 ∨ L = 2 ∨ L = 3 := by omega
  go_enter Try.func26, Try.ntmps26
  go_wp2
  rw [← HW.out, Hcp.out]
  obtain ⟨X, hX⟩ : ∃ X, X = W.setCells (w.heap.size + 1) 1 (nums L Z) := ⟨_, rfl⟩
  rw [← hX]
  have hX2 := (setk (W := W) (Z := Z) H2.out hL).1
  have hX1 := (setk (W := W) (Z := Z) H2.out hL).2.1 w.heap.size (by omega)
  have hXB := (setk (W := W) (Z := Z) H2.out hL).2.2 w.heap.size (by omega)
  rw [← hX] at hX1 hX2 hXB
  rw [H1.out] at hX1
  have hkv : keyV f L Z = KY f (if 0 < L then Z 0 else 0) (if 1 < L then Z 1 else 0) (if 2 < L then Z 2 else 0) := rfl
  generalize (if 0 < L then Z 0 else 0) = x0 at hX2 hkv
  generalize (if 1 < L then Z 1 else 0) = x1 at hX2 hkv
  generalize (if 2 < L then Z 2 else 0) = x2 at hX2 hkv
  have Hkv := Lib.hid hkv
  clear hkv
  have s0 : X.cell? ⟨w.heap.size + 1, 0, none⟩ = some (I f) := by simp [World.cell?, hX2]
  have s1 : X.cell? ⟨w.heap.size + 1, 1, none⟩ = some (I x0) := by simp [World.cell?, hX2]
  have s2 : X.cell? ⟨w.heap.size + 1, 2, none⟩ = some (I x1) := by simp [World.cell?, hX2]
  have s3 : X.cell? ⟨w.heap.size + 1, 3, none⟩ = some (I x2) := by simp [World.cell?, hX2]
  have t0 : X.cell? ⟨w.heap.size, 0, none⟩ = some (I 0) := by simp [World.cell?, hX1]
  have t1 : X.cell? ⟨w.heap.size, 1, none⟩ = some (I 0) := by simp [World.cell?, hX1]
  have t2 : X.cell? ⟨w.heap.size, 2, none⟩ = some (I 0) := by simp [World.cell?, hX1]
  have t3 : X.cell? ⟨w.heap.size, 3, none⟩ = some (I 0) := by simp [World.cell?, hX1]
  have f0 : X.frozen? ⟨w.heap.size, 0, none⟩ = false := by simp [World.frozen?, hX1]
  have f1 : X.frozen? ⟨w.heap.size, 1, none⟩ = false := by simp [World.frozen?, hX1]
  have f2 : X.frozen? ⟨w.heap.size, 2, none⟩ = false := by simp [World.frozen?, hX1]
  have f3 : X.frozen? ⟨w.heap.size, 3, none⟩ = false := by simp [World.frozen?, hX1]
  have HX1 := Lib.hid hX1
  have HXB := Lib.hid (HB.out.trans hXB)
  clear hX hX1 hX2 hXB
  go_wp2
  have hfin : ((((X.setCell ⟨w.heap.size, 0, none⟩ (I f)).setCell ⟨w.heap.size, 1, none⟩ (I x0)).setCell ⟨w.heap.size, 2, none⟩ (I x1)).setCell ⟨w.heap.size, 3, none⟩ (I x2)).heap[w.heap.size]? = some (.cells #[I f, I x0, I x1, I x2] 58 (0, 0)) := by
    simp [World.setCell, Array.getElem?_modify, HX1.out]
  refine bodyPost_ret (results_cell_row (by rfl) _ _ w.heap.size 58 #[I f, I x0, I x1, I x2] (0, 0) _ (by rfl) hfin Try.underlying58 (by rfl) (by kernel_rfl)) rfl ?_
  exact ⟨by rw [Hkv.out], ((((HXB.out.setCell (p := ⟨w.heap.size, 0, none⟩) (Nat.le_refl _) _).setCell (p := ⟨w.heap.size, 1, none⟩) (Nat.le_refl _) _).setCell (p := ⟨w.heap.size, 2, none⟩) (Nat.le_refl _) _).setCell (p := ⟨w.heap.size, 3, none⟩) (Nat.le_refl _) _)⟩

end Go.Proofs.Ytjahkdomofhfgaa
