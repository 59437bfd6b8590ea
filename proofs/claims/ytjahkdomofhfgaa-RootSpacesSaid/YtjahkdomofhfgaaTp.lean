/- The space of the simulation, by the reference. -/
import Derived.Test.YtjahkdomofhfgaaTo
import Derived.Test.YtjahkdomofhfgaaTn
import Derived.Deep.RegionHeld3
namespace Go.Proofs.Ytjahkdomofhfgaa
open Go.RowKit
set_option linter.unusedVariables false
set_option linter.unusedSimpArgs false

def bitsV (T b : Int) (s y : Nat) : Int := wrap64 ((s : Int) + wrap64 (T * wrap64 (15 + wrap64 (3 * b * (y : Int)))))
set_option maxHeartbeats 2000000 in
theorem count_any {k b : Int} (hk : 0 ≤ k ∧ k ≤ 20000) (hb : 1 ≤ b ∧ b ≤ 1000) (w : World) : Calls Try.prog 20 #[I k, I b] w fun e w' => e = .returned (I ((k + b - 1) / b)) ∧ w' = w := by
  go_enter Try.func20, Try.ntmps20
  go_wp2
  go_ret
  exact ⟨rfl, rfl⟩

set_option maxHeartbeats 2000000 in
theorem bitsof_any {S Y T b : Int} {v : Value} {s y : Nat} (hs : IsLb S s) (hy : IsLb Y y) (hb : 1 ≤ b ∧ b ≤ 1000) (w : World) : Calls Try.prog 21 #[M4 S Y T v, I b] w fun e w' => e = .returned (I (bitsV T b s y)) ∧ Below w.heap.size w w' := by
  have h15 : IsLb 20001 15 := ⟨by omega, by decide, by decide⟩
  have H15 := Lib.hid (fun w => bits_any h15 w)
  have HS := Lib.hid (fun w => bits_any hs w)
  have HY := Lib.hid (fun w => bits_any hy w)
  clear hs hy h15
  go_enter Try.func21, Try.ntmps21
  go_wp2
  go_quiet (first | (go_at_call 22; with_reducible exact Calls.quiet_of_same (HS.out _)) | (go_at_call 22; with_reducible exact Calls.quiet_of_same (H15.out _)) | (go_at_call 22; with_reducible exact Calls.quiet_of_same (HY.out _)))
  go_wp2
  go_ret
  exact ⟨rfl, below_drewN (box4 w S Y T v).2 _⟩

/-- worlds behind calls that make memory alone, and behind the store of the result into block b -/
def St (b : Nat) (W w' : World) : Prop := ∃ w1, Below W.heap.size W w1 ∧ (w' = w1 ∨ ∃ x y z, w' = ((w1.setCell ⟨b, 0, none⟩ x).setCell ⟨b, 1, none⟩ y).setCell ⟨b, 2, none⟩ z)
theorem St.of {b : Nat} {W w' : World} (h : Below W.heap.size W w') : St b W w' := ⟨w', h, .inl rfl⟩
theorem St.put {b : Nat} {W w' : World} (h : Below W.heap.size W w') (x y z : Value) : St b W (((w'.setCell ⟨b, 0, none⟩ x).setCell ⟨b, 1, none⟩ y).setCell ⟨b, 2, none⟩ z) := ⟨w', h, .inr ⟨x, y, z, rfl⟩⟩
theorem St.cell {b : Nat} {W w' : World} (h : St b W w') {a : Addr} {v : Value} (ha : a.block ≠ b) (hc : W.cell? a = some v) : w'.cell? a = some v := by
  obtain ⟨w1, hb, rfl | ⟨x, y, z, rfl⟩⟩ := h
  · exact below_cell (B := 0) hb hc
  · rw [← below_cell (B := 0) hb hc]
    exact World.cell?_of_block (by rw [Deep.blk_setCell_other _ _ _ _ ha, Deep.blk_setCell_other _ _ _ _ ha, Deep.blk_setCell_other _ _ _ _ ha])
/-- the number of cells of the simulation -/
def ownV (T k b : Int) (s y l : Nat) : Int := IntKind.i64.wrap (IntKind.i64.wrap (IntKind.i64.wrap (2 * ((k + b - 1) / b)) * T) + IntKind.i64.wrap ((k + b - 1) / b * IntKind.i64.wrap (IntKind.i64.wrap ((1 + 3 * T) * bitsV T b s y) + (l : Int))))
theorem res3 {w : World} {b : Nat} {t : TypeId} (h : w.heap[b]? = some (.cells #[I 0, I 0, I 0] t (0, 0))) (x y z : Int) : (((w.setCell ⟨b, 0, none⟩ (I x)).setCell ⟨b, 1, none⟩ (I y)).setCell ⟨b, 2, none⟩ (I z)).heap[b]? = some (.cells #[I x, I y, I z] t (0, 0)) := by
  simp [World.setCell, Array.getElem?_modify, h]
set_option maxHeartbeats 4000000 in
theorem space_any {S Y T k b : Int} {v : Value} {s y l : Nat} (hs : IsLb S s) (hy : IsLb Y y) (hT : 1 ≤ T ∧ T ≤ 3) (hl : IsLb (1 + 3 * T + 1) l) (hk : 0 ≤ k ∧ k ≤ 20000) (hb : 1 ≤ b ∧ b ≤ 1000) (w : World) : Calls Try.prog 12 #[M4 S Y T v, I k, I b] w fun e w' => e = .returned (.agg #[I (ownV T k b s y l), I 0, I k]) ∧ Below w.heap.size w w' := by
  have HC := Lib.hid (fun w => count_any hk hb w)
  have HB := Lib.hid (fun w => bitsof_any (T := T) (v := v) hs hy hb w)
  have HL := Lib.hid (fun w => bits_any hl w)
  have Hw5 := Lib.hid (show IntKind.i64.wrap (1 + 3 * T + 1) = 1 + 3 * T + 1 by
    have : T = 1 ∨ T = 2 ∨ T = 3 := by omega
    rcases this with rfl | rfl | rfl <;> decide)
  clear hs hy hl
  go_enter Try.func12, Try.ntmps12
  go_upto_region 1 with fail
  go_quiet (first | (go_at_call 20; with_reducible exact Calls.quiet_of_same (HC.out _)))
  go_upto_region 2 with fail
  obtain ⟨W, hW⟩ : ∃ W, W = ((w.alloc (Obj.cells #[I S, I Y, I T, v] 35)).alloc (Obj.cells #[I 0, I 0, I 0] 38)).drewN nq := ⟨_, rfl⟩
  have hBW : Below w.heap.size w W := by rw [hW]; exact below_drewN (((Below.refl _ _).alloc (Nat.le_refl _) _).alloc (by simp) _) _
  have hx : Bx w.heap.size W S Y T v := by rw [hW]; exact ⟨by simp [go_sem], by simp [go_sem], by simp [go_sem], by simp [go_sem]⟩
  have hr : W.heap[w.heap.size + 1]? = some (.cells #[I 0, I 0, I 0] 38 (0, 0)) := by
    rw [hW]
    have := Deep.blk_alloc_new (w.alloc (Obj.cells #[I S, I Y, I T, v] 35)) (Obj.cells #[I 0, I 0, I 0] 38)
    rwa [World.size_alloc] at this
  rw [← hW]
  have e0 : ∀ w', St (w.heap.size + 1) W w' → w'.cell? ⟨w.heap.size, 0, none⟩ = some (I S) := fun w' h => h.cell (by show w.heap.size ≠ w.heap.size + 1; omega) hx.c0
  have e1 : ∀ w', St (w.heap.size + 1) W w' → w'.cell? ⟨w.heap.size, 1, none⟩ = some (I Y) := fun w' h => h.cell (by show w.heap.size ≠ w.heap.size + 1; omega) hx.c1
  have e2 : ∀ w', St (w.heap.size + 1) W w' → w'.cell? ⟨w.heap.size, 2, none⟩ = some (I T) := fun w' h => h.cell (by show w.heap.size ≠ w.heap.size + 1; omega) hx.c2
  have e3 : ∀ w', St (w.heap.size + 1) W w' → w'.cell? ⟨w.heap.size, 3, none⟩ = some v := fun w' h => h.cell (by show w.heap.size ≠ w.heap.size + 1; omega) hx.c3
  have hrr : ∀ w', Below W.heap.size W w' → w'.heap[w.heap.size + 1]? = some (.cells #[I 0, I 0, I 0] 38 (0, 0)) := fun w' h => by rw [h.block _ (Array.getElem?_eq_some_iff.1 hr).1]; exact hr
  have r0 : ∀ w', Below W.heap.size W w' → w'.cell? ⟨w.heap.size + 1, 0, none⟩ = some (I 0) := fun w' h => by simp [World.cell?, hrr w' h]
  have r1 : ∀ w', Below W.heap.size W w' → w'.cell? ⟨w.heap.size + 1, 1, none⟩ = some (I 0) := fun w' h => by simp [World.cell?, hrr w' h]
  have r2 : ∀ w', Below W.heap.size W w' → w'.cell? ⟨w.heap.size + 1, 2, none⟩ = some (I 0) := fun w' h => by simp [World.cell?, hrr w' h]
  have f0 : ∀ w', Below W.heap.size W w' → w'.frozen? ⟨w.heap.size + 1, 0, none⟩ = false := fun w' h => by simp [World.frozen?, hrr w' h]
  have f1 : ∀ w', Below W.heap.size W w' → w'.frozen? ⟨w.heap.size + 1, 1, none⟩ = false := fun w' h => by simp [World.frozen?, hrr w' h]
  have f2 : ∀ w', Below W.heap.size W w' → w'.frozen? ⟨w.heap.size + 1, 2, none⟩ = false := fun w' h => by simp [World.frozen?, hrr w' h]
  have HBW := Lib.hid hBW
  clear hBW hx hr
  have Hrr := Lib.hid hrr
  clear hrr
  have HW := Lib.hid hW
  clear hW
  go_region_held3 (fun w' => St (w.heap.size + 1) W w')
    (first
      | (with_reducible exact St.of (Below.refl _ _).drew)
      | (with_reducible assumption)
      | (with_reducible exact St.of (by with_reducible assumption))
      | (with_reducible exact St.put (by with_reducible assumption) _ _ _))
    (first
      | (go_at_call 21; (with_reducible refine (HB.out _).mono ?_); rintro e w' ⟨rfl, hb⟩; have hx1 : Below W.heap.size W w' := (fun (h0 : Below W.heap.size W _) => h0.trans (hb.mono h0.size)) ((Below.refl _ _).drew); have s0 := r0 w' hx1; have s1 := r1 w' hx1; have s2 := r2 w' hx1; have g0 := f0 w' hx1; have g1 := f1 w' hx1; have g2 := f2 w' hx1; clear hb)
      | (go_at_call 22; rw [Hw5.out]; (with_reducible refine (HL.out _).mono ?_); rintro e w' ⟨rfl, rfl⟩))
  have hfin := res3 (Hrr.out _ hx1) (ownV T k b s y l) 0 k
  have hbel : Below w.heap.size w (((w'.setCell ⟨w.heap.size + 1, 0, none⟩ (I (ownV T k b s y l))).setCell ⟨w.heap.size + 1, 1, none⟩ (I 0)).setCell ⟨w.heap.size + 1, 2, none⟩ (I k)) :=
    (((HBW.out.trans (hx1.mono HBW.out.size)).setCell (p := ⟨w.heap.size + 1, 0, none⟩) (show w.heap.size ≤ w.heap.size + 1 by omega) _).setCell (p := ⟨w.heap.size + 1, 1, none⟩) (show w.heap.size ≤ w.heap.size + 1 by omega) _).setCell (p := ⟨w.heap.size + 1, 2, none⟩) (show w.heap.size ≤ w.heap.size + 1 by omega) _
  have Hfin := Lib.hid hfin
  have Hbel := Lib.hid hbel
  clear hfin hbel s0 s1 s2 g0 g1 g2 e0 e1 e2 e3 r0 r1 r2 f0 f1 f2
  change Exit.then _ _ Exit.normal _ (((w'.setCell ⟨w.heap.size + 1, 0, none⟩ (I (ownV T k b s y l))).setCell ⟨w.heap.size + 1, 1, none⟩ (I 0)).setCell ⟨w.heap.size + 1, 2, none⟩ (I k))
  generalize (((w'.setCell ⟨w.heap.size + 1, 0, none⟩ (I (ownV T k b s y l))).setCell ⟨w.heap.size + 1, 1, none⟩ (I 0)).setCell ⟨w.heap.size + 1, 2, none⟩ (I k)) = w9 at *
  go_wp2
  refine bodyPost_ret (results_cell_row (by rfl) _ _ (w.heap.size + 1) 38 #[I (ownV T k b s y l), I 0, I k] (0, 0) _ (by rfl) Hfin.out Try.underlying38 (by rfl) (by kernel_rfl)) rfl ?_
  exact ⟨rfl, Hbel.out⟩

end Go.Proofs.Ytjahkdomofhfgaa
