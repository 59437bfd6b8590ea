/- Walks through the law that the elements form a field: it returns true; no memory that was there is changed. -/
import Derived.Test.YtbddhccbmieokaaTk
import Derived.Test.YtbddhccbmieokaaLx
namespace Go.Proofs.Ytbddhccbmieokaa
open Go.RowKit FieldMath
set_option linter.unusedVariables false
set_option linter.unusedSimpArgs false

theorem app_cons {α : Type} (a : α) (l r : List α) : List.append (a :: l) r = a :: List.append l r := rfl
theorem app_nil {α : Type} (r : List α) : List.append [] r = r := rfl
abbrev A3 (a b c : Int) : Value := .agg #[I a, I b, I c]
theorem three_cells (W : World) (a b c : Int) (t : TypeId) : ∀ i, i < [a, b, c].length → (W.alloc (.cells #[I a, I b, I c] t)).cell? ⟨W.heap.size, i, none⟩ = some (I ([a, b, c].getD i 0)) := by
  intro i hi
  match i, hi with
  | 0, _ => simp [go_sem]
  | 1, _ => simp [go_sem]
  | 2, _ => simp [go_sem]
theorem el3 {P M a b c : Int} {r : Bool} (h : decide (chk P M [a, b, c] = 0) = r) (w : World) : Calls Try.prog 30 #[A2 P M, .slice (some ⟨w.heap.size, 0, none⟩) 3 3] (w.alloc (.cells #[I a, I b, I c] 3)) fun e w' => e = .returned (.bool r) ∧ Below w.heap.size w w' :=
  (elem_any P M [a, b, c] w.heap.size 3 (by simp) (w.alloc (.cells #[I a, I b, I c] 3)) (by simp) (three_cells w a b c 3)).mono
    fun _ _ ⟨he, hb⟩ => ⟨by rw [he, h], ((Below.refl _ _).alloc (Nat.le_refl _) _).trans (hb.mono (by simp))⟩
/-- the field's box and the array's box -/
theorem laws_boxes {w : World} {P M a b c : Int} : ((w.alloc (.cells #[I P, I M] 23)).alloc (.cells #[I a, I b, I c] 43)).cell? ⟨w.heap.size, 0, none⟩ = some (I P) ∧ ((w.alloc (.cells #[I P, I M] 23)).alloc (.cells #[I a, I b, I c] 43)).cell? ⟨w.heap.size, 1, none⟩ = some (I M) ∧
    ((w.alloc (.cells #[I P, I M] 23)).alloc (.cells #[I a, I b, I c] 43)).cell? ⟨w.heap.size + 1, 0, none⟩ = some (I a) ∧ ((w.alloc (.cells #[I P, I M] 23)).alloc (.cells #[I a, I b, I c] 43)).cell? ⟨w.heap.size + 1, 1, none⟩ = some (I b) ∧
    ((w.alloc (.cells #[I P, I M] 23)).alloc (.cells #[I a, I b, I c] 43)).cell? ⟨w.heap.size + 1, 2, none⟩ = some (I c) := by
  refine ⟨?_, ?_, ?_, ?_, ?_⟩ <;> simp [go_sem]

set_option maxRecDepth 100000 in
set_option maxHeartbeats 2000000 in
theorem laws_no (P M a b c : Int) (h : chk P M [a, b, c] ≠ 0) : Fn 9 #[A2 P M, A3 a b c] (.bool true) := by
  intro w
  have Hal := Lib.hid alive_any
  have He := Lib.hid (fun w => el3 (P := P) (M := M) (a := a) (b := b) (c := c) (decide_eq_false h) w)
  obtain ⟨x0, x1, y0, y1, y2⟩ := laws_boxes (w := w) (P := P) (M := M) (a := a) (b := b) (c := c)
  have hB : Below w.heap.size w ((w.alloc (.cells #[I P, I M] 23)).alloc (.cells #[I a, I b, I c] 43)) := ((Below.refl _ _).alloc (Nat.le_refl _) _).alloc (by simp) _
  have hsz : ((w.alloc (.cells #[I P, I M] 23)).alloc (.cells #[I a, I b, I c] 43)).heap.size = w.heap.size + 2 := by simp
  clear h
  go_enter Try.func9, Try.ntmps9
  go_wp2
  generalize (w.alloc (Obj.cells #[I P, I M] 23)).alloc (Obj.cells #[I a, I b, I c] 43) = W at *
  have e0 : ∀ y : Ext W, y.val.cell? ⟨w.heap.size + 1, 0, none⟩ = some (I a) := fun y => (y.ok.cell (p := ⟨w.heap.size + 1, 0, none⟩) (by simp; omega)).trans y0
  have e1 : ∀ y : Ext W, y.val.cell? ⟨w.heap.size + 1, 1, none⟩ = some (I b) := fun y => (y.ok.cell (p := ⟨w.heap.size + 1, 1, none⟩) (by simp; omega)).trans y1
  have e2 : ∀ y : Ext W, y.val.cell? ⟨w.heap.size + 1, 2, none⟩ = some (I c) := fun y => (y.ok.cell (p := ⟨w.heap.size + 1, 2, none⟩) (by simp; omega)).trans y2
  refine wp_region_ext (by kernel_rfl) (by kernel_rfl) ?_
  repeat (go_big_quiet_step (fail))
  refine wpQuiet_nil ?_
  rintro w2 ⟨y, hy⟩
  have z0 : w2.cell? ⟨w.heap.size, 0, none⟩ = some (I P) := by rw [hy]; exact (y.ok.cell (p := ⟨w.heap.size, 0, none⟩) (by simp; omega)).trans x0
  have z1 : w2.cell? ⟨w.heap.size, 1, none⟩ = some (I M) := by rw [hy]; exact (y.ok.cell (p := ⟨w.heap.size, 1, none⟩) (by simp; omega)).trans x1
  have hB2 : Below w.heap.size w w2 := by rw [hy]; exact hB.trans (y.ok.mono (by omega))
  have hs2 : w.heap.size < w2.heap.size := by rw [hy]; have := y.ok.size; omega
  clear e0 e1 e2 hy y x0 x1 y0 y1 y2 hB hsz
  go_wp2_with (first
    | (go_at_call 30; refine (He.out _).mono ?_; rintro e w' ⟨rfl, hb⟩; replace hB2 := hB2.trans (hb.mono hB2.size); clear hb z0 z1 hs2)
    | (go_at_call 16; refine (Hal.out _).mono ?_; rintro e w' ⟨rfl, hb⟩; replace hB2 := hB2.trans (hb.mono hB2.size); clear hb))
  go_ret
  exact ⟨rfl, hB2⟩

set_option maxRecDepth 100000 in
set_option maxHeartbeats 8000000 in
theorem laws_ok0 (P M a b c : Nat) (hv : FV P M) (ha0 : a = 0) (ha : a < fq P M) (hb : b < fq P M) (hc : c < fq P M) : Fn 9 #[A2 P M, A3 a b c] (.bool true) := by
  intro w
  have F := ff_valid (P := P) (M := M) hv
  have hq := fq_cases hv
  have hz : ((a : Int) == 0) = true := by rw [beq_iff_eq]; omega
  have hz2 : ((a : Int) != 0) = false := by rw [bne_eq_false_iff_eq]; omega
  have hS := F.addC ha hb
  have hT := F.mulC ha hb
  have hV := F.addC hb hc
  have hY := F.mulC hb hc
  have hW := F.mulC ha hc
  have Hal := Lib.hid alive_any
  have He := Lib.hid (fun w => el3 (P := P) (M := M) (a := a) (b := b) (c := c) (chk_yes (chk_ok hv (by
    intro x hx
    rw [ord_fq hv]
    simp only [List.mem_cons, List.not_mem_nil, or_false] at hx
    rcases hx with rfl | rfl | rfl <;> omega)) rfl) w)
  have A1 := Lib.hid (ladd hv ha hb)
  have A2' := Lib.hid (show Fn 32 #[A2 P M, I b, I a] (I (fadd P M a b : Nat)) by rw [F.add_comm ha hb]; exact ladd hv hb ha)
  have M1 := Lib.hid (lmul hv ha hb)
  have M2 := Lib.hid (show Fn 33 #[A2 P M, I b, I a] (I (fmul P M a b : Nat)) by rw [F.mul_comm ha hb]; exact lmul hv hb ha)
  have A3' := Lib.hid (ladd hv hS hc)
  have A4 := Lib.hid (ladd hv hb hc)
  have A5 := Lib.hid (show Fn 32 #[A2 P M, I a, I (fadd P M b c : Nat)] (I (fadd P M (fadd P M a b) c : Nat)) by rw [F.add_assoc ha hb hc]; exact ladd hv ha hV)
  have M3 := Lib.hid (lmul hv hT hc)
  have M4 := Lib.hid (lmul hv hb hc)
  have M5 := Lib.hid (show Fn 33 #[A2 P M, I a, I (fmul P M b c : Nat)] (I (fmul P M (fmul P M a b) c : Nat)) by rw [F.mul_assoc ha hb hc]; exact lmul hv ha hY)
  have M6 := Lib.hid (lmul hv ha hV)
  have M7 := Lib.hid (lmul hv ha hc)
  have A6 := Lib.hid (show Fn 32 #[A2 P M, I (fmul P M a b : Nat), I (fmul P M a c : Nat)] (I (fmul P M a (fadd P M b c) : Nat)) by rw [F.distrib ha hb hc]; exact ladd hv hT hW)
  have A7 := Lib.hid (show Fn 32 #[A2 P M, I a, I 0] (I a) by have := ladd hv ha F.zero; rwa [F.add_zero ha] at this)
  have M8 := Lib.hid (show Fn 33 #[A2 P M, I a, I 1] (I a) by have := lmul hv ha F.one; rwa [F.mul_one ha] at this)
  have M9 := Lib.hid (show Fn 33 #[A2 P M, I a, I 0] (I 0) by have := lmul hv ha F.zero; rwa [F.mul_zero ha] at this)
  have S1 := Lib.hid (show Fn 24 #[A2 P M, I (fadd P M a b : Nat), I b] (T2 a 0) by
    have := subV hv hS hb
    rwa [F.add_assoc ha hb (F.negC hb), F.add_neg hb, F.add_zero ha] at this)
  have N1 := Lib.hid (show Fn 34 #[A2 P M, I a] (T2 0 6) by subst ha0; exact inv_zero P M hv)
  clear hS hT hV hY hW F hv hq hb hc ha ha0
  generalize fmul P M a (fadd P M b c) = Z at *
  generalize fadd P M (fadd P M a b) c = U at *
  generalize fmul P M (fmul P M a b) c = X at *
  generalize fadd P M a b = S at *
  generalize fmul P M a b = T at *
  generalize fadd P M b c = V at *
  generalize fmul P M b c = Y at *
  generalize fmul P M a c = R at *
  obtain ⟨x0, x1, y0, y1, y2⟩ := laws_boxes (w := w) (P := P) (M := M) (a := a) (b := b) (c := c)
  have hB : Below w.heap.size w ((w.alloc (.cells #[I P, I M] 23)).alloc (.cells #[I a, I b, I c] 43)) := ((Below.refl _ _).alloc (Nat.le_refl _) _).alloc (by simp) _
  have hsz : ((w.alloc (.cells #[I P, I M] 23)).alloc (.cells #[I a, I b, I c] 43)).heap.size = w.heap.size + 2 := by simp
  go_enter Try.func9, Try.ntmps9
  go_wp2
  generalize (w.alloc (Obj.cells #[I P, I M] 23)).alloc (Obj.cells #[I a, I b, I c] 43) = W at *
  have e0 : ∀ y : Ext W, y.val.cell? ⟨w.heap.size + 1, 0, none⟩ = some (I a) := fun y => (y.ok.cell (p := ⟨w.heap.size + 1, 0, none⟩) (by simp; omega)).trans y0
  have e1 : ∀ y : Ext W, y.val.cell? ⟨w.heap.size + 1, 1, none⟩ = some (I b) := fun y => (y.ok.cell (p := ⟨w.heap.size + 1, 1, none⟩) (by simp; omega)).trans y1
  have e2 : ∀ y : Ext W, y.val.cell? ⟨w.heap.size + 1, 2, none⟩ = some (I c) := fun y => (y.ok.cell (p := ⟨w.heap.size + 1, 2, none⟩) (by simp; omega)).trans y2
  refine wp_region_ext (by kernel_rfl) (by kernel_rfl) ?_
  repeat (go_big_quiet_step (fail))
  refine wpQuiet_nil ?_
  rintro w2 ⟨y, hy⟩
  have z0 : w2.cell? ⟨w.heap.size, 0, none⟩ = some (I P) := by rw [hy]; exact (y.ok.cell (p := ⟨w.heap.size, 0, none⟩) (by simp; omega)).trans x0
  have z1 : w2.cell? ⟨w.heap.size, 1, none⟩ = some (I M) := by rw [hy]; exact (y.ok.cell (p := ⟨w.heap.size, 1, none⟩) (by simp; omega)).trans x1
  have hB2 : Below w.heap.size w w2 := by rw [hy]; exact hB.trans (y.ok.mono (by omega))
  have hs2 : w.heap.size < w2.heap.size := by rw [hy]; have := y.ok.size; omega
  clear e0 e1 e2 hy y x0 x1 y0 y1 y2 hB hsz
  go_wp2_with fail
  refine (He.out _).mono ?_
  rintro e w3 ⟨rfl, hb⟩
  replace hB2 := hB2.trans (hb.mono hB2.size)
  replace z0 := (hb.cell (p := ⟨w.heap.size, 0, none⟩) hs2).trans z0
  replace z1 := (hb.cell (p := ⟨w.heap.size, 1, none⟩) hs2).trans z1
  replace hs2 := Nat.lt_of_lt_of_le hs2 hb.size
  clear hb
  go_wp2
  have e0 : ∀ y : Ext w3, y.val.cell? ⟨w.heap.size, 0, none⟩ = some (I P) := fun y => (y.ok.cell (p := ⟨w.heap.size, 0, none⟩) hs2).trans z0
  have e1 : ∀ y : Ext w3, y.val.cell? ⟨w.heap.size, 1, none⟩ = some (I M) := fun y => (y.ok.cell (p := ⟨w.heap.size, 1, none⟩) hs2).trans z1
  refine wp_region_ext (by kernel_rfl) (by kernel_rfl) ?_
  repeat (go_big_quiet_step (first
    | (go_at_call 32; exact Fn.ext A1.out _ _)
    | (go_at_call 24; exact Fn.ext S1.out _ _)))
  refine wpQuiet_nil ?_
  rintro w4 ⟨y, hy⟩
  have u0 : w4.cell? ⟨w.heap.size, 0, none⟩ = some (I P) := by rw [hy]; exact e0 y
  have u1 : w4.cell? ⟨w.heap.size, 1, none⟩ = some (I M) := by rw [hy]; exact e1 y
  have hB4 : Below w.heap.size w w4 := by rw [hy]; exact hB2.trans (y.ok.mono (by omega))
  have hs4 : w.heap.size < w4.heap.size := by rw [hy]; exact Nat.lt_of_lt_of_le hs2 y.ok.size
  clear e0 e1 hy y z0 z1 hB2 hs2
  go_wp2_with (first
    | (go_at_call 34; refine (N1.out _).mono ?_; rintro e w' ⟨rfl, hb⟩; replace hB4 := hB4.trans (hb.mono hB4.size); replace u0 := (hb.cell (p := ⟨w.heap.size, 0, none⟩) hs4).trans u0; replace u1 := (hb.cell (p := ⟨w.heap.size, 1, none⟩) hs4).trans u1; replace hs4 := Nat.lt_of_lt_of_le hs4 hb.size; clear hb)
    | fail)
  obtain ⟨w5, hw5⟩ : ∃ w5, w5 = w' := ⟨_, rfl⟩
  have e0 : ∀ y : Ext w', y.val.cell? ⟨w.heap.size, 0, none⟩ = some (I P) := fun y => (y.ok.cell (p := ⟨w.heap.size, 0, none⟩) hs4).trans u0
  have e1 : ∀ y : Ext w', y.val.cell? ⟨w.heap.size, 1, none⟩ = some (I M) := fun y => (y.ok.cell (p := ⟨w.heap.size, 1, none⟩) hs4).trans u1
  have HB := Lib.hid hB4
  clear hw5 hB4 u0 u1
  refine wp_region_ext (by kernel_rfl) (lexB_of (by kernel_rfl) (by kernel_rfl)) ?_
  simp only [app_cons, app_nil]
  repeat (go_big_quiet_step (first
    | (go_at_call 32; first | (with_reducible exact Fn.ext A1.out _ _) | (with_reducible exact Fn.ext A2'.out _ _) | (with_reducible exact Fn.ext A3'.out _ _) | (with_reducible exact Fn.ext A4.out _ _) | (with_reducible exact Fn.ext A5.out _ _) | (with_reducible exact Fn.ext A6.out _ _) | (with_reducible exact Fn.ext A7.out _ _))
    | (go_at_call 33; first | (with_reducible exact Fn.ext M1.out _ _) | (with_reducible exact Fn.ext M2.out _ _) | (with_reducible exact Fn.ext M3.out _ _) | (with_reducible exact Fn.ext M4.out _ _) | (with_reducible exact Fn.ext M5.out _ _) | (with_reducible exact Fn.ext M6.out _ _) | (with_reducible exact Fn.ext M7.out _ _) | (with_reducible exact Fn.ext M8.out _ _) | (with_reducible exact Fn.ext M9.out _ _))
    | (go_at_call 16; exact Fn.ext Hal.out _ _)))
  refine wpQuiet_nil ?_
  rintro _ ⟨x, rfl⟩
  go_wp2
  go_ret
  exact ⟨rfl, HB.out.trans (x.ok.mono HB.out.size)⟩

set_option maxRecDepth 100000 in
set_option maxHeartbeats 8000000 in
theorem laws_ok1 (P M a b c : Nat) (hv : FV P M) (ha0 : a ≠ 0) (ha : a < fq P M) (hb : b < fq P M) (hc : c < fq P M) : Fn 9 #[A2 P M, A3 a b c] (.bool true) := by
  intro w
  have F := ff_valid (P := P) (M := M) hv
  have hq := fq_cases hv
  have hz : ((a : Int) == 0) = false := by rw [beq_eq_false_iff_ne]; omega
  have hz2 : ((a : Int) != 0) = true := by rw [bne_iff_ne]; omega
  have hS := F.addC ha hb
  have hT := F.mulC ha hb
  have hV := F.addC hb hc
  have hY := F.mulC hb hc
  have hW := F.mulC ha hc
  have Hal := Lib.hid alive_any
  have He := Lib.hid (fun w => el3 (P := P) (M := M) (a := a) (b := b) (c := c) (chk_yes (chk_ok hv (by
    intro x hx
    rw [ord_fq hv]
    simp only [List.mem_cons, List.not_mem_nil, or_false] at hx
    rcases hx with rfl | rfl | rfl <;> omega)) rfl) w)
  have A1 := Lib.hid (ladd hv ha hb)
  have A2' := Lib.hid (show Fn 32 #[A2 P M, I b, I a] (I (fadd P M a b : Nat)) by rw [F.add_comm ha hb]; exact ladd hv hb ha)
  have M1 := Lib.hid (lmul hv ha hb)
  have M2 := Lib.hid (show Fn 33 #[A2 P M, I b, I a] (I (fmul P M a b : Nat)) by rw [F.mul_comm ha hb]; exact lmul hv hb ha)
  have A3' := Lib.hid (ladd hv hS hc)
  have A4 := Lib.hid (ladd hv hb hc)
  have A5 := Lib.hid (show Fn 32 #[A2 P M, I a, I (fadd P M b c : Nat)] (I (fadd P M (fadd P M a b) c : Nat)) by rw [F.add_assoc ha hb hc]; exact ladd hv ha hV)
  have M3 := Lib.hid (lmul hv hT hc)
  have M4 := Lib.hid (lmul hv hb hc)
  have M5 := Lib.hid (show Fn 33 #[A2 P M, I a, I (fmul P M b c : Nat)] (I (fmul P M (fmul P M a b) c : Nat)) by rw [F.mul_assoc ha hb hc]; exact lmul hv ha hY)
  have M6 := Lib.hid (lmul hv ha hV)
  have M7 := Lib.hid (lmul hv ha hc)
  have A6 := Lib.hid (show Fn 32 #[A2 P M, I (fmul P M a b : Nat), I (fmul P M a c : Nat)] (I (fmul P M a (fadd P M b c) : Nat)) by rw [F.distrib ha hb hc]; exact ladd hv hT hW)
  have A7 := Lib.hid (show Fn 32 #[A2 P M, I a, I 0] (I a) by have := ladd hv ha F.zero; rwa [F.add_zero ha] at this)
  have M8 := Lib.hid (show Fn 33 #[A2 P M, I a, I 1] (I a) by have := lmul hv ha F.one; rwa [F.mul_one ha] at this)
  have M9 := Lib.hid (show Fn 33 #[A2 P M, I a, I 0] (I 0) by have := lmul hv ha F.zero; rwa [F.mul_zero ha] at this)
  have S1 := Lib.hid (show Fn 24 #[A2 P M, I (fadd P M a b : Nat), I b] (T2 a 0) by
    have := subV hv hS hb
    rwa [F.add_assoc ha hb (F.negC hb), F.add_neg hb, F.add_zero ha] at this)
  have N1 := Lib.hid (inv_ok P M a hv (by omega) ha)
  have M10 := Lib.hid (show Fn 33 #[A2 P M, I a, I (fpow P M a (fq P M - 2) : Nat)] (I 1) by
    have hp := fpow_bd hv ha (fq P M - 2)
    have := lmul hv ha hp
    have e : fmul P M a (fpow P M a (fq P M - 2)) = 1 := by
      rw [pow_is hv ha, F.mul_comm ha (F.pwC ha _)]
      have := F.fermat ha ha0
      rw [show fq P M - 1 = (fq P M - 2) + 1 by omega] at this
      exact this
    rwa [e] at this)
  generalize fpow P M a (fq P M - 2) = v at *
  clear hS hT hV hY hW F hv hq hb hc ha ha0
  generalize fmul P M a (fadd P M b c) = Z at *
  generalize fadd P M (fadd P M a b) c = U at *
  generalize fmul P M (fmul P M a b) c = X at *
  generalize fadd P M a b = S at *
  generalize fmul P M a b = T at *
  generalize fadd P M b c = V at *
  generalize fmul P M b c = Y at *
  generalize fmul P M a c = R at *
  obtain ⟨x0, x1, y0, y1, y2⟩ := laws_boxes (w := w) (P := P) (M := M) (a := a) (b := b) (c := c)
  have hB : Below w.heap.size w ((w.alloc (.cells #[I P, I M] 23)).alloc (.cells #[I a, I b, I c] 43)) := ((Below.refl _ _).alloc (Nat.le_refl _) _).alloc (by simp) _
  have hsz : ((w.alloc (.cells #[I P, I M] 23)).alloc (.cells #[I a, I b, I c] 43)).heap.size = w.heap.size + 2 := by simp
  go_enter Try.func9, Try.ntmps9
  go_wp2
  generalize (w.alloc (Obj.cells #[I P, I M] 23)).alloc (Obj.cells #[I a, I b, I c] 43) = W at *
  have e0 : ∀ y : Ext W, y.val.cell? ⟨w.heap.size + 1, 0, none⟩ = some (I a) := fun y => (y.ok.cell (p := ⟨w.heap.size + 1, 0, none⟩) (by simp; omega)).trans y0
  have e1 : ∀ y : Ext W, y.val.cell? ⟨w.heap.size + 1, 1, none⟩ = some (I b) := fun y => (y.ok.cell (p := ⟨w.heap.size + 1, 1, none⟩) (by simp; omega)).trans y1
  have e2 : ∀ y : Ext W, y.val.cell? ⟨w.heap.size + 1, 2, none⟩ = some (I c) := fun y => (y.ok.cell (p := ⟨w.heap.size + 1, 2, none⟩) (by simp; omega)).trans y2
  refine wp_region_ext (by kernel_rfl) (by kernel_rfl) ?_
  repeat (go_big_quiet_step (fail))
  refine wpQuiet_nil ?_
  rintro w2 ⟨y, hy⟩
  have z0 : w2.cell? ⟨w.heap.size, 0, none⟩ = some (I P) := by rw [hy]; exact (y.ok.cell (p := ⟨w.heap.size, 0, none⟩) (by simp; omega)).trans x0
  have z1 : w2.cell? ⟨w.heap.size, 1, none⟩ = some (I M) := by rw [hy]; exact (y.ok.cell (p := ⟨w.heap.size, 1, none⟩) (by simp; omega)).trans x1
  have hB2 : Below w.heap.size w w2 := by rw [hy]; exact hB.trans (y.ok.mono (by omega))
  have hs2 : w.heap.size < w2.heap.size := by rw [hy]; have := y.ok.size; omega
  clear e0 e1 e2 hy y x0 x1 y0 y1 y2 hB hsz
  go_wp2_with fail
  refine (He.out _).mono ?_
  rintro e w3 ⟨rfl, hb⟩
  replace hB2 := hB2.trans (hb.mono hB2.size)
  replace z0 := (hb.cell (p := ⟨w.heap.size, 0, none⟩) hs2).trans z0
  replace z1 := (hb.cell (p := ⟨w.heap.size, 1, none⟩) hs2).trans z1
  replace hs2 := Nat.lt_of_lt_of_le hs2 hb.size
  clear hb
  go_wp2
  have e0 : ∀ y : Ext w3, y.val.cell? ⟨w.heap.size, 0, none⟩ = some (I P) := fun y => (y.ok.cell (p := ⟨w.heap.size, 0, none⟩) hs2).trans z0
  have e1 : ∀ y : Ext w3, y.val.cell? ⟨w.heap.size, 1, none⟩ = some (I M) := fun y => (y.ok.cell (p := ⟨w.heap.size, 1, none⟩) hs2).trans z1
  refine wp_region_ext (by kernel_rfl) (by kernel_rfl) ?_
  repeat (go_big_quiet_step (first
    | (go_at_call 32; exact Fn.ext A1.out _ _)
    | (go_at_call 24; exact Fn.ext S1.out _ _)))
  refine wpQuiet_nil ?_
  rintro w4 ⟨y, hy⟩
  have u0 : w4.cell? ⟨w.heap.size, 0, none⟩ = some (I P) := by rw [hy]; exact e0 y
  have u1 : w4.cell? ⟨w.heap.size, 1, none⟩ = some (I M) := by rw [hy]; exact e1 y
  have hB4 : Below w.heap.size w w4 := by rw [hy]; exact hB2.trans (y.ok.mono (by omega))
  have hs4 : w.heap.size < w4.heap.size := by rw [hy]; exact Nat.lt_of_lt_of_le hs2 y.ok.size
  clear e0 e1 hy y z0 z1 hB2 hs2
  go_wp2_with (first
    | (go_at_call 34; refine (N1.out _).mono ?_; rintro e w' ⟨rfl, hb⟩; replace hB4 := hB4.trans (hb.mono hB4.size); replace u0 := (hb.cell (p := ⟨w.heap.size, 0, none⟩) hs4).trans u0; replace u1 := (hb.cell (p := ⟨w.heap.size, 1, none⟩) hs4).trans u1; replace hs4 := Nat.lt_of_lt_of_le hs4 hb.size; clear hb)
    | (go_at_call 33; refine (M10.out _).mono ?_; rintro e w' ⟨rfl, hb⟩; replace hB4 := hB4.trans (hb.mono hB4.size); replace u0 := (hb.cell (p := ⟨w.heap.size, 0, none⟩) hs4).trans u0; replace u1 := (hb.cell (p := ⟨w.heap.size, 1, none⟩) hs4).trans u1; replace hs4 := Nat.lt_of_lt_of_le hs4 hb.size; clear hb)
    | fail)
  obtain ⟨w5, hw5⟩ : ∃ w5, w5 = w' := ⟨_, rfl⟩
  have e0 : ∀ y : Ext w', y.val.cell? ⟨w.heap.size, 0, none⟩ = some (I P) := fun y => (y.ok.cell (p := ⟨w.heap.size, 0, none⟩) hs4).trans u0
  have e1 : ∀ y : Ext w', y.val.cell? ⟨w.heap.size, 1, none⟩ = some (I M) := fun y => (y.ok.cell (p := ⟨w.heap.size, 1, none⟩) hs4).trans u1
  have HB := Lib.hid hB4
  clear hw5 hB4 u0 u1
  refine wp_region_ext (by kernel_rfl) (lexB_of (by kernel_rfl) (by kernel_rfl)) ?_
  simp only [app_cons, app_nil]
  repeat (go_big_quiet_step (first
    | (go_at_call 32; first | (with_reducible exact Fn.ext A1.out _ _) | (with_reducible exact Fn.ext A2'.out _ _) | (with_reducible exact Fn.ext A3'.out _ _) | (with_reducible exact Fn.ext A4.out _ _) | (with_reducible exact Fn.ext A5.out _ _) | (with_reducible exact Fn.ext A6.out _ _) | (with_reducible exact Fn.ext A7.out _ _))
    | (go_at_call 33; first | (with_reducible exact Fn.ext M1.out _ _) | (with_reducible exact Fn.ext M2.out _ _) | (with_reducible exact Fn.ext M3.out _ _) | (with_reducible exact Fn.ext M4.out _ _) | (with_reducible exact Fn.ext M5.out _ _) | (with_reducible exact Fn.ext M6.out _ _) | (with_reducible exact Fn.ext M7.out _ _) | (with_reducible exact Fn.ext M8.out _ _) | (with_reducible exact Fn.ext M9.out _ _))
    | (go_at_call 16; exact Fn.ext Hal.out _ _)))
  refine wpQuiet_nil ?_
  rintro _ ⟨x, rfl⟩
  go_wp2
  go_ret
  exact ⟨rfl, HB.out.trans (x.ok.mono HB.out.size)⟩

theorem fieldLaws_any (P M a b c : Int) : Fn 9 #[A2 P M, A3 a b c] (.bool true) := by
  by_cases h : chk P M [a, b, c] = 0
  · have hv : vld P M = true := by
      by_cases hv : vld P M = true
      · exact hv
      · rw [chk_form (Bool.eq_false_iff.2 hv)] at h; omega
    have hs := vld_spec hv
    obtain ⟨p, rfl⟩ := Int.eq_ofNat_of_zero_le (show 0 ≤ P by omega)
    obtain ⟨m, rfl⟩ := Int.eq_ofNat_of_zero_le (show 0 ≤ M by omega)
    have hall : ∀ i, i < 3 → 0 ≤ [a, b, c].getD i 0 ∧ [a, b, c].getD i 0 < ord p m := fun i hi => by
      apply Classical.byContradiction
      intro hx
      rw [chk_bad (xs := [a, b, c]) (i := i) hv (by simpa using hi) hx] at h
      omega
    have h0 := hall 0 (by omega)
    have h1 := hall 1 (by omega)
    have h2 := hall 2 (by omega)
    rw [ord_fq hv] at h0 h1 h2
    simp only [List.getD_cons_zero, List.getD_cons_succ] at h0 h1 h2
    obtain ⟨x, rfl⟩ := Int.eq_ofNat_of_zero_le h0.1
    obtain ⟨y, rfl⟩ := Int.eq_ofNat_of_zero_le h1.1
    obtain ⟨z, rfl⟩ := Int.eq_ofNat_of_zero_le h2.1
    by_cases hx : x = 0
    · exact laws_ok0 p m x y z hv hx (by omega) (by omega) (by omega)
    · exact laws_ok1 p m x y z hv hx (by omega) (by omega) (by omega)
  · exact laws_no P M a b c h

end Go.Proofs.Ytbddhccbmieokaa
