-- PRINTED BY print.sh 35421559b90ae4d0a3588c463048766b98c2df88dd9212a6774a882060cdf62d: not written by this session
import Derived.Test.YtpfbommaddaijaaPBoundNechiporukx0
namespace Go.Proofs.Ytpfbommaddaijaa.PBoundNechiporuk
open Go.RowKit Go.Proofs.YtpfbommaddaijaaW.PrintWords Go.Proofs.YtpfbommaddaijaaW.PrintLast Go.Proofs.YtpfbommaddaijaaW.PrintMore
attribute [local go_sem] max2_int min2_int max_two min_two max_three min_three max_four min_four   -- for this text's walks alone
set_option linter.unusedVariables false
set_option linter.unusedSimpArgs false

/-! ### commodatumlaw23_wide: function 36 -/
def commodatumlaw23_wide.l0 : Nat → List (List Int) → Int → Int → Option (Bool)
  | 0, _, _, _ => none
  | k + 1, x0, x3, x4 => if x4 < (x0.length : Int) then (if x3 ≤ 200 then (if 0 ≤ x4 then (commodatumlaw23_wide.l0 k x0 (wrap64 (x3 + ((rd_L2 x0 x4).length : Int))) (wrap64 (x4 + 1))) else (none)) else (some (decide (x3 > 200)))) else (some (decide (x3 > 200)))
def commodatumlaw23_wide.f (k : Nat) (l0 : List (List Int)) : Option (Bool) := commodatumlaw23_wide.l0 k l0 (l0.length : Int) 0
theorem commodatumlaw23_wide.mono_l : ∀ k, (∀ y0 y1 y2, LeO (commodatumlaw23_wide.l0 k y0 y1 y2) (commodatumlaw23_wide.l0 (k + 1) y0 y1 y2))
  | 0 => fun _ _ _ r h => by simp [commodatumlaw23_wide.l0] at h
  | k + 1 => by
    have ih0 := commodatumlaw23_wide.mono_l k
    · intro y0 y1 y2
      unfold commodatumlaw23_wide.l0
      repeat' first
      | (with_reducible exact ih0 _ _ _)
      | (with_reducible exact LeO.refl _)
      | (with_reducible exact LeO.none _)
      | (with_reducible refine LeO.ite ?_ ?_)
      | (with_reducible refine LeO.bind ?_ (fun _ => ?_))
      | exact ih0 _ _ _
      | exact LeO.none _
      | refine LeO.ite ?_ ?_
      | refine LeO.bind ?_ (fun _ => ?_)
theorem commodatumlaw23_wide.mono : ∀ a0 k, LeO (commodatumlaw23_wide.f k a0) (commodatumlaw23_wide.f (k + 1) a0) := by
  intro a0 k
  have ih0 := commodatumlaw23_wide.mono_l k
  unfold commodatumlaw23_wide.f
  repeat' first
      | (with_reducible exact ih0 _ _ _)
      | (with_reducible exact LeO.refl _)
      | (with_reducible exact LeO.none _)
      | (with_reducible refine LeO.ite ?_ ?_)
      | (with_reducible refine LeO.bind ?_ (fun _ => ?_))
      | exact ih0 _ _ _
      | exact LeO.none _
      | refine LeO.ite ?_ ?_
      | refine LeO.bind ?_ (fun _ => ?_)
set_option maxHeartbeats 8000000 in
set_option maxRecDepth 100000 in
theorem commodatumlaw23_wide.calls (k : Nat) (A0 : Option Addr) (c0 : Nat) (l0 : List (List Int)) (r : Bool) (w : World) (hr0 : Kd.C (Kd.slice 3 (Kd.int .i64)) w A0 l0.length l0) (hc0 : l0.length ≤ c0) (h : commodatumlaw23_wide.f k l0 = some r) :
    Calls Try.prog 36 #[.slice A0 l0.length c0] w fun e w' => e = .returned (.bool r) ∧ Drawn0 w w' := by
  have HR0 := Aside0.mk hr0
  have HC0 := Aside0.mk hc0
  clear hr0 hc0
  have H : (commodatumlaw23_wide.l0 k l0 (l0.length : Int) 0) = some r := h
  clear h
  have H' := Aside0.mk H
  clear H
  go_enter Try.func36, Try.ntmps36
  go_wp2
  go_loopg [3, 4] k (fun kq v3 v4 w' => ∃ (x3_1 : Int) (x4_1 : Int), v3 = .int .i64 x3_1 ∧ v4 = .int .i64 x4_1 ∧ Aside0 (commodatumlaw23_wide.l0 kq l0 x3_1 x4_1 = some r) ∧ Aside0 (kq ≤ k) ∧ Drawn0 w w')
  case atStart => exact ⟨((l0.length : Int)), (0), (by first | rfl | (simp; done) | (simp [*]; done)), (by first | rfl | (simp; done) | (simp [*]; done)), H', ⟨Nat.le_refl _⟩, by repeat (first | exact Drawn0.refl _ | apply Drawn0.step)⟩
  case round =>
    clear H'
    obtain ⟨x3_1, x4_1, rfl, rfl, HA, HK1, ⟨m1, rfl⟩⟩ := hrel
    cases gk with
    | zero => exact absurd HA.out (by simp [commodatumlaw23_wide.l0])
    | succ k1 =>
      have H := HA.out
      clear HA
      simp only [commodatumlaw23_wide.l0] at H
      by_cases c2 : x4_1 < (l0.length : Int)
      · rw [if_pos c2] at H
        have c2b0 : decide (x4_1 < (l0.length : Int)) = true := decide_eq_true c2
        clear c2
        by_cases c3 : x3_1 ≤ 200
        · rw [if_pos c3] at H
          have c3b0 : decide (x3_1 ≤ 200) = true := decide_eq_true c3
          clear c3
          by_cases c4 : 0 ≤ x4_1
          · rw [if_pos c4] at H
            have c4b0 : decide (0 ≤ x4_1) = true := decide_eq_true c4
            clear c4
            have H' := Aside0.mk H
            clear H
            have p120 : 0 ≤ (x4_1 : Int) := of_decide_eq_true (by first | (with_reducible assumption) | assumption)
            have q120 : x4_1 < (l0.length : Int) := of_decide_eq_true (by first | (with_reducible assumption) | assumption)
            obtain ⟨ad120, A120_0, c120_0, e120, hx120_0, hl120_0, hi120_0⟩ := at_L2 HR0.out x4_1 p120 q120
            cases e120
            have HR120_0 := Aside0.mk hi120_0
            have HC120_0 := Aside0.mk hl120_0
            clear hi120_0 hl120_0
            replace p120 := eq_true p120
            replace q120 := eq_true q120
            go_wp2
            go_roundg k1
            case measure => have := HK1.out; omega
            case rel => exact ⟨(wrap64 (x3_1 + ((rd_L2 l0 x4_1).length : Int))), (wrap64 (x4_1 + 1)), (by first | rfl | (simp; done) | (simp [*]; done)), (by first | rfl | (simp; done) | (simp [*]; done)), H', ⟨by have := HK1.out; omega⟩, by repeat (first | exact Drawn0.refl _ | apply Drawn0.step)⟩
          · rw [if_neg c4] at H
            exact absurd H (by simp)
        · rw [if_neg c3] at H
          have c3b0 : decide (x3_1 ≤ 200) = false := decide_eq_false c3
          clear c3
          obtain rfl := Option.some.inj H
          go_wp2
          go_ret
          exact ⟨by first | rfl | (simp; done) | (simp [*]; done), by repeat (first | exact Drawn0.refl _ | apply Drawn0.step)⟩
      · rw [if_neg c2] at H
        have c2b0 : decide (x4_1 < (l0.length : Int)) = false := decide_eq_false c2
        clear c2
        obtain rfl := Option.some.inj H
        go_wp2
        go_ret
        exact ⟨by first | rfl | (simp; done) | (simp [*]; done), by repeat (first | exact Drawn0.refl _ | apply Drawn0.step)⟩

/-! ### commodatumref23_Blocks: function 37 -/
mutual
def commodatumref23_Blocks.l0 : Nat → List (List Int) → Int → List Bool → Int → Option (Bool)
  | 0, _, _, _, _ => none
  | k + 1, x0, x1, x5, x6 => if x6 < (x0.length : Int) then (if 0 ≤ x6 then (if ((rd_L2 x0 x6).length : Int) = 0 then (some false) else (commodatumref23_Blocks.l1 k x0 x1 x5 x6 0)) else (none)) else (some true)
def commodatumref23_Blocks.l1 : Nat → List (List Int) → Int → List Bool → Int → Int → Option (Bool)
  | 0, _, _, _, _, _ => none
  | k + 1, x0, x1, x5, x6, x7 => if 0 ≤ x6 then (if x6 < (x0.length : Int) then (if x7 < ((rd_L2 x0 x6).length : Int) then (if 0 ≤ x7 then (if (rd (rd_L2 x0 x6) x7) < 0 then (some false) else (if (rd (rd_L2 x0 x6) x7) ≥ x1 then (some false) else (if 0 ≤ (rd (rd_L2 x0 x6) x7) then (if (rd (rd_L2 x0 x6) x7) < (x5.length : Int) then (if rdOf false x5 (rd (rd_L2 x0 x6) x7) = true then (some false) else (if x7 > 0 then (if 0 ≤ (wrap64 (x7 - 1)) then (if (wrap64 (x7 - 1)) < ((rd_L2 x0 x6).length : Int) then (if (rd (rd_L2 x0 x6) x7) ≤ (rd (rd_L2 x0 x6) (wrap64 (x7 - 1))) then (some false) else (commodatumref23_Blocks.l1 k x0 x1 (x5.set ((rd (rd_L2 x0 x6) x7) : Int).toNat true) x6 (wrap64 (x7 + 1)))) else (none)) else (none)) else (commodatumref23_Blocks.l1 k x0 x1 (x5.set ((rd (rd_L2 x0 x6) x7) : Int).toNat true) x6 (wrap64 (x7 + 1))))) else (none)) else (none)))) else (none)) else (commodatumref23_Blocks.l0 k x0 x1 x5 (wrap64 (x6 + 1)))) else (none)) else (none)
end
def commodatumref23_Blocks.f (k : Nat) (l0 : List (List Int)) (a1 : Int) : Option (Bool) := if 0 ≤ a1 then (if (a1 : Int).toNat ≤ 281474976710656 then (commodatumref23_Blocks.l0 k l0 a1 (List.replicate (a1 : Int).toNat false) 0) else (none)) else (none)
theorem commodatumref23_Blocks.mono_l : ∀ k, (∀ y0 y1 y2 y3, LeO (commodatumref23_Blocks.l0 k y0 y1 y2 y3) (commodatumref23_Blocks.l0 (k + 1) y0 y1 y2 y3)) ∧ (∀ y0 y1 y2 y3 y4, LeO (commodatumref23_Blocks.l1 k y0 y1 y2 y3 y4) (commodatumref23_Blocks.l1 (k + 1) y0 y1 y2 y3 y4))
  | 0 => ⟨fun _ _ _ _ r h => by simp [commodatumref23_Blocks.l0] at h, fun _ _ _ _ _ r h => by simp [commodatumref23_Blocks.l1] at h⟩
  | k + 1 => by
    obtain ⟨ih0, ih1⟩ := commodatumref23_Blocks.mono_l k
    refine ⟨?_, ?_⟩
    · intro y0 y1 y2 y3
      unfold commodatumref23_Blocks.l0
      repeat' first
      | (with_reducible exact ih0 _ _ _ _)
      | (with_reducible exact ih1 _ _ _ _ _)
      | (with_reducible exact LeO.refl _)
      | (with_reducible exact LeO.none _)
      | (with_reducible refine LeO.ite ?_ ?_)
      | (with_reducible refine LeO.bind ?_ (fun _ => ?_))
      | exact ih0 _ _ _ _
      | exact ih1 _ _ _ _ _
      | exact LeO.none _
      | refine LeO.ite ?_ ?_
      | refine LeO.bind ?_ (fun _ => ?_)
    · intro y0 y1 y2 y3 y4
      unfold commodatumref23_Blocks.l1
      repeat' first
      | (with_reducible exact ih0 _ _ _ _)
      | (with_reducible exact ih1 _ _ _ _ _)
      | (with_reducible exact LeO.refl _)
      | (with_reducible exact LeO.none _)
      | (with_reducible refine LeO.ite ?_ ?_)
      | (with_reducible refine LeO.bind ?_ (fun _ => ?_))
      | exact ih0 _ _ _ _
      | exact ih1 _ _ _ _ _
      | exact LeO.none _
      | refine LeO.ite ?_ ?_
      | refine LeO.bind ?_ (fun _ => ?_)
theorem commodatumref23_Blocks.mono : ∀ a0 a1 k, LeO (commodatumref23_Blocks.f k a0 a1) (commodatumref23_Blocks.f (k + 1) a0 a1) := by
  intro a0 a1 k
  obtain ⟨ih0, ih1⟩ := commodatumref23_Blocks.mono_l k
  unfold commodatumref23_Blocks.f
  repeat' first
      | (with_reducible exact ih0 _ _ _ _)
      | (with_reducible exact ih1 _ _ _ _ _)
      | (with_reducible exact LeO.refl _)
      | (with_reducible exact LeO.none _)
      | (with_reducible refine LeO.ite ?_ ?_)
      | (with_reducible refine LeO.bind ?_ (fun _ => ?_))
      | exact ih0 _ _ _ _
      | exact ih1 _ _ _ _ _
      | exact LeO.none _
      | refine LeO.ite ?_ ?_
      | refine LeO.bind ?_ (fun _ => ?_)
set_option maxHeartbeats 8000000 in
set_option maxRecDepth 100000 in
theorem commodatumref23_Blocks.calls (k : Nat) (A0 : Option Addr) (c0 : Nat) (l0 : List (List Int)) (a1 : Int) (r : Bool) (w : World) (hr0 : Kd.C (Kd.slice 3 (Kd.int .i64)) w A0 l0.length l0) (hc0 : l0.length ≤ c0) (h : commodatumref23_Blocks.f k l0 a1 = some r) :
    Calls Try.prog 37 #[.slice A0 l0.length c0, .int .i64 a1] w fun e w' => e = .returned (.bool r) ∧ Below w.heap.size w w' := by
  have HR0 := Aside0.mk hr0
  have HC0 := Aside0.mk hc0
  clear hr0 hc0
  have HB := Aside0.mk (Below.refl w.heap.size w)
  have H : (if 0 ≤ a1 then (if (a1 : Int).toNat ≤ 281474976710656 then (commodatumref23_Blocks.l0 k l0 a1 (List.replicate (a1 : Int).toNat false) 0) else (none)) else (none)) = some r := h
  clear h
  by_cases c3 : 0 ≤ a1
  · rw [if_pos c3] at H
    have c3b0 := eq_true c3
    have c3b1 : decide (0 ≤ a1) = true := decide_eq_true c3
    clear c3
    by_cases c4 : (a1 : Int).toNat ≤ 281474976710656
    · rw [if_pos c4] at H
      have c4b0 := eq_true c4
      have c4b1 : decide ((a1 : Int).toNat ≤ 281474976710656) = true := decide_eq_true c4
      clear c4
      obtain ⟨y121, hy121⟩ : ∃ y_ : List Bool, y_ = (List.replicate (a1 : Int).toNat false) := ⟨_, rfl⟩
      replace H : (commodatumref23_Blocks.l0 k l0 a1 y121 0) = some r := by first | (rw [hy121]; with_reducible exact H) | (have H2_ := (Option.bind_some _ _).symm.trans H; rw [hy121]; with_reducible exact H2_) | (have H2_ := (Option.bind_some _ _).symm.trans H; with_reducible exact H2_) | with_reducible exact H | (rw [hy121]; exact H) | exact H
      have Ny121 := Aside0.mk hy121
      clear hy121
      have H' := Aside0.mk H
      clear H
      go_enter Try.func37, Try.ntmps37
      go_wp2_with (first | ((with_reducible refine gate_dst (N := 10) rfl ?_); refine Kd.R_make Kd.bool _ 4 rfl (N := 10) rfl 29 _ _ rfl a1 rfl rfl Try.underlying29 (.bool false) 1 info4 rfl (by decide) (by omega) false (ok := fun _ => True) (okp := fun _ => True) rfl (fun _ hk => hk) trivial (of_decide_eq_true (by first | (with_reducible assumption) | assumption)) (Nat.le_trans (Nat.mul_le_mul_right _ (of_decide_eq_true (by first | (with_reducible assumption) | assumption) : a1.toNat ≤ 281474976710656)) (by omega)) (Below.refl _ _) (Nat.le_refl _) ?_; intro v122 w5 ho6 hb hg_ hnew_; clear hg_ hnew_; (first | rw [← Ny121.out] at ho6 | (simp only [Int.reduceToNat] at ho6; rw [← Ny121.out] at ho6)); have n0_ := Aside0.mk (Kd.R_lower ho6 (below_size (by repeat (first | (with_reducible first | exact HB.out | apply below_alloc | apply pw_below_drewN | apply below_drew1) | exact HB.out)))); have n1_ := Aside0.mk (below_step (by repeat (first | (with_reducible first | exact HB.out | apply below_alloc | apply pw_below_drewN | apply below_drew1) | exact HB.out)) hb); clear HB; have HO123 := n0_; have HB := n1_; clear n0_ n1_; clear hb ho6))
      go_loopg [6] k (fun kq v6 w' => ∃ (x5_1 : List Bool) (x6_1 : Int), v6 = .int .i64 x6_1 ∧ Aside0 (commodatumref23_Blocks.l0 kq l0 a1 x5_1 x6_1 = some r) ∧ Aside0 (kq ≤ k) ∧ Aside0 (Kd.R Kd.bool 4 w' w.heap.size (fun _ => True) v122 x5_1) ∧ Aside0 (Below w.heap.size w w'))
      case atStart => exact ⟨(y121), (0), (by first | rfl | (simp; done) | (simp [*]; done)), H', ⟨Nat.le_refl _⟩, ⟨by (with_reducible repeat (first | apply Kd.R_alloc | apply Kd.R_drewN | apply Kd.R_drew)); exact HO123.out⟩, ⟨by repeat (first | (with_reducible first | exact HB.out | apply below_alloc | apply pw_below_drewN | apply below_drew1) | exact HB.out)⟩⟩
      case round =>
        clear H'
        try clear p2
        try clear c3
        try clear c3b0
        try clear c3b1
        try clear c4
        try clear c4b0
        try clear c4b1
        obtain ⟨x5_1, x6_1, rfl, HA, HK1, HO_5, HB⟩ := hrel
        cases gk with
        | zero => exact absurd HA.out (by simp [commodatumref23_Blocks.l0])
        | succ k1 =>
          have H := HA.out
          clear HA
          simp only [commodatumref23_Blocks.l0] at H
          by_cases c7 : x6_1 < (l0.length : Int)
          · rw [if_pos c7] at H
            have c7b0 : decide (x6_1 < (l0.length : Int)) = true := decide_eq_true c7
            clear c7
            by_cases c8 : 0 ≤ x6_1
            · rw [if_pos c8] at H
              have c8b0 : decide (0 ≤ x6_1) = true := decide_eq_true c8
              clear c8
              by_cases c9 : ((rd_L2 l0 x6_1).length : Int) = 0
              · rw [if_pos c9] at H
                have c9b0 : (((rd_L2 l0 x6_1).length : Int) == 0) = true := beq_iff_eq.mpr c9
                have c9b1 : (((rd_L2 l0 x6_1).length : Int) != 0) = false := bne_eq_false_iff_eq.mpr c9
                clear c9
                obtain rfl := Option.some.inj H
                have p124 : 0 ≤ (x6_1 : Int) := of_decide_eq_true (by first | (with_reducible assumption) | assumption)
                have q124 : x6_1 < (l0.length : Int) := of_decide_eq_true (by first | (with_reducible assumption) | assumption)
                obtain ⟨ad124, A124_0, c124_0, e124, hx124_0, hl124_0, hi124_0⟩ := at_L2 HR0.out x6_1 p124 q124
                cases e124
                replace hx124_0 := (HB.out.cell (World.block_lt_of_cell? w _ hx124_0)).trans hx124_0
                have HR124_0 := Aside0.mk hi124_0
                have HC124_0 := Aside0.mk hl124_0
                clear hi124_0 hl124_0
                replace p124 := eq_true p124
                replace q124 := eq_true q124
                go_wp2
                go_ret
                exact ⟨by first | rfl | (simp [errW_none, errW_some] <;> rfl) | (simp [*, errW_none, errW_some] <;> rfl), by repeat (first | (with_reducible first | exact HB.out | apply below_alloc | apply pw_below_drewN | apply below_drew1) | exact HB.out)⟩
              · rw [if_neg c9] at H
                have c9b0 : (((rd_L2 l0 x6_1).length : Int) == 0) = false := beq_eq_false_iff_ne.mpr c9
                have c9b1 : (((rd_L2 l0 x6_1).length : Int) != 0) = true := bne_iff_ne.mpr c9
                have c9b2 : ¬ ((rd_L2 l0 x6_1) = []) := fun h_ => c9 (by rw [h_]; rfl)
                have H' := Aside0.mk H
                clear H
                have p124 : 0 ≤ (x6_1 : Int) := of_decide_eq_true (by first | (with_reducible assumption) | assumption)
                have q124 : x6_1 < (l0.length : Int) := of_decide_eq_true (by first | (with_reducible assumption) | assumption)
                obtain ⟨ad124, A124_0, c124_0, e124, hx124_0, hl124_0, hi124_0⟩ := at_L2 HR0.out x6_1 p124 q124
                cases e124
                replace hx124_0 := (HB.out.cell (World.block_lt_of_cell? w _ hx124_0)).trans hx124_0
                have HR124_0 := Aside0.mk hi124_0
                have HC124_0 := Aside0.mk hl124_0
                clear hi124_0 hl124_0
                replace p124 := eq_true p124
                replace q124 := eq_true q124
                go_wp2
                go_loopg [7] k1 (fun kq v7 w' => ∃ (x5_2 : List Bool) (x7_2 : Int), v7 = .int .i64 x7_2 ∧ Aside0 (commodatumref23_Blocks.l1 kq l0 a1 x5_2 x6_1 x7_2 = some r) ∧ Aside0 (kq ≤ k1) ∧ Aside0 (Kd.R Kd.bool 4 w' w.heap.size (fun _ => True) v122 x5_2) ∧ Aside0 (Below w.heap.size w w'))
                case atStart => exact ⟨(x5_1), (0), (by first | rfl | (simp; done) | (simp [*]; done)), H', ⟨Nat.le_refl _⟩, ⟨by (with_reducible repeat (first | apply Kd.R_alloc | apply Kd.R_drewN | apply Kd.R_drew)); exact HO_5.out⟩, ⟨by repeat (first | (with_reducible first | exact HB.out | apply below_alloc | apply pw_below_drewN | apply below_drew1) | exact HB.out)⟩⟩
                case round =>
                  clear H'
                  try clear c1
                  try clear p1
                  try clear q1
                  try clear hx1
                  try clear p2
                  try clear c3
                  try clear c3b0
                  try clear c3b1
                  try clear c4
                  try clear c4b0
                  try clear c4b1
                  try clear c7
                  try clear c7b0
                  try clear c8
                  try clear c8b0
                  try clear c9
                  try clear c9b0
                  try clear c9b1
                  try clear c9b2
                  try clear hx124_0
                  try clear p124
                  try clear p2
                  try clear q124
                  obtain ⟨x5_2, x7_2, rfl, HA, HK2, HO_5, HB⟩ := hrel
                  cases gk with
                  | zero => exact absurd HA.out (by simp [commodatumref23_Blocks.l1])
                  | succ k2 =>
                    have H := HA.out
                    clear HA
                    simp only [commodatumref23_Blocks.l1] at H
                    by_cases c10 : 0 ≤ x6_1
                    · rw [if_pos c10] at H
                      have c10b0 : decide (0 ≤ x6_1) = true := decide_eq_true c10
                      clear c10
                      by_cases c11 : x6_1 < (l0.length : Int)
                      · rw [if_pos c11] at H
                        have c11b0 : decide (x6_1 < (l0.length : Int)) = true := decide_eq_true c11
                        clear c11
                        by_cases c12 : x7_2 < ((rd_L2 l0 x6_1).length : Int)
                        · rw [if_pos c12] at H
                          have c12b0 : decide (x7_2 < ((rd_L2 l0 x6_1).length : Int)) = true := decide_eq_true c12
                          clear c12
                          by_cases c13 : 0 ≤ x7_2
                          · rw [if_pos c13] at H
                            have c13b0 : decide (0 ≤ x7_2) = true := decide_eq_true c13
                            clear c13
                            by_cases c14 : (rd (rd_L2 l0 x6_1) x7_2) < 0
                            · rw [if_pos c14] at H
                              have c14b0 : decide ((rd (rd_L2 l0 x6_1) x7_2) < 0) = true := decide_eq_true c14
                              clear c14
                              obtain rfl := Option.some.inj H
                              have p125 : 0 ≤ (x6_1 : Int) := of_decide_eq_true (by first | (with_reducible assumption) | assumption)
                              have q125 : x6_1 < (l0.length : Int) := of_decide_eq_true (by first | (with_reducible assumption) | assumption)
                              obtain ⟨ad125, A125_0, c125_0, e125, hx125_0, hl125_0, hi125_0⟩ := at_L2 HR0.out x6_1 p125 q125
                              obtain rfl : ad124 = ad125 := (by injection e125)
                              replace hx125_0 := (HB.out.cell (World.block_lt_of_cell? w _ hx125_0)).trans hx125_0
                              have HR125_0 := Aside0.mk hi125_0
                              have HC125_0 := Aside0.mk hl125_0
                              clear hi125_0 hl125_0
                              replace p125 := eq_true p125
                              replace q125 := eq_true q125
                              have p126 : 0 ≤ (x6_1 : Int) := of_decide_eq_true (by first | (with_reducible assumption) | assumption)
                              have q126 : x6_1 < (l0.length : Int) := of_decide_eq_true (by first | (with_reducible assumption) | assumption)
                              obtain ⟨ad126, A126_0, c126_0, e126, hx126_0, hl126_0, hi126_0⟩ := at_L2 HR0.out x6_1 p126 q126
                              obtain rfl : ad124 = ad126 := (by injection e126)
                              replace hx126_0 := (HB.out.cell (World.block_lt_of_cell? w _ hx126_0)).trans hx126_0
                              have HR126_0 := Aside0.mk hi126_0
                              have HC126_0 := Aside0.mk hl126_0
                              clear hi126_0 hl126_0
                              replace p126 := eq_true p126
                              replace q126 := eq_true q126
                              have ea_ := Option.some.inj (hx125_0.symm.trans hx126_0)
                              injection ea_ with ea_ en_ ec_
                              subst ea_
                              subst ec_
                              clear en_
                              have p127 : 0 ≤ (x7_2 : Int) := of_decide_eq_true (by first | (with_reducible assumption) | assumption)
                              have q127 : x7_2 < ((rd_L2 l0 x6_1).length : Int) := of_decide_eq_true (by first | (with_reducible assumption) | assumption)
                              obtain ⟨ad127, e127, hx127_0⟩ := Kd.at_int HR126_0.out x7_2 p127 q127
                              cases e127
                              replace hx127_0 := (HB.out.cell (World.block_lt_of_cell? w _ hx127_0)).trans hx127_0
                              replace p127 := eq_true p127
                              replace q127 := eq_true q127
                              go_wp2
                              go_ret
                              exact ⟨by first | rfl | (simp [errW_none, errW_some] <;> rfl) | (simp [*, errW_none, errW_some] <;> rfl), by repeat (first | (with_reducible first | exact HB.out | apply below_alloc | apply pw_below_drewN | apply below_drew1) | exact HB.out)⟩
                            · rw [if_neg c14] at H
                              have c14b0 : decide ((rd (rd_L2 l0 x6_1) x7_2) < 0) = false := decide_eq_false c14
                              clear c14
                              by_cases c15 : (rd (rd_L2 l0 x6_1) x7_2) ≥ a1
                              · rw [if_pos c15] at H
                                have c15b0 : decide (a1 ≤ (rd (rd_L2 l0 x6_1) x7_2)) = true := decide_eq_true c15
                                clear c15
                                obtain rfl := Option.some.inj H
                                have p125 : 0 ≤ (x6_1 : Int) := of_decide_eq_true (by first | (with_reducible assumption) | assumption)
                                have q125 : x6_1 < (l0.length : Int) := of_decide_eq_true (by first | (with_reducible assumption) | assumption)
                                obtain ⟨ad125, A125_0, c125_0, e125, hx125_0, hl125_0, hi125_0⟩ := at_L2 HR0.out x6_1 p125 q125
                                obtain rfl : ad124 = ad125 := (by injection e125)
                                replace hx125_0 := (HB.out.cell (World.block_lt_of_cell? w _ hx125_0)).trans hx125_0
                                have HR125_0 := Aside0.mk hi125_0
                                have HC125_0 := Aside0.mk hl125_0
                                clear hi125_0 hl125_0
                                replace p125 := eq_true p125
                                replace q125 := eq_true q125
                                have p126 : 0 ≤ (x6_1 : Int) := of_decide_eq_true (by first | (with_reducible assumption) | assumption)
                                have q126 : x6_1 < (l0.length : Int) := of_decide_eq_true (by first | (with_reducible assumption) | assumption)
                                obtain ⟨ad126, A126_0, c126_0, e126, hx126_0, hl126_0, hi126_0⟩ := at_L2 HR0.out x6_1 p126 q126
                                obtain rfl : ad124 = ad126 := (by injection e126)
                                replace hx126_0 := (HB.out.cell (World.block_lt_of_cell? w _ hx126_0)).trans hx126_0
                                have HR126_0 := Aside0.mk hi126_0
                                have HC126_0 := Aside0.mk hl126_0
                                clear hi126_0 hl126_0
                                replace p126 := eq_true p126
                                replace q126 := eq_true q126
                                have ea_ := Option.some.inj (hx125_0.symm.trans hx126_0)
                                injection ea_ with ea_ en_ ec_
                                subst ea_
                                subst ec_
                                clear en_
                                have p127 : 0 ≤ (x7_2 : Int) := of_decide_eq_true (by first | (with_reducible assumption) | assumption)
                                have q127 : x7_2 < ((rd_L2 l0 x6_1).length : Int) := of_decide_eq_true (by first | (with_reducible assumption) | assumption)
                                obtain ⟨ad127, e127, hx127_0⟩ := Kd.at_int HR126_0.out x7_2 p127 q127
                                cases e127
                                replace hx127_0 := (HB.out.cell (World.block_lt_of_cell? w _ hx127_0)).trans hx127_0
                                replace p127 := eq_true p127
                                replace q127 := eq_true q127
                                go_wp2
                                go_ret
                                exact ⟨by first | rfl | (simp [errW_none, errW_some] <;> rfl) | (simp [*, errW_none, errW_some] <;> rfl), by repeat (first | (with_reducible first | exact HB.out | apply below_alloc | apply pw_below_drewN | apply below_drew1) | exact HB.out)⟩
                              · rw [if_neg c15] at H
                                have c15b0 : decide (a1 ≤ (rd (rd_L2 l0 x6_1) x7_2)) = false := decide_eq_false c15
                                clear c15
                                by_cases c16 : 0 ≤ (rd (rd_L2 l0 x6_1) x7_2)
                                · rw [if_pos c16] at H
                                  have c16b0 : decide (0 ≤ (rd (rd_L2 l0 x6_1) x7_2)) = true := decide_eq_true c16
                                  clear c16
                                  by_cases c17 : (rd (rd_L2 l0 x6_1) x7_2) < (x5_2.length : Int)
                                  · rw [if_pos c17] at H
                                    have c17b0 : decide ((rd (rd_L2 l0 x6_1) x7_2) < (x5_2.length : Int)) = true := decide_eq_true c17
                                    clear c17
                                    obtain ⟨bq18, hbq18⟩ : ∃ b_ : Bool, b_ = (rdOf false x5_2 (rd (rd_L2 l0 x6_1) x7_2)) := ⟨_, rfl⟩
                                    replace H : (if bq18 = true then (some false) else (if x7_2 > 0 then (if 0 ≤ (wrap64 (x7_2 - 1)) then (if (wrap64 (x7_2 - 1)) < ((rd_L2 l0 x6_1).length : Int) then (if (rd (rd_L2 l0 x6_1) x7_2) ≤ (rd (rd_L2 l0 x6_1) (wrap64 (x7_2 - 1))) then (some false) else (commodatumref23_Blocks.l1 k2 l0 a1 (x5_2.set ((rd (rd_L2 l0 x6_1) x7_2) : Int).toNat true) x6_1 (wrap64 (x7_2 + 1)))) else (none)) else (none)) else (commodatumref23_Blocks.l1 k2 l0 a1 (x5_2.set ((rd (rd_L2 l0 x6_1) x7_2) : Int).toNat true) x6_1 (wrap64 (x7_2 + 1))))) = some r := by rw [← hbq18] at H; exact H
                                    have Nbq18 := Aside0.mk hbq18
                                    clear hbq18
                                    by_cases c19 : bq18 = true
                                    · subst c19
                                      have H1 : (some false) = some r := by rw [if_pos rfl] at H; exact H
                                      clear H
                                      have H := H1
                                      clear H1
                                      obtain rfl := Option.some.inj H
                                      have p125 : 0 ≤ (x6_1 : Int) := of_decide_eq_true (by first | (with_reducible assumption) | assumption)
                                      have q125 : x6_1 < (l0.length : Int) := of_decide_eq_true (by first | (with_reducible assumption) | assumption)
                                      obtain ⟨ad125, A125_0, c125_0, e125, hx125_0, hl125_0, hi125_0⟩ := at_L2 HR0.out x6_1 p125 q125
                                      obtain rfl : ad124 = ad125 := (by injection e125)
                                      replace hx125_0 := (HB.out.cell (World.block_lt_of_cell? w _ hx125_0)).trans hx125_0
                                      have HR125_0 := Aside0.mk hi125_0
                                      have HC125_0 := Aside0.mk hl125_0
                                      clear hi125_0 hl125_0
                                      replace p125 := eq_true p125
                                      replace q125 := eq_true q125
                                      have p126 : 0 ≤ (x6_1 : Int) := of_decide_eq_true (by first | (with_reducible assumption) | assumption)
                                      have q126 : x6_1 < (l0.length : Int) := of_decide_eq_true (by first | (with_reducible assumption) | assumption)
                                      obtain ⟨ad126, A126_0, c126_0, e126, hx126_0, hl126_0, hi126_0⟩ := at_L2 HR0.out x6_1 p126 q126
                                      obtain rfl : ad124 = ad126 := (by injection e126)
                                      replace hx126_0 := (HB.out.cell (World.block_lt_of_cell? w _ hx126_0)).trans hx126_0
                                      have HR126_0 := Aside0.mk hi126_0
                                      have HC126_0 := Aside0.mk hl126_0
                                      clear hi126_0 hl126_0
                                      replace p126 := eq_true p126
                                      replace q126 := eq_true q126
                                      have ea_ := Option.some.inj (hx125_0.symm.trans hx126_0)
                                      injection ea_ with ea_ en_ ec_
                                      subst ea_
                                      subst ec_
                                      clear en_
                                      have p127 : 0 ≤ (x7_2 : Int) := of_decide_eq_true (by first | (with_reducible assumption) | assumption)
                                      have q127 : x7_2 < ((rd_L2 l0 x6_1).length : Int) := of_decide_eq_true (by first | (with_reducible assumption) | assumption)
                                      obtain ⟨ad127, e127, hx127_0⟩ := Kd.at_int HR126_0.out x7_2 p127 q127
                                      cases e127
                                      replace hx127_0 := (HB.out.cell (World.block_lt_of_cell? w _ hx127_0)).trans hx127_0
                                      replace p127 := eq_true p127
                                      replace q127 := eq_true q127
                                      obtain ⟨Ao20, co20, eo20⟩ := Kd.R_slice HO_5.out
                                      subst eo20
                                      have p128 : 0 ≤ ((rd (rd_L2 l0 x6_1) x7_2) : Int) := of_decide_eq_true (by first | (with_reducible assumption) | assumption)
                                      have q128 : (rd (rd_L2 l0 x6_1) x7_2) < (x5_2.length : Int) := of_decide_eq_true (by first | (with_reducible assumption) | assumption)
                                      obtain ⟨ad128, e128, hx128_0⟩ := Kd.at_bool (Kd.R_reads' HO_5.out).2.2 (rd (rd_L2 l0 x6_1) x7_2) p128 q128
                                      (try rw [← Nbq18.out] at hx128_0)
                                      cases e128
                                      replace p128 := eq_true p128
                                      replace q128 := eq_true q128
                                      go_wp2
                                      go_ret
                                      exact ⟨by first | rfl | (simp [errW_none, errW_some] <;> rfl) | (simp [*, errW_none, errW_some] <;> rfl), by repeat (first | (with_reducible first | exact HB.out | apply below_alloc | apply pw_below_drewN | apply below_drew1) | exact HB.out)⟩
                                    · replace c19 := Bool.eq_false_iff.mpr c19
                                      subst c19
                                      have H1 : (if x7_2 > 0 then (if 0 ≤ (wrap64 (x7_2 - 1)) then (if (wrap64 (x7_2 - 1)) < ((rd_L2 l0 x6_1).length : Int) then (if (rd (rd_L2 l0 x6_1) x7_2) ≤ (rd (rd_L2 l0 x6_1) (wrap64 (x7_2 - 1))) then (some false) else (commodatumref23_Blocks.l1 k2 l0 a1 (x5_2.set ((rd (rd_L2 l0 x6_1) x7_2) : Int).toNat true) x6_1 (wrap64 (x7_2 + 1)))) else (none)) else (none)) else (commodatumref23_Blocks.l1 k2 l0 a1 (x5_2.set ((rd (rd_L2 l0 x6_1) x7_2) : Int).toNat true) x6_1 (wrap64 (x7_2 + 1)))) = some r := by rw [if_neg (show ¬ (false = true) by decide)] at H; exact H
                                      clear H
                                      have H := H1
                                      clear H1
                                      by_cases c21 : x7_2 > 0
                                      · rw [if_pos c21] at H
                                        have c21b0 : decide (0 < x7_2) = true := decide_eq_true c21
                                        clear c21
                                        obtain ⟨ji22, hji22⟩ : ∃ j_ : Int, (wrap64 (x7_2 - 1)) = j_ := ⟨_, rfl⟩
                                        replace H : (if 0 ≤ (ji22) then (if (ji22) < ((rd_L2 l0 x6_1).length : Int) then (if (rd (rd_L2 l0 x6_1) x7_2) ≤ (rd (rd_L2 l0 x6_1) (ji22)) then (some false) else (commodatumref23_Blocks.l1 k2 l0 a1 (x5_2.set ((rd (rd_L2 l0 x6_1) x7_2) : Int).toNat true) x6_1 (wrap64 (x7_2 + 1)))) else (none)) else (none)) = some r := by first | (rw [hji22] at H; exact H) | (simp only [hji22] at H ⊢; exact H)
                                        have hji22w : (IntKind.i64.wrap (x7_2 - 1)) = ji22 := (i64_w _).trans hji22
                                        by_cases c23 : 0 ≤ (ji22)
                                        · rw [if_pos c23] at H
                                          have c23b0 : decide (0 ≤ (ji22)) = true := decide_eq_true c23
                                          clear c23
                                          by_cases c24 : (ji22) < ((rd_L2 l0 x6_1).length : Int)
                                          · rw [if_pos c24] at H
                                            have c24b0 : decide ((ji22) < ((rd_L2 l0 x6_1).length : Int)) = true := decide_eq_true c24
                                            clear c24
                                            by_cases c25 : (rd (rd_L2 l0 x6_1) x7_2) ≤ (rd (rd_L2 l0 x6_1) (ji22))
                                            · rw [if_pos c25] at H
                                              have c25b0 : decide ((rd (rd_L2 l0 x6_1) x7_2) ≤ (rd (rd_L2 l0 x6_1) (ji22))) = true := decide_eq_true c25
                                              clear c25
                                              obtain rfl := Option.some.inj H
                                              have p125 : 0 ≤ (x6_1 : Int) := of_decide_eq_true (by first | (with_reducible assumption) | assumption)
                                              have q125 : x6_1 < (l0.length : Int) := of_decide_eq_true (by first | (with_reducible assumption) | assumption)
                                              obtain ⟨ad125, A125_0, c125_0, e125, hx125_0, hl125_0, hi125_0⟩ := at_L2 HR0.out x6_1 p125 q125
                                              obtain rfl : ad124 = ad125 := (by injection e125)
                                              replace hx125_0 := (HB.out.cell (World.block_lt_of_cell? w _ hx125_0)).trans hx125_0
                                              have HR125_0 := Aside0.mk hi125_0
                                              have HC125_0 := Aside0.mk hl125_0
                                              clear hi125_0 hl125_0
                                              replace p125 := eq_true p125
                                              replace q125 := eq_true q125
                                              have p126 : 0 ≤ (x6_1 : Int) := of_decide_eq_true (by first | (with_reducible assumption) | assumption)
                                              have q126 : x6_1 < (l0.length : Int) := of_decide_eq_true (by first | (with_reducible assumption) | assumption)
                                              obtain ⟨ad126, A126_0, c126_0, e126, hx126_0, hl126_0, hi126_0⟩ := at_L2 HR0.out x6_1 p126 q126
                                              obtain rfl : ad124 = ad126 := (by injection e126)
                                              replace hx126_0 := (HB.out.cell (World.block_lt_of_cell? w _ hx126_0)).trans hx126_0
                                              have HR126_0 := Aside0.mk hi126_0
                                              have HC126_0 := Aside0.mk hl126_0
                                              clear hi126_0 hl126_0
                                              replace p126 := eq_true p126
                                              replace q126 := eq_true q126
                                              have ea_ := Option.some.inj (hx125_0.symm.trans hx126_0)
                                              injection ea_ with ea_ en_ ec_
                                              subst ea_
                                              subst ec_
                                              clear en_
                                              have p127 : 0 ≤ (x7_2 : Int) := of_decide_eq_true (by first | (with_reducible assumption) | assumption)
                                              have q127 : x7_2 < ((rd_L2 l0 x6_1).length : Int) := of_decide_eq_true (by first | (with_reducible assumption) | assumption)
                                              obtain ⟨ad127, e127, hx127_0⟩ := Kd.at_int HR126_0.out x7_2 p127 q127
                                              cases e127
                                              replace hx127_0 := (HB.out.cell (World.block_lt_of_cell? w _ hx127_0)).trans hx127_0
                                              replace p127 := eq_true p127
                                              replace q127 := eq_true q127
                                              obtain ⟨Ao26, co26, eo26⟩ := Kd.R_slice HO_5.out
                                              subst eo26
                                              have p128 : 0 ≤ ((rd (rd_L2 l0 x6_1) x7_2) : Int) := of_decide_eq_true (by first | (with_reducible assumption) | assumption)
                                              have q128 : (rd (rd_L2 l0 x6_1) x7_2) < (x5_2.length : Int) := of_decide_eq_true (by first | (with_reducible assumption) | assumption)
                                              obtain ⟨ad128, e128, hx128_0⟩ := Kd.at_bool (Kd.R_reads' HO_5.out).2.2 (rd (rd_L2 l0 x6_1) x7_2) p128 q128
                                              (try rw [← Nbq18.out] at hx128_0)
                                              cases e128
                                              replace p128 := eq_true p128
                                              replace q128 := eq_true q128
                                              have p129 : 0 ≤ (x6_1 : Int) := of_decide_eq_true (by first | (with_reducible assumption) | assumption)
                                              have q129 : x6_1 < (l0.length : Int) := of_decide_eq_true (by first | (with_reducible assumption) | assumption)
                                              obtain ⟨ad129, A129_0, c129_0, e129, hx129_0, hl129_0, hi129_0⟩ := at_L2 HR0.out x6_1 p129 q129
                                              obtain rfl : ad124 = ad129 := (by injection e129)
                                              replace hx129_0 := (HB.out.cell (World.block_lt_of_cell? w _ hx129_0)).trans hx129_0
                                              have HR129_0 := Aside0.mk hi129_0
                                              have HC129_0 := Aside0.mk hl129_0
                                              clear hi129_0 hl129_0
                                              replace p129 := eq_true p129
                                              replace q129 := eq_true q129
                                              have ea_ := Option.some.inj (hx125_0.symm.trans hx129_0)
                                              injection ea_ with ea_ en_ ec_
                                              subst ea_
                                              subst ec_
                                              clear en_
                                              have p130 : 0 ≤ ((ji22) : Int) := of_decide_eq_true (by first | (with_reducible assumption) | assumption)
                                              have q130 : (ji22) < ((rd_L2 l0 x6_1).length : Int) := of_decide_eq_true (by first | (with_reducible assumption) | assumption)
                                              obtain ⟨ad130, e130, hx130_0⟩ := Kd.at_int HR129_0.out (ji22) p130 q130
                                              cases e130
                                              replace hx130_0 := (HB.out.cell (World.block_lt_of_cell? w _ hx130_0)).trans hx130_0
                                              replace p130 := eq_true p130
                                              replace q130 := eq_true q130
                                              go_wp2
                                              go_ret
                                              exact ⟨by first | rfl | (simp [errW_none, errW_some] <;> rfl) | (simp only [← hji22]; first | rfl | (simp [errW_none, errW_some] <;> rfl)) | (simp [*, errW_none, errW_some] <;> rfl), by repeat (first | (with_reducible first | exact HB.out | apply below_alloc | apply pw_below_drewN | apply below_drew1) | exact HB.out)⟩
                                            · rw [if_neg c25] at H
                                              have c25b0 : decide ((rd (rd_L2 l0 x6_1) x7_2) ≤ (rd (rd_L2 l0 x6_1) (ji22))) = false := decide_eq_false c25
                                              clear c25
                                              obtain ⟨y131, hy131⟩ : ∃ y_ : List Bool, y_ = (x5_2.set ((rd (rd_L2 l0 x6_1) x7_2) : Int).toNat true) := ⟨_, rfl⟩
                                              replace H : (commodatumref23_Blocks.l1 k2 l0 a1 y131 x6_1 (wrap64 (x7_2 + 1))) = some r := by first | (rw [hy131]; with_reducible exact H) | (have H2_ := (Option.bind_some _ _).symm.trans H; rw [hy131]; with_reducible exact H2_) | (have H2_ := (Option.bind_some _ _).symm.trans H; with_reducible exact H2_) | with_reducible exact H | (rw [hy131]; exact H) | exact H
                                              have Ny131 := Aside0.mk hy131
                                              clear hy131
                                              have H' := Aside0.mk H
                                              clear H
                                              have p125 : 0 ≤ (x6_1 : Int) := of_decide_eq_true (by first | (with_reducible assumption) | assumption)
                                              have q125 : x6_1 < (l0.length : Int) := of_decide_eq_true (by first | (with_reducible assumption) | assumption)
                                              obtain ⟨ad125, A125_0, c125_0, e125, hx125_0, hl125_0, hi125_0⟩ := at_L2 HR0.out x6_1 p125 q125
                                              obtain rfl : ad124 = ad125 := (by injection e125)
                                              replace hx125_0 := (HB.out.cell (World.block_lt_of_cell? w _ hx125_0)).trans hx125_0
                                              have HR125_0 := Aside0.mk hi125_0
                                              have HC125_0 := Aside0.mk hl125_0
                                              clear hi125_0 hl125_0
                                              replace p125 := eq_true p125
                                              replace q125 := eq_true q125
                                              have p126 : 0 ≤ (x6_1 : Int) := of_decide_eq_true (by first | (with_reducible assumption) | assumption)
                                              have q126 : x6_1 < (l0.length : Int) := of_decide_eq_true (by first | (with_reducible assumption) | assumption)
                                              obtain ⟨ad126, A126_0, c126_0, e126, hx126_0, hl126_0, hi126_0⟩ := at_L2 HR0.out x6_1 p126 q126
                                              obtain rfl : ad124 = ad126 := (by injection e126)
                                              replace hx126_0 := (HB.out.cell (World.block_lt_of_cell? w _ hx126_0)).trans hx126_0
                                              have HR126_0 := Aside0.mk hi126_0
                                              have HC126_0 := Aside0.mk hl126_0
                                              clear hi126_0 hl126_0
                                              replace p126 := eq_true p126
                                              replace q126 := eq_true q126
                                              have ea_ := Option.some.inj (hx125_0.symm.trans hx126_0)
                                              injection ea_ with ea_ en_ ec_
                                              subst ea_
                                              subst ec_
                                              clear en_
                                              have p127 : 0 ≤ (x7_2 : Int) := of_decide_eq_true (by first | (with_reducible assumption) | assumption)
                                              have q127 : x7_2 < ((rd_L2 l0 x6_1).length : Int) := of_decide_eq_true (by first | (with_reducible assumption) | assumption)
                                              obtain ⟨ad127, e127, hx127_0⟩ := Kd.at_int HR126_0.out x7_2 p127 q127
                                              cases e127
                                              replace hx127_0 := (HB.out.cell (World.block_lt_of_cell? w _ hx127_0)).trans hx127_0
                                              replace p127 := eq_true p127
                                              replace q127 := eq_true q127
                                              obtain ⟨Ao28, co28, eo28⟩ := Kd.R_slice HO_5.out
                                              subst eo28
                                              have p128 : 0 ≤ ((rd (rd_L2 l0 x6_1) x7_2) : Int) := of_decide_eq_true (by first | (with_reducible assumption) | assumption)
                                              have q128 : (rd (rd_L2 l0 x6_1) x7_2) < (x5_2.length : Int) := of_decide_eq_true (by first | (with_reducible assumption) | assumption)
                                              obtain ⟨ad128, e128, hx128_0⟩ := Kd.at_bool (Kd.R_reads' HO_5.out).2.2 (rd (rd_L2 l0 x6_1) x7_2) p128 q128
                                              (try rw [← Nbq18.out] at hx128_0)
                                              cases e128
                                              replace p128 := eq_true p128
                                              replace q128 := eq_true q128
                                              have p129 : 0 ≤ (x6_1 : Int) := of_decide_eq_true (by first | (with_reducible assumption) | assumption)
                                              have q129 : x6_1 < (l0.length : Int) := of_decide_eq_true (by first | (with_reducible assumption) | assumption)
                                              obtain ⟨ad129, A129_0, c129_0, e129, hx129_0, hl129_0, hi129_0⟩ := at_L2 HR0.out x6_1 p129 q129
                                              obtain rfl : ad124 = ad129 := (by injection e129)
                                              replace hx129_0 := (HB.out.cell (World.block_lt_of_cell? w _ hx129_0)).trans hx129_0
                                              have HR129_0 := Aside0.mk hi129_0
                                              have HC129_0 := Aside0.mk hl129_0
                                              clear hi129_0 hl129_0
                                              replace p129 := eq_true p129
                                              replace q129 := eq_true q129
                                              have ea_ := Option.some.inj (hx125_0.symm.trans hx129_0)
                                              injection ea_ with ea_ en_ ec_
                                              subst ea_
                                              subst ec_
                                              clear en_
                                              have p130 : 0 ≤ ((ji22) : Int) := of_decide_eq_true (by first | (with_reducible assumption) | assumption)
                                              have q130 : (ji22) < ((rd_L2 l0 x6_1).length : Int) := of_decide_eq_true (by first | (with_reducible assumption) | assumption)
                                              obtain ⟨ad130, e130, hx130_0⟩ := Kd.at_int HR129_0.out (ji22) p130 q130
                                              cases e130
                                              replace hx130_0 := (HB.out.cell (World.block_lt_of_cell? w _ hx130_0)).trans hx130_0
                                              replace p130 := eq_true p130
                                              replace q130 := eq_true q130
                                              have p27 : 0 ≤ ((rd (rd_L2 l0 x6_1) x7_2) : Int) := of_decide_eq_true (by first | (with_reducible assumption) | assumption)
                                              have q27 : ((rd (rd_L2 l0 x6_1) x7_2) : Int) < ((x5_2.length : Int) : Int) := of_decide_eq_true (by first | (with_reducible assumption) | assumption)
                                              obtain ⟨go27, co27, eo27, gb27, gl27, cl27, HG27⟩ := Kd.R_form HO_5.out (by omega)
                                              (first | cases eo27 | (injection eo27 with ea_ en_ ec_; (first | subst ea_ | (injection ea_ with ea_; subst ea_)); subst ec_; clear en_))
                                              have GB27 := Aside0.mk gb27
                                              have GG27 := Aside0.mk HG27
                                              clear gb27 gl27 HG27
                                              (first | simp only [add_plain] at hx128_0 | skip)
                                              obtain ⟨hx27_0, hf27_0⟩ := Kd.R_celln false HO_5.out ((rd (rd_L2 l0 x6_1) x7_2) : Int) p27 q27
                                              replace p27 := eq_true p27
                                              replace q27 := eq_true q27
                                              have HP29 := Kd.R_putg HO_5.out ((rd (rd_L2 l0 x6_1) x7_2) : Int) true
                                              go_wp2_with (first | ((with_reducible refine gate_store (t := 4) (p := 70) rfl ?_); refine store_event (t := 4) (p := 70) (v := ?vo_w30) (w1 := (wr.setCell ⟨go27, ((rd (rd_L2 l0 x6_1) x7_2) : Int).toNat, none⟩ (.bool true))) ?hg ?ho ?hn ?hr ?_; (case ho => rfl); (case hg => rfl); (case hn => rfl); (case hr => first | (go_simp; done) | (go_simp; rfl)); intro w30 hw; have hg : wr.grownBy w30 (some go27) := (by rw [hw]; exact HP29.2); have hp_ : Kd.R Kd.bool 4 w30 w.heap.size (fun _ => True) (.slice (some ⟨go27, 0, none⟩) x5_2.length co28) y131 := (by rw [hw, Ny131.out]; exact HP29.1); clear HP29; have n0_ := Aside0.mk (hp_); have n1_ := Aside0.mk ((by rw [hw]; exact below_set (HB.out) GB27.out : Below w.heap.size w w30)); clear HO_5; clear HB; have HO_5 := n0_; have HB := n1_; clear n0_ n1_; clear hg hw hp_))
                                              go_roundg k2
                                              case measure => have := HK1.out; have := HK2.out; omega
                                              case rel => exact ⟨(y131), (wrap64 (x7_2 + 1)), (by first | rfl | (simp; done) | (simp [*]; done)), H', ⟨by have := HK1.out; have := HK2.out; omega⟩, ⟨by (with_reducible repeat (first | apply Kd.R_alloc | apply Kd.R_drewN | apply Kd.R_drew)); exact HO_5.out⟩, ⟨by repeat (first | (with_reducible first | exact HB.out | apply below_alloc | apply pw_below_drewN | apply below_drew1) | exact HB.out)⟩⟩
                                          · rw [if_neg c24] at H
                                            exact absurd H (by simp)
                                        · rw [if_neg c23] at H
                                          exact absurd H (by simp)
                                      · rw [if_neg c21] at H
                                        have c21b0 : decide (0 < x7_2) = false := decide_eq_false c21
                                        clear c21
                                        obtain ⟨y132, hy132⟩ : ∃ y_ : List Bool, y_ = (x5_2.set ((rd (rd_L2 l0 x6_1) x7_2) : Int).toNat true) := ⟨_, rfl⟩
                                        replace H : (commodatumref23_Blocks.l1 k2 l0 a1 y132 x6_1 (wrap64 (x7_2 + 1))) = some r := by first | (rw [hy132]; with_reducible exact H) | (have H2_ := (Option.bind_some _ _).symm.trans H; rw [hy132]; with_reducible exact H2_) | (have H2_ := (Option.bind_some _ _).symm.trans H; with_reducible exact H2_) | with_reducible exact H | (rw [hy132]; exact H) | exact H
                                        have Ny132 := Aside0.mk hy132
                                        clear hy132
                                        have H' := Aside0.mk H
                                        clear H
                                        have p125 : 0 ≤ (x6_1 : Int) := of_decide_eq_true (by first | (with_reducible assumption) | assumption)
                                        have q125 : x6_1 < (l0.length : Int) := of_decide_eq_true (by first | (with_reducible assumption) | assumption)
                                        obtain ⟨ad125, A125_0, c125_0, e125, hx125_0, hl125_0, hi125_0⟩ := at_L2 HR0.out x6_1 p125 q125
                                        obtain rfl : ad124 = ad125 := (by injection e125)
                                        replace hx125_0 := (HB.out.cell (World.block_lt_of_cell? w _ hx125_0)).trans hx125_0
                                        have HR125_0 := Aside0.mk hi125_0
                                        have HC125_0 := Aside0.mk hl125_0
                                        clear hi125_0 hl125_0
                                        replace p125 := eq_true p125
                                        replace q125 := eq_true q125
                                        have p126 : 0 ≤ (x6_1 : Int) := of_decide_eq_true (by first | (with_reducible assumption) | assumption)
                                        have q126 : x6_1 < (l0.length : Int) := of_decide_eq_true (by first | (with_reducible assumption) | assumption)
                                        obtain ⟨ad126, A126_0, c126_0, e126, hx126_0, hl126_0, hi126_0⟩ := at_L2 HR0.out x6_1 p126 q126
                                        obtain rfl : ad124 = ad126 := (by injection e126)
                                        replace hx126_0 := (HB.out.cell (World.block_lt_of_cell? w _ hx126_0)).trans hx126_0
                                        have HR126_0 := Aside0.mk hi126_0
                                        have HC126_0 := Aside0.mk hl126_0
                                        clear hi126_0 hl126_0
                                        replace p126 := eq_true p126
                                        replace q126 := eq_true q126
                                        have ea_ := Option.some.inj (hx125_0.symm.trans hx126_0)
                                        injection ea_ with ea_ en_ ec_
                                        subst ea_
                                        subst ec_
                                        clear en_
                                        have p127 : 0 ≤ (x7_2 : Int) := of_decide_eq_true (by first | (with_reducible assumption) | assumption)
                                        have q127 : x7_2 < ((rd_L2 l0 x6_1).length : Int) := of_decide_eq_true (by first | (with_reducible assumption) | assumption)
                                        obtain ⟨ad127, e127, hx127_0⟩ := Kd.at_int HR126_0.out x7_2 p127 q127
                                        cases e127
                                        replace hx127_0 := (HB.out.cell (World.block_lt_of_cell? w _ hx127_0)).trans hx127_0
                                        replace p127 := eq_true p127
                                        replace q127 := eq_true q127
                                        obtain ⟨Ao32, co32, eo32⟩ := Kd.R_slice HO_5.out
                                        subst eo32
                                        have p128 : 0 ≤ ((rd (rd_L2 l0 x6_1) x7_2) : Int) := of_decide_eq_true (by first | (with_reducible assumption) | assumption)
                                        have q128 : (rd (rd_L2 l0 x6_1) x7_2) < (x5_2.length : Int) := of_decide_eq_true (by first | (with_reducible assumption) | assumption)
                                        obtain ⟨ad128, e128, hx128_0⟩ := Kd.at_bool (Kd.R_reads' HO_5.out).2.2 (rd (rd_L2 l0 x6_1) x7_2) p128 q128
                                        (try rw [← Nbq18.out] at hx128_0)
                                        cases e128
                                        replace p128 := eq_true p128
                                        replace q128 := eq_true q128
                                        have p31 : 0 ≤ ((rd (rd_L2 l0 x6_1) x7_2) : Int) := of_decide_eq_true (by first | (with_reducible assumption) | assumption)
                                        have q31 : ((rd (rd_L2 l0 x6_1) x7_2) : Int) < ((x5_2.length : Int) : Int) := of_decide_eq_true (by first | (with_reducible assumption) | assumption)
                                        obtain ⟨go31, co31, eo31, gb31, gl31, cl31, HG31⟩ := Kd.R_form HO_5.out (by omega)
                                        (first | cases eo31 | (injection eo31 with ea_ en_ ec_; (first | subst ea_ | (injection ea_ with ea_; subst ea_)); subst ec_; clear en_))
                                        have GB31 := Aside0.mk gb31
                                        have GG31 := Aside0.mk HG31
                                        clear gb31 gl31 HG31
                                        (first | simp only [add_plain] at hx128_0 | skip)
                                        obtain ⟨hx31_0, hf31_0⟩ := Kd.R_celln false HO_5.out ((rd (rd_L2 l0 x6_1) x7_2) : Int) p31 q31
                                        replace p31 := eq_true p31
                                        replace q31 := eq_true q31
                                        have HP33 := Kd.R_putg HO_5.out ((rd (rd_L2 l0 x6_1) x7_2) : Int) true
                                        go_wp2_with (first | ((with_reducible refine gate_store (t := 4) (p := 70) rfl ?_); refine store_event (t := 4) (p := 70) (v := ?vo_w34) (w1 := (wr.setCell ⟨go31, ((rd (rd_L2 l0 x6_1) x7_2) : Int).toNat, none⟩ (.bool true))) ?hg ?ho ?hn ?hr ?_; (case ho => rfl); (case hg => rfl); (case hn => rfl); (case hr => first | (go_simp; done) | (go_simp; rfl)); intro w34 hw; have hg : wr.grownBy w34 (some go31) := (by rw [hw]; exact HP33.2); have hp_ : Kd.R Kd.bool 4 w34 w.heap.size (fun _ => True) (.slice (some ⟨go31, 0, none⟩) x5_2.length co32) y132 := (by rw [hw, Ny132.out]; exact HP33.1); clear HP33; have n0_ := Aside0.mk (hp_); have n1_ := Aside0.mk ((by rw [hw]; exact below_set (HB.out) GB31.out : Below w.heap.size w w34)); clear HO_5; clear HB; have HO_5 := n0_; have HB := n1_; clear n0_ n1_; clear hg hw hp_))
                                        go_roundg k2
                                        case measure => have := HK1.out; have := HK2.out; omega
                                        case rel => exact ⟨(y132), (wrap64 (x7_2 + 1)), (by first | rfl | (simp; done) | (simp [*]; done)), H', ⟨by have := HK1.out; have := HK2.out; omega⟩, ⟨by (with_reducible repeat (first | apply Kd.R_alloc | apply Kd.R_drewN | apply Kd.R_drew)); exact HO_5.out⟩, ⟨by repeat (first | (with_reducible first | exact HB.out | apply below_alloc | apply pw_below_drewN | apply below_drew1) | exact HB.out)⟩⟩
                                  · rw [if_neg c17] at H
                                    exact absurd H (by simp)
                                · rw [if_neg c16] at H
                                  exact absurd H (by simp)
                          · rw [if_neg c13] at H
                            exact absurd H (by simp)
                        · rw [if_neg c12] at H
                          have c12b0 : decide (x7_2 < ((rd_L2 l0 x6_1).length : Int)) = false := decide_eq_false c12
                          clear c12
                          have H' := Aside0.mk H
                          clear H
                          have p125 : 0 ≤ (x6_1 : Int) := of_decide_eq_true (by first | (with_reducible assumption) | assumption)
                          have q125 : x6_1 < (l0.length : Int) := of_decide_eq_true (by first | (with_reducible assumption) | assumption)
                          obtain ⟨ad125, A125_0, c125_0, e125, hx125_0, hl125_0, hi125_0⟩ := at_L2 HR0.out x6_1 p125 q125
                          obtain rfl : ad124 = ad125 := (by injection e125)
                          replace hx125_0 := (HB.out.cell (World.block_lt_of_cell? w _ hx125_0)).trans hx125_0
                          have HR125_0 := Aside0.mk hi125_0
                          have HC125_0 := Aside0.mk hl125_0
                          clear hi125_0 hl125_0
                          replace p125 := eq_true p125
                          replace q125 := eq_true q125
                          go_wp2
                          go_roundg k2
                          case measure => have := HK1.out; have := HK2.out; omega
                          case rel => exact ⟨(x5_2), (wrap64 (x6_1 + 1)), (by first | rfl | (simp; done) | (simp [*]; done)), H', ⟨by have := HK1.out; have := HK2.out; omega⟩, ⟨by (with_reducible repeat (first | apply Kd.R_alloc | apply Kd.R_drewN | apply Kd.R_drew)); exact HO_5.out⟩, ⟨by repeat (first | (with_reducible first | exact HB.out | apply below_alloc | apply pw_below_drewN | apply below_drew1) | exact HB.out)⟩⟩
                      · rw [if_neg c11] at H
                        exact absurd H (by simp)
                    · rw [if_neg c10] at H
                      exact absurd H (by simp)
            · rw [if_neg c8] at H
              exact absurd H (by simp)
          · rw [if_neg c7] at H
            have c7b0 : decide (x6_1 < (l0.length : Int)) = false := decide_eq_false c7
            clear c7
            obtain rfl := Option.some.inj H
            go_wp2
            go_ret
            exact ⟨by first | rfl | (simp [errW_none, errW_some] <;> rfl) | (simp [*, errW_none, errW_some] <;> rfl), by repeat (first | (with_reducible first | exact HB.out | apply below_alloc | apply pw_below_drewN | apply below_drew1) | exact HB.out)⟩
    · rw [if_neg c4] at H
      exact absurd H (by simp)
  · rw [if_neg c3] at H
    exact absurd H (by simp)

-- NOT PRINTED: function 38 (commodatumref23_Functions)

/-! ### commodatumref23_Floor: function 39 -/
def commodatumref23_Floor.l0 : Nat → Int → Int → Option (Int)
  | 0, _, _ => none
  | k + 1, x0, x3 => if x0 > 1 then (commodatumref23_Floor.l0 k (wrap64 (Int.tdiv x0 2)) (wrap64 (x3 + 1))) else (some x3)
def commodatumref23_Floor.f (k : Nat) (a0 : Int) : Option (Int) := commodatumref23_Floor.l0 k a0 0
theorem commodatumref23_Floor.mono_l : ∀ k, (∀ y0 y1, LeO (commodatumref23_Floor.l0 k y0 y1) (commodatumref23_Floor.l0 (k + 1) y0 y1))
  | 0 => fun _ _ r h => by simp [commodatumref23_Floor.l0] at h
  | k + 1 => by
    have ih0 := commodatumref23_Floor.mono_l k
    · intro y0 y1
      unfold commodatumref23_Floor.l0
      repeat' first
      | (with_reducible exact ih0 _ _)
      | (with_reducible exact LeO.refl _)
      | (with_reducible exact LeO.none _)
      | (with_reducible refine LeO.ite ?_ ?_)
      | (with_reducible refine LeO.bind ?_ (fun _ => ?_))
      | exact ih0 _ _
      | exact LeO.none _
      | refine LeO.ite ?_ ?_
      | refine LeO.bind ?_ (fun _ => ?_)
theorem commodatumref23_Floor.mono : ∀ a0 k, LeO (commodatumref23_Floor.f k a0) (commodatumref23_Floor.f (k + 1) a0) := by
  intro a0 k
  have ih0 := commodatumref23_Floor.mono_l k
  unfold commodatumref23_Floor.f
  repeat' first
      | (with_reducible exact ih0 _ _)
      | (with_reducible exact LeO.refl _)
      | (with_reducible exact LeO.none _)
      | (with_reducible refine LeO.ite ?_ ?_)
      | (with_reducible refine LeO.bind ?_ (fun _ => ?_))
      | exact ih0 _ _
      | exact LeO.none _
      | refine LeO.ite ?_ ?_
      | refine LeO.bind ?_ (fun _ => ?_)
set_option maxHeartbeats 8000000 in
set_option maxRecDepth 100000 in
theorem commodatumref23_Floor.calls (k : Nat) (a0 : Int) (r : Int) (w : World) (h : commodatumref23_Floor.f k a0 = some r) :
    Calls Try.prog 39 #[.int .i64 a0] w fun e w' => e = .returned (.int .i64 r) ∧ Drawn0 w w' := by
  have H : (commodatumref23_Floor.l0 k a0 0) = some r := h
  clear h
  have H' := Aside0.mk H
  clear H
  go_enter Try.func39, Try.ntmps39
  go_wp2
  go_loopg [0, 3] k (fun kq v0 v3 w' => ∃ (x0_1 : Int) (x3_1 : Int), v0 = .int .i64 x0_1 ∧ v3 = .int .i64 x3_1 ∧ Aside0 (commodatumref23_Floor.l0 kq x0_1 x3_1 = some r) ∧ Aside0 (kq ≤ k) ∧ Drawn0 w w')
  case atStart => exact ⟨(a0), (0), (by first | rfl | (simp; done) | (simp [*]; done)), (by first | rfl | (simp; done) | (simp [*]; done)), H', ⟨Nat.le_refl _⟩, by repeat (first | exact Drawn0.refl _ | apply Drawn0.step)⟩
  case round =>
    clear H'
    obtain ⟨x0_1, x3_1, rfl, rfl, HA, HK1, ⟨m1, rfl⟩⟩ := hrel
    cases gk with
    | zero => exact absurd HA.out (by simp [commodatumref23_Floor.l0])
    | succ k1 =>
      have H := HA.out
      clear HA
      simp only [commodatumref23_Floor.l0] at H
      by_cases c2 : x0_1 > 1
      · rw [if_pos c2] at H
        have c2b0 : decide (1 < x0_1) = true := decide_eq_true c2
        clear c2
        have H' := Aside0.mk H
        clear H
        go_wp2
        go_roundg k1
        case measure => have := HK1.out; omega
        case rel => exact ⟨(wrap64 (Int.tdiv x0_1 2)), (wrap64 (x3_1 + 1)), (by first | rfl | (simp; done) | (simp [*]; done)), (by first | rfl | (simp; done) | (simp [*]; done)), H', ⟨by have := HK1.out; omega⟩, by repeat (first | exact Drawn0.refl _ | apply Drawn0.step)⟩
      · rw [if_neg c2] at H
        have c2b0 : decide (1 < x0_1) = false := decide_eq_false c2
        clear c2
        obtain rfl := Option.some.inj H
        go_wp2
        go_ret
        exact ⟨by first | rfl | (simp; done) | (simp [*]; done), by repeat (first | exact Drawn0.refl _ | apply Drawn0.step)⟩

-- NOT PRINTED: function 85 (bound_subfunctions)

-- NOT PRINTED: function 40 (bound_Nechiporuk)

/-! ### commodatumlaw23_ints: function 87 -/
def commodatumlaw23_ints.f (l0 : List Int) : Option (List Int) := (some (([] : List Int) : List Int)).bind fun y141 => (if y141.length + l0.length < 17592186044416 then (some (y141 ++ l0)) else (none))
set_option maxHeartbeats 8000000 in
set_option maxRecDepth 100000 in
theorem commodatumlaw23_ints.calls (A0 : Option Addr) (c0 : Nat) (l0 : List Int) (r : List Int) (w : World) (hr0 : Kd.C (Kd.int .i64) w A0 l0.length l0) (hc0 : l0.length ≤ c0) (h : commodatumlaw23_ints.f l0 = some r) :
    Calls Try.prog 87 #[.slice A0 l0.length c0] w fun e w' => ∃ v0_ : Value, e = .returned (v0_) ∧ Kd.R (Kd.int .i64) 3 w' w.heap.size (fun _ => True) v0_ r ∧ Below w.heap.size w w' := by
  have HR0 := Aside0.mk hr0
  have HC0 := Aside0.mk hc0
  clear hr0 hc0
  have HB := Aside0.mk (Below.refl w.heap.size w)
  have H : ((some (([] : List Int) : List Int)).bind fun y141 => (if y141.length + l0.length < 17592186044416 then (some (y141 ++ l0)) else (none))) = some r := h
  clear h
  obtain ⟨y141, hy141⟩ : ∃ y_ : List Int, y_ = (([] : List Int)) := ⟨_, rfl⟩
  replace H : (if y141.length + l0.length < 17592186044416 then (some (y141 ++ l0)) else (none)) = some r := by first | (rw [hy141]; with_reducible exact H) | (have H2_ := (Option.bind_some _ _).symm.trans H; rw [hy141]; with_reducible exact H2_) | (have H2_ := (Option.bind_some _ _).symm.trans H; with_reducible exact H2_) | with_reducible exact H | (rw [hy141]; exact H) | exact H
  have Ny141 := Aside0.mk hy141
  clear hy141
  by_cases c2 : y141.length + l0.length < 17592186044416
  · rw [if_pos c2] at H
    have LMc2 := Aside0.mk c2
    clear c2
    obtain ⟨y144, hy144⟩ : ∃ y_ : List Int, y_ = (y141 ++ l0) := ⟨_, rfl⟩
    replace H : (some y144) = some r := by first | (rw [hy144]; with_reducible exact H) | (have H2_ := (Option.bind_some _ _).symm.trans H; rw [hy144]; with_reducible exact H2_) | (have H2_ := (Option.bind_some _ _).symm.trans H; with_reducible exact H2_) | with_reducible exact H | (rw [hy144]; exact H) | exact H
    have Ny144 := Aside0.mk hy144
    clear hy144
    obtain rfl := Option.some.inj H
    go_enter Try.func87, Try.ntmps87
    go_wp2_with (first | ((with_reducible refine gate_dst (N := 3) rfl ?_); refine Kd.R_lit (Kd.int .i64) _ 3 ?hg (N := 3) ?hd (xs := ([] : List Int)) (inner := []) (ok := fun _ => True) (okp := fun _ => True) ?hr ?hp (fun _ hk => hk) trivial (Below.refl _ _) (Nat.le_refl _) (by simp) ?_; (case hd => rfl); (case hg => rfl); (case hr => first | (go_simp; done) | (go_simp; rfl)); (case hp => exact (Reps.none _ _)); intro v142 w3 ho4 hb hg_ hnew_; clear hg_ hnew_; (first | rw [← Ny141.out] at ho4 | (simp only [Int.reduceToNat] at ho4; rw [← Ny141.out] at ho4)); have n0_ := Aside0.mk (Kd.R_lower ho4 (below_size (by repeat (first | (with_reducible first | exact HB.out | apply below_alloc | apply pw_below_drewN | apply below_drew1) | exact HB.out)))); have n1_ := Aside0.mk (below_step (by repeat (first | (with_reducible first | exact HB.out | apply below_alloc | apply pw_below_drewN | apply below_drew1) | exact HB.out)) hb); clear HB; have HO143 := n0_; have HB := n1_; clear n0_ n1_; clear hb ho4) | ((with_reducible refine gate_builtin (b := .append) (xs := #[.tmp 3, .tmp 4]) rfl ?_); at_builtin; refine Kd.R_append_rows (Kd.int .i64) (w0 := w) w.heap.size rfl (.tmp 3) (.tmp 4) 52 3 (.int .i64 0) 8 rfl Try.underlying52 info3 rfl (by decide) (by omega) v142 y141 l0 _ _ _ (fun _ => True) (fun _ => False) rfl rfl ?aO ?aR (fun _ _ h => h) (fun _ h => h.elim) ?aF ?aB ?aS ?aL ?_; (case aR => repeat (first | exact (Kd.C_below HR0.out HB.out) | (with_reducible refine Kd.C_alloc ?_ _) | (with_reducible refine Kd.C_drewN ?_ _) | (with_reducible refine Kd.C_drew ?_))); (case aB => exact (by repeat (first | (with_reducible first | exact HB.out | apply below_alloc | apply pw_below_drewN | apply below_drew1) | exact HB.out))); (case aF => exact (fun _ _ => trivial)); (case aO => exact (by (with_reducible repeat (first | apply Kd.R_alloc | apply Kd.R_drewN | apply Kd.R_drew)); exact HO143.out)); (case aS => exact (below_size (by repeat (first | (with_reducible first | exact HB.out | apply below_alloc | apply pw_below_drewN | apply below_drew1) | exact HB.out)))); (case aL => have := LMc2.out; omega); intro v145 w5 ho hb hg hat; rw [← Ny144.out] at ho; have n0_ := Aside0.mk (hb); have n1_ := Aside0.mk (ho); clear HB; clear HO143; have HB := n0_; have HO146 := n1_; clear n0_ n1_; clear ho hb hg hat))
    go_ret
    exact ⟨_, by first | rfl | (simp [errW_none, errW_some] <;> rfl) | (simp [*, errW_none, errW_some] <;> rfl), by (with_reducible repeat (first | apply Kd.R_alloc | apply Kd.R_drewN | apply Kd.R_drew)); exact HO146.out, by repeat (first | (with_reducible first | exact HB.out | apply below_alloc | apply pw_below_drewN | apply below_drew1) | exact HB.out)⟩
  · rw [if_neg c2] at H
    exact absurd H (by simp)

end Go.Proofs.Ytpfbommaddaijaa.PBoundNechiporuk
