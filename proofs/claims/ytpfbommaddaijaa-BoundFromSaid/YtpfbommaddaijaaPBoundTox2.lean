-- PRINTED BY print.sh 35421559b90ae4d0a3588c463048766b98c2df88dd9212a6774a882060cdf62d: not written by this session
import Derived.Test.YtpfbommaddaijaaPBoundTox0
namespace Go.Proofs.Ytpfbommaddaijaa.PBoundTo
open Go.RowKit Go.Proofs.YtpfbommaddaijaaW.PrintWords Go.Proofs.YtpfbommaddaijaaW.PrintLast Go.Proofs.YtpfbommaddaijaaW.PrintMore
attribute [local go_sem] max2_int min2_int max_two min_two max_three min_three max_four min_four   -- for this text's walks alone
set_option linter.unusedVariables false
set_option linter.unusedSimpArgs false

/-! ### commodatumref23_Execute: function 52 -/
def commodatumref23_Execute.l0 : Nat → Int → Int → Bool → Int → Int → List Bool → List (S32) → Option (Int)
  | 0, _, _, _, _, _, _, _ => none
  | k + 1, x1, x2, x124000, x124001, x124002, x124003, x124004 => if x124000 = true then (some x124001) else (if x124002 = 1 then (if 0 ≤ x2 then (if x2 < (x124003.length : Int) then (if rdOf false x124003 x2 = true then (if 1 < (x124004.length : Int) then (commodatumref23_Execute.l0 k x1 x2 ((rd_T32 x124004 1).f0) ((rd_T32 x124004 1).f1) ((rd_T32 x124004 1).f2) ((rd_T32 x124004 1).f3) ((rd_T32 x124004 1).f4)) else (none)) else (if 0 < (x124004.length : Int) then (commodatumref23_Execute.l0 k x1 x2 ((rd_T32 x124004 0).f0) ((rd_T32 x124004 0).f1) ((rd_T32 x124004 0).f2) ((rd_T32 x124004 0).f3) ((rd_T32 x124004 0).f4)) else (none))) else (none)) else (none)) else (if 0 ≤ x1 then (if x1 < (x124003.length : Int) then (if rdOf false x124003 x1 = true then (if 1 < (x124004.length : Int) then (commodatumref23_Execute.l0 k x1 x2 ((rd_T32 x124004 1).f0) ((rd_T32 x124004 1).f1) ((rd_T32 x124004 1).f2) ((rd_T32 x124004 1).f3) ((rd_T32 x124004 1).f4)) else (none)) else (if 0 < (x124004.length : Int) then (commodatumref23_Execute.l0 k x1 x2 ((rd_T32 x124004 0).f0) ((rd_T32 x124004 0).f1) ((rd_T32 x124004 0).f2) ((rd_T32 x124004 0).f3) ((rd_T32 x124004 0).f4)) else (none))) else (none)) else (none)))
def commodatumref23_Execute.f (k : Nat) (a0_0 : Bool) (a0_1 : Int) (a0_2 : Int) (l0_3 : List Bool) (l0_4 : List (S32)) (a1 : Int) (a2 : Int) : Option (Int) := commodatumref23_Execute.l0 k a1 a2 a0_0 a0_1 a0_2 l0_3 l0_4
theorem commodatumref23_Execute.mono_l : ∀ k, (∀ y0 y1 y2 y3 y4 y5 y6, LeO (commodatumref23_Execute.l0 k y0 y1 y2 y3 y4 y5 y6) (commodatumref23_Execute.l0 (k + 1) y0 y1 y2 y3 y4 y5 y6))
  | 0 => fun _ _ _ _ _ _ _ r h => by simp [commodatumref23_Execute.l0] at h
  | k + 1 => by
    have ih0 := commodatumref23_Execute.mono_l k
    · intro y0 y1 y2 y3 y4 y5 y6
      unfold commodatumref23_Execute.l0
      repeat' first
      | (with_reducible exact ih0 _ _ _ _ _ _ _)
      | (with_reducible exact LeO.refl _)
      | (with_reducible exact LeO.none _)
      | (with_reducible refine LeO.ite ?_ ?_)
      | (with_reducible refine LeO.bind ?_ (fun _ => ?_))
      | exact ih0 _ _ _ _ _ _ _
      | exact LeO.none _
      | refine LeO.ite ?_ ?_
      | refine LeO.bind ?_ (fun _ => ?_)
theorem commodatumref23_Execute.mono : ∀ a0 a1 a2 a3 a4 a5 a6 k, LeO (commodatumref23_Execute.f k a0 a1 a2 a3 a4 a5 a6) (commodatumref23_Execute.f (k + 1) a0 a1 a2 a3 a4 a5 a6) := by
  intro a0 a1 a2 a3 a4 a5 a6 k
  have ih0 := commodatumref23_Execute.mono_l k
  unfold commodatumref23_Execute.f
  repeat' first
      | (with_reducible exact ih0 _ _ _ _ _ _ _)
      | (with_reducible exact LeO.refl _)
      | (with_reducible exact LeO.none _)
      | (with_reducible refine LeO.ite ?_ ?_)
      | (with_reducible refine LeO.bind ?_ (fun _ => ?_))
      | exact ih0 _ _ _ _ _ _ _
      | exact LeO.none _
      | refine LeO.ite ?_ ?_
      | refine LeO.bind ?_ (fun _ => ?_)
set_option maxHeartbeats 8000000 in
set_option maxRecDepth 100000 in
theorem commodatumref23_Execute.calls (k : Nat) (a0_0 : Bool) (a0_1 : Int) (a0_2 : Int) (P0_3_ : Nat → Prop) (A0_3 : Option Addr) (c0_3 : Nat) (l0_3 : List Bool) (P0_4_ : Nat → Prop) (A0_4 : Option Addr) (c0_4 : Nat) (l0_4 : List (S32)) (a1 : Int) (a2 : Int) (r : Int) (w : World) (hs0_3 : Kd.V Kd.bool 4 w w.heap.size (fun k_ => P0_3_ k_) (.slice A0_3 l0_3.length c0_3) l0_3) (hs0_4 : Kd.V k32 32 w w.heap.size (fun k_ => P0_4_ k_) (.slice A0_4 l0_4.length c0_4) l0_4) (h : commodatumref23_Execute.f k a0_0 a0_1 a0_2 l0_3 l0_4 a1 a2 = some r) :
    Calls Try.prog 52 #[.agg #[.bool a0_0, .int .i64 a0_1, .int .i64 a0_2, .slice A0_3 l0_3.length c0_3, .slice A0_4 l0_4.length c0_4], .int .i64 a1, .int .i64 a2] w fun e w' => e = .returned (.int .i64 r) ∧ Below w.heap.size w w' := by
  have hu32 := Try.underlying32
  have HO0_3 := Aside0.mk (show Kd.V Kd.bool 4 w w.heap.size (fun k_ => ((P0_3_ k_ ∨ P0_4_ k_) ∨ w.heap.size ≤ k_)) (.slice A0_3 l0_3.length c0_3) l0_3 from Kd.V_mono hs0_3 (fun k_ hk => .inl (.inl hk)))
  have HO0_4 := Aside0.mk (show Kd.V k32 32 w w.heap.size (fun k_ => ((P0_3_ k_ ∨ P0_4_ k_) ∨ w.heap.size ≤ k_)) (.slice A0_4 l0_4.length c0_4) l0_4 from Kd.V_mono hs0_4 (fun k_ hk => .inl (.inr hk)))
  have HB := Aside0.mk (Below.refl w.heap.size w)
  have H : (commodatumref23_Execute.l0 k a1 a2 a0_0 a0_1 a0_2 l0_3 l0_4) = some r := h
  clear h
  have H' := Aside0.mk H
  clear H
  go_enter Try.func52, Try.ntmps52
  go_wp2_with (first | ((with_reducible refine gate_dst (N := 3) rfl ?_); refine box_event ?hg (N := 3) ?hd (cs := #[.bool a0_0, .int .i64 a0_1, .int .i64 a0_2, .slice A0_3 l0_3.length c0_3, .slice A0_4 l0_4.length c0_4]) (t := 32) ?hr ?_; (case hd => rfl); (case hg => rfl); (case hr => first | (go_simp; done) | (go_simp; rfl)); intro gb123 hg w4 hbox hb; have n0_ := Aside0.mk (Kd.V_below (Kd.V_elderB (by (with_reducible repeat (first | apply Kd.V_alloc | apply Kd.V_drewN | apply Kd.V_drew)); exact HO0_3.out) gb123 (Nat.le_of_eq hg.symm)) hb); have n1_ := Aside0.mk (Kd.V_below (Kd.V_elderB (by (with_reducible repeat (first | apply Kd.V_alloc | apply Kd.V_drewN | apply Kd.V_drew)); exact HO0_4.out) gb123 (Nat.le_of_eq hg.symm)) hb); have n2_ := Aside0.mk (below_step (by repeat (first | (with_reducible first | exact HB.out | apply below_alloc | apply pw_below_drewN | apply below_drew1) | exact HB.out)) hb); have n3_ := Aside0.mk (hbox); have n4_ := Aside0.mk ((by rw [hg]; exact (below_size (by repeat (first | (with_reducible first | exact HB.out | apply below_alloc | apply pw_below_drewN | apply below_drew1) | exact HB.out))) : w.heap.size ≤ gb123)); have n5_ := Aside0.mk ((by rw [hg]; exact (below_size (by repeat (first | (with_reducible first | exact HB.out | apply below_alloc | apply pw_below_drewN | apply below_drew1) | exact HB.out))) : w.heap.size ≤ gb123)); clear HO0_3; clear HO0_4; clear HB; have HO0_3 := n0_; have HO0_4 := n1_; have HB := n2_; have BK123 := n3_; have GW123 := n4_; have GE123 := n5_; clear n0_ n1_ n2_ n3_ n4_ n5_; clear hb hbox hg))
  go_loopg [] k (fun kq w' => ∃ (x124000_1 : Bool) (x124001_1 : Int) (x124002_1 : Int) (x124003_1 : List Bool) (x124004_1 : List (S32)) (u124003 : Value) (u124004 : Value), Aside0 (commodatumref23_Execute.l0 kq a1 a2 x124000_1 x124001_1 x124002_1 x124003_1 x124004_1 = some r) ∧ Aside0 (kq ≤ k) ∧ Aside0 (Kd.V Kd.bool 4 w' w.heap.size (fun k_ => ((P0_3_ k_ ∨ P0_4_ k_) ∨ w.heap.size ≤ k_) ∧ k_ ≠ gb123) u124003 x124003_1) ∧ Aside0 (Kd.V k32 32 w' w.heap.size (fun k_ => ((P0_3_ k_ ∨ P0_4_ k_) ∨ w.heap.size ≤ k_) ∧ k_ ≠ gb123) u124004 x124004_1) ∧ Aside0 (w'.heap[gb123]? = some (.cells #[.bool x124000_1, .int .i64 x124001_1, .int .i64 x124002_1, u124003, u124004] 32 (0, 0))) ∧ Aside0 (Below w.heap.size w w'))
  case atStart => exact ⟨(a0_0), (a0_1), (a0_2), (l0_3), (l0_4), (.slice A0_3 l0_3.length c0_3), (.slice A0_4 l0_4.length c0_4), H', ⟨Nat.le_refl _⟩, ⟨by (with_reducible repeat (first | apply Kd.V_alloc | apply Kd.V_drewN | apply Kd.V_drew)); exact HO0_3.out⟩, ⟨by (with_reducible repeat (first | apply Kd.V_alloc | apply Kd.V_drewN | apply Kd.V_drew)); exact HO0_4.out⟩, ⟨by (with_reducible repeat (first | refine blk_drewN ?_ _ | refine blk_drew ?_ | refine blk_alloc ?_ _)); exact BK123.out⟩, ⟨by repeat (first | (with_reducible first | exact HB.out | apply below_alloc | apply pw_below_drewN | apply below_drew1 | refine below_set ?_ GE123.out) | exact HB.out)⟩⟩
  case round =>
    clear H'
    try clear p2
    obtain ⟨x124000_1, x124001_1, x124002_1, x124003_1, x124004_1, u124003, u124004, HA, HK1, HO_124003, HO_124004, BK123, HB⟩ := hrel
    cases gk with
    | zero => exact absurd HA.out (by simp [commodatumref23_Execute.l0])
    | succ k1 =>
      have H := HA.out
      clear HA
      simp only [commodatumref23_Execute.l0] at H
      by_cases c5 : x124000_1 = true
      · subst c5
        have H1 : (some x124001_1) = some r := by rw [if_pos rfl] at H; exact H
        clear H
        have H := H1
        clear H1
        obtain rfl := Option.some.inj H
        have hcz6_0 : wr.cell? ⟨gb123, 0, none⟩ = some (.bool true) := (blk_cell BK123.out 0).trans rfl
        have hcz6_1 : wr.cell? ⟨gb123, 1, none⟩ = some (.int .i64 x124001_1) := (blk_cell BK123.out 1).trans rfl
        have hcz6_2 : wr.cell? ⟨gb123, 2, none⟩ = some (.int .i64 x124002_1) := (blk_cell BK123.out 2).trans rfl
        have hcz6_3 : wr.cell? ⟨gb123, 3, none⟩ = some (u124003) := (blk_cell BK123.out 3).trans rfl
        have hcz6_4 : wr.cell? ⟨gb123, 4, none⟩ = some (u124004) := (blk_cell BK123.out 4).trans rfl
        have hfz6_0 := blk_frozen BK123.out 0
        have hfz6_1 := blk_frozen BK123.out 1
        have hfz6_2 := blk_frozen BK123.out 2
        have hfz6_3 := blk_frozen BK123.out 3
        have hfz6_4 := blk_frozen BK123.out 4
        go_wp2
        go_ret
        exact ⟨by first | rfl | (simp [errW_none, errW_some] <;> rfl) | (simp [*, errW_none, errW_some] <;> rfl), by repeat (first | (with_reducible first | exact HB.out | apply below_alloc | apply pw_below_drewN | apply below_drew1 | refine below_set ?_ GE123.out) | exact HB.out)⟩
      · replace c5 := Bool.eq_false_iff.mpr c5
        subst c5
        have H1 : (if x124002_1 = 1 then (if 0 ≤ a2 then (if a2 < (x124003_1.length : Int) then (if rdOf false x124003_1 a2 = true then (if 1 < (x124004_1.length : Int) then (commodatumref23_Execute.l0 k1 a1 a2 ((rd_T32 x124004_1 1).f0) ((rd_T32 x124004_1 1).f1) ((rd_T32 x124004_1 1).f2) ((rd_T32 x124004_1 1).f3) ((rd_T32 x124004_1 1).f4)) else (none)) else (if 0 < (x124004_1.length : Int) then (commodatumref23_Execute.l0 k1 a1 a2 ((rd_T32 x124004_1 0).f0) ((rd_T32 x124004_1 0).f1) ((rd_T32 x124004_1 0).f2) ((rd_T32 x124004_1 0).f3) ((rd_T32 x124004_1 0).f4)) else (none))) else (none)) else (none)) else (if 0 ≤ a1 then (if a1 < (x124003_1.length : Int) then (if rdOf false x124003_1 a1 = true then (if 1 < (x124004_1.length : Int) then (commodatumref23_Execute.l0 k1 a1 a2 ((rd_T32 x124004_1 1).f0) ((rd_T32 x124004_1 1).f1) ((rd_T32 x124004_1 1).f2) ((rd_T32 x124004_1 1).f3) ((rd_T32 x124004_1 1).f4)) else (none)) else (if 0 < (x124004_1.length : Int) then (commodatumref23_Execute.l0 k1 a1 a2 ((rd_T32 x124004_1 0).f0) ((rd_T32 x124004_1 0).f1) ((rd_T32 x124004_1 0).f2) ((rd_T32 x124004_1 0).f3) ((rd_T32 x124004_1 0).f4)) else (none))) else (none)) else (none))) = some r := by rw [if_neg (show ¬ (false = true) by decide)] at H; exact H
        clear H
        have H := H1
        clear H1
        by_cases c7 : x124002_1 = 1
        · rw [if_pos c7] at H
          have c7b0 : (x124002_1 == 1) = true := beq_iff_eq.mpr c7
          have c7b1 : (x124002_1 != 1) = false := bne_eq_false_iff_eq.mpr c7
          clear c7
          by_cases c8 : 0 ≤ a2
          · rw [if_pos c8] at H
            have c8b0 : decide (0 ≤ a2) = true := decide_eq_true c8
            clear c8
            by_cases c9 : a2 < (x124003_1.length : Int)
            · rw [if_pos c9] at H
              have c9b0 : decide (a2 < (x124003_1.length : Int)) = true := decide_eq_true c9
              clear c9
              obtain ⟨bq10, hbq10⟩ : ∃ b_ : Bool, b_ = (rdOf false x124003_1 a2) := ⟨_, rfl⟩
              replace H : (if bq10 = true then (if 1 < (x124004_1.length : Int) then (commodatumref23_Execute.l0 k1 a1 a2 ((rd_T32 x124004_1 1).f0) ((rd_T32 x124004_1 1).f1) ((rd_T32 x124004_1 1).f2) ((rd_T32 x124004_1 1).f3) ((rd_T32 x124004_1 1).f4)) else (none)) else (if 0 < (x124004_1.length : Int) then (commodatumref23_Execute.l0 k1 a1 a2 ((rd_T32 x124004_1 0).f0) ((rd_T32 x124004_1 0).f1) ((rd_T32 x124004_1 0).f2) ((rd_T32 x124004_1 0).f3) ((rd_T32 x124004_1 0).f4)) else (none))) = some r := by rw [← hbq10] at H; exact H
              have Nbq10 := Aside0.mk hbq10
              clear hbq10
              by_cases c11 : bq10 = true
              · subst c11
                have H1 : (if 1 < (x124004_1.length : Int) then (commodatumref23_Execute.l0 k1 a1 a2 ((rd_T32 x124004_1 1).f0) ((rd_T32 x124004_1 1).f1) ((rd_T32 x124004_1 1).f2) ((rd_T32 x124004_1 1).f3) ((rd_T32 x124004_1 1).f4)) else (none)) = some r := by rw [if_pos rfl] at H; exact H
                clear H
                have H := H1
                clear H1
                by_cases c12 : 1 < (x124004_1.length : Int)
                · rw [if_pos c12] at H
                  have c12b0 : decide (1 < (x124004_1.length : Int)) = true := decide_eq_true c12
                  have c12b1 : decide (1 < x124004_1.length) = true := decide_eq_true (by omega)
                  clear c12
                  have H' := Aside0.mk H
                  clear H
                  have hcz13_0 : wr.cell? ⟨gb123, 0, none⟩ = some (.bool false) := (blk_cell BK123.out 0).trans rfl
                  have hcz13_1 : wr.cell? ⟨gb123, 1, none⟩ = some (.int .i64 x124001_1) := (blk_cell BK123.out 1).trans rfl
                  have hcz13_2 : wr.cell? ⟨gb123, 2, none⟩ = some (.int .i64 x124002_1) := (blk_cell BK123.out 2).trans rfl
                  have hcz13_3 : wr.cell? ⟨gb123, 3, none⟩ = some (u124003) := (blk_cell BK123.out 3).trans rfl
                  have hcz13_4 : wr.cell? ⟨gb123, 4, none⟩ = some (u124004) := (blk_cell BK123.out 4).trans rfl
                  have hfz13_0 := blk_frozen BK123.out 0
                  have hfz13_1 := blk_frozen BK123.out 1
                  have hfz13_2 := blk_frozen BK123.out 2
                  have hfz13_3 := blk_frozen BK123.out 3
                  have hfz13_4 := blk_frozen BK123.out 4
                  obtain ⟨Ao14, co14, eo14⟩ := Kd.V_slice HO_124003.out
                  subst eo14
                  have p124 : 0 ≤ (a2 : Int) := of_decide_eq_true (by first | (with_reducible assumption) | assumption)
                  have q124 : a2 < (x124003_1.length : Int) := of_decide_eq_true (by first | (with_reducible assumption) | assumption)
                  obtain ⟨ad124, e124, hx124_0⟩ := Kd.at_bool (Kd.V_reads' HO_124003.out).2.2 a2 p124 q124
                  (try rw [← Nbq10.out] at hx124_0)
                  cases e124
                  replace p124 := eq_true p124
                  replace q124 := eq_true q124
                  obtain ⟨Ao15, co15, eo15⟩ := Kd.V_slice HO_124004.out
                  subst eo15
                  have p125 : 0 ≤ (1 : Int) := (by omega)
                  have q125 : 1 < (x124004_1.length : Int) := of_decide_eq_true (by first | (with_reducible assumption) | assumption)
                  obtain ⟨ad125, A125_3, c125_3, A125_4, c125_4, e125, hx125_0, hx125_1, hx125_2, hx125_3, hx125_4, hl125_3, hi125_3, hl125_4, hi125_4⟩ := at_T32 (Kd.V_reads' HO_124004.out).2.2 1 p125 q125
                  (try rw [← Nbq10.out] at hx125_0)
                  cases e125
                  obtain ⟨ce125, hce125, hMe125, hcc125⟩ := Kd.V_get HO_124004.out z32 1 p125 (by first | exact q125 | exact of_decide_eq_true (by first | (with_reducible assumption) | assumption) | (have e_ := (Kd.V_reads' HO_124004.out).1; omega))
                  obtain ⟨ua125_3, uc125_3, ua125_4, uc125_4, rfl, ul125_3, ge125_3, ul125_4, ge125_4⟩ := k32_openF hMe125
                  have hv125_3 := hcc125 3 _ rfl
                  rw [add_field _ _ 3 (by omega)] at hv125_3
                  replace hv125_3 := Option.some.inj (hv125_3.symm.trans hx125_3)
                  injection hv125_3 with hva_ hvn_ hvc_
                  rw [hva_] at ge125_3
                  rw [hvc_] at ul125_3
                  have HL125_3 := Aside0.mk (show Kd.V Kd.bool 4 _ w.heap.size _ _ ((rd_T32 x124004_1 1).f3) from Kd.V_mk ul125_3 ge125_3)
                  clear hva_ hvn_ hvc_ ge125_3 ul125_3
                  have hv125_4 := hcc125 4 _ rfl
                  rw [add_field _ _ 4 (by omega)] at hv125_4
                  replace hv125_4 := Option.some.inj (hv125_4.symm.trans hx125_4)
                  injection hv125_4 with hva_ hvn_ hvc_
                  rw [hva_] at ge125_4
                  rw [hvc_] at ul125_4
                  have HL125_4 := Aside0.mk (show Kd.V k32 32 _ w.heap.size _ _ ((rd_T32 x124004_1 1).f4) from Kd.V_mk ul125_4 ge125_4)
                  clear hva_ hvn_ hvc_ ge125_4 ul125_4
                  clear hcc125 hce125
                  (try simp only [show (1 : Int).toNat = 1 from rfl, Nat.reduceMul, Nat.reduceEqDiff, Go.Addr.add, ↓reduceIte] at hx125_0)
                  (try simp only [show (1 : Int).toNat = 1 from rfl, Nat.reduceMul, Nat.reduceEqDiff, Go.Addr.add, ↓reduceIte] at hx125_1)
                  (try simp only [show (1 : Int).toNat = 1 from rfl, Nat.reduceMul, Nat.reduceEqDiff, Go.Addr.add, ↓reduceIte] at hx125_2)
                  (try simp only [show (1 : Int).toNat = 1 from rfl, Nat.reduceMul, Nat.reduceEqDiff, Go.Addr.add, ↓reduceIte] at hx125_3)
                  (try simp only [show (1 : Int).toNat = 1 from rfl, Nat.reduceMul, Nat.reduceEqDiff, Go.Addr.add, ↓reduceIte] at hx125_4)
                  have qi125 : (1 < x124004_1.length) = True := eq_true (by omega)
                  (try rw [show ((1 : Int)).toNat = 1 from rfl] at hx125_0)
                  (try rw [show 1 * 5 = 5 from rfl] at hx125_0)
                  (try rw [show ((1 : Int)).toNat = 1 from rfl] at hx125_1)
                  (try rw [show 1 * 5 = 5 from rfl] at hx125_1)
                  (try rw [show ((1 : Int)).toNat = 1 from rfl] at hx125_2)
                  (try rw [show 1 * 5 = 5 from rfl] at hx125_2)
                  (try rw [show ((1 : Int)).toNat = 1 from rfl] at hx125_3)
                  (try rw [show 1 * 5 = 5 from rfl] at hx125_3)
                  (try rw [show ((1 : Int)).toNat = 1 from rfl] at hx125_4)
                  (try rw [show 1 * 5 = 5 from rfl] at hx125_4)
                  have HR125_3 := Aside0.mk hi125_3
                  have HC125_3 := Aside0.mk hl125_3
                  clear hi125_3 hl125_3
                  have HR125_4 := Aside0.mk hi125_4
                  have HC125_4 := Aside0.mk hl125_4
                  clear hi125_4 hl125_4
                  replace p125 := eq_true p125
                  replace q125 := eq_true q125
                  go_wp2
                  go_roundg k1
                  case measure => have := HK1.out; omega
                  case rel => exact ⟨((rd_T32 x124004_1 1).f0), ((rd_T32 x124004_1 1).f1), ((rd_T32 x124004_1 1).f2), ((rd_T32 x124004_1 1).f3), ((rd_T32 x124004_1 1).f4), (.slice A125_3 ((rd_T32 x124004_1 1).f3).length c125_3), (.slice A125_4 ((rd_T32 x124004_1 1).f4).length c125_4), H', ⟨by have := HK1.out; omega⟩, ⟨by (with_reducible repeat (first | apply Kd.V_alloc | apply Kd.V_drewN | apply Kd.V_drew)); exact Kd.V_mono (Kd.V_far (p := ⟨gb123, 4, none⟩) (Kd.V_far (p := ⟨gb123, 3, none⟩) (Kd.V_far (p := ⟨gb123, 2, none⟩) (Kd.V_far (p := ⟨gb123, 1, none⟩) (Kd.V_far (p := ⟨gb123, 0, none⟩) (Kd.V_mono HL125_3.out (fun k_ hk => (⟨hk, hk.2⟩ : _ ∧ k_ ≠ gb123))) (fun _ hk => hk.2) (.bool ((rd_T32 x124004_1 1).f0))) (fun _ hk => hk.2) (.int .i64 ((rd_T32 x124004_1 1).f1))) (fun _ hk => hk.2) (.int .i64 ((rd_T32 x124004_1 1).f2))) (fun _ hk => hk.2) (.slice A125_3 ((rd_T32 x124004_1 1).f3).length c125_3)) (fun _ hk => hk.2) (.slice A125_4 ((rd_T32 x124004_1 1).f4).length c125_4)) (fun _ hk => ⟨hk.1.1, hk.1.2⟩)⟩, ⟨by (with_reducible repeat (first | apply Kd.V_alloc | apply Kd.V_drewN | apply Kd.V_drew)); exact Kd.V_mono (Kd.V_far (p := ⟨gb123, 4, none⟩) (Kd.V_far (p := ⟨gb123, 3, none⟩) (Kd.V_far (p := ⟨gb123, 2, none⟩) (Kd.V_far (p := ⟨gb123, 1, none⟩) (Kd.V_far (p := ⟨gb123, 0, none⟩) (Kd.V_mono HL125_4.out (fun k_ hk => (⟨hk, hk.2⟩ : _ ∧ k_ ≠ gb123))) (fun _ hk => hk.2) (.bool ((rd_T32 x124004_1 1).f0))) (fun _ hk => hk.2) (.int .i64 ((rd_T32 x124004_1 1).f1))) (fun _ hk => hk.2) (.int .i64 ((rd_T32 x124004_1 1).f2))) (fun _ hk => hk.2) (.slice A125_3 ((rd_T32 x124004_1 1).f3).length c125_3)) (fun _ hk => hk.2) (.slice A125_4 ((rd_T32 x124004_1 1).f4).length c125_4)) (fun _ hk => ⟨hk.1.1, hk.1.2⟩)⟩, ⟨by (with_reducible repeat (first | refine blk_drewN ?_ _ | refine blk_drew ?_ | refine blk_alloc ?_ _)); refine blk_put (cs := #[.bool ((rd_T32 x124004_1 1).f0), .int .i64 ((rd_T32 x124004_1 1).f1), .int .i64 ((rd_T32 x124004_1 1).f2), .slice A125_3 ((rd_T32 x124004_1 1).f3).length c125_3, .slice (some ad125) x124004_1.length co15]) ?_ 4 _ rfl; (with_reducible repeat (first | refine blk_drewN ?_ _ | refine blk_drew ?_ | refine blk_alloc ?_ _)); refine blk_put (cs := #[.bool ((rd_T32 x124004_1 1).f0), .int .i64 ((rd_T32 x124004_1 1).f1), .int .i64 ((rd_T32 x124004_1 1).f2), .slice (some ad124) x124003_1.length co14, .slice (some ad125) x124004_1.length co15]) ?_ 3 _ rfl; (with_reducible repeat (first | refine blk_drewN ?_ _ | refine blk_drew ?_ | refine blk_alloc ?_ _)); refine blk_put (cs := #[.bool ((rd_T32 x124004_1 1).f0), .int .i64 ((rd_T32 x124004_1 1).f1), .int .i64 x124002_1, .slice (some ad124) x124003_1.length co14, .slice (some ad125) x124004_1.length co15]) ?_ 2 _ rfl; (with_reducible repeat (first | refine blk_drewN ?_ _ | refine blk_drew ?_ | refine blk_alloc ?_ _)); refine blk_put (cs := #[.bool ((rd_T32 x124004_1 1).f0), .int .i64 x124001_1, .int .i64 x124002_1, .slice (some ad124) x124003_1.length co14, .slice (some ad125) x124004_1.length co15]) ?_ 1 _ rfl; (with_reducible repeat (first | refine blk_drewN ?_ _ | refine blk_drew ?_ | refine blk_alloc ?_ _)); refine blk_put (cs := #[.bool false, .int .i64 x124001_1, .int .i64 x124002_1, .slice (some ad124) x124003_1.length co14, .slice (some ad125) x124004_1.length co15]) ?_ 0 _ rfl; (with_reducible repeat (first | refine blk_drewN ?_ _ | refine blk_drew ?_ | refine blk_alloc ?_ _)); exact BK123.out⟩, ⟨by repeat (first | (with_reducible first | exact HB.out | apply below_alloc | apply pw_below_drewN | apply below_drew1 | refine below_set ?_ GE123.out) | exact HB.out)⟩⟩
                · rw [if_neg c12] at H
                  exact absurd H (by simp)
              · replace c11 := Bool.eq_false_iff.mpr c11
                subst c11
                have H1 : (if 0 < (x124004_1.length : Int) then (commodatumref23_Execute.l0 k1 a1 a2 ((rd_T32 x124004_1 0).f0) ((rd_T32 x124004_1 0).f1) ((rd_T32 x124004_1 0).f2) ((rd_T32 x124004_1 0).f3) ((rd_T32 x124004_1 0).f4)) else (none)) = some r := by rw [if_neg (show ¬ (false = true) by decide)] at H; exact H
                clear H
                have H := H1
                clear H1
                by_cases c16 : 0 < (x124004_1.length : Int)
                · rw [if_pos c16] at H
                  have c16b0 : decide (0 < (x124004_1.length : Int)) = true := decide_eq_true c16
                  have c16b1 : decide (0 < x124004_1.length) = true := decide_eq_true (by omega)
                  clear c16
                  have H' := Aside0.mk H
                  clear H
                  have hcz17_0 : wr.cell? ⟨gb123, 0, none⟩ = some (.bool false) := (blk_cell BK123.out 0).trans rfl
                  have hcz17_1 : wr.cell? ⟨gb123, 1, none⟩ = some (.int .i64 x124001_1) := (blk_cell BK123.out 1).trans rfl
                  have hcz17_2 : wr.cell? ⟨gb123, 2, none⟩ = some (.int .i64 x124002_1) := (blk_cell BK123.out 2).trans rfl
                  have hcz17_3 : wr.cell? ⟨gb123, 3, none⟩ = some (u124003) := (blk_cell BK123.out 3).trans rfl
                  have hcz17_4 : wr.cell? ⟨gb123, 4, none⟩ = some (u124004) := (blk_cell BK123.out 4).trans rfl
                  have hfz17_0 := blk_frozen BK123.out 0
                  have hfz17_1 := blk_frozen BK123.out 1
                  have hfz17_2 := blk_frozen BK123.out 2
                  have hfz17_3 := blk_frozen BK123.out 3
                  have hfz17_4 := blk_frozen BK123.out 4
                  obtain ⟨Ao18, co18, eo18⟩ := Kd.V_slice HO_124003.out
                  subst eo18
                  have p124 : 0 ≤ (a2 : Int) := of_decide_eq_true (by first | (with_reducible assumption) | assumption)
                  have q124 : a2 < (x124003_1.length : Int) := of_decide_eq_true (by first | (with_reducible assumption) | assumption)
                  obtain ⟨ad124, e124, hx124_0⟩ := Kd.at_bool (Kd.V_reads' HO_124003.out).2.2 a2 p124 q124
                  (try rw [← Nbq10.out] at hx124_0)
                  cases e124
                  replace p124 := eq_true p124
                  replace q124 := eq_true q124
                  obtain ⟨Ao19, co19, eo19⟩ := Kd.V_slice HO_124004.out
                  subst eo19
                  have p126 : 0 ≤ (0 : Int) := (by omega)
                  have q126 : 0 < (x124004_1.length : Int) := of_decide_eq_true (by first | (with_reducible assumption) | assumption)
                  obtain ⟨ad126, A126_3, c126_3, A126_4, c126_4, e126, hx126_0, hx126_1, hx126_2, hx126_3, hx126_4, hl126_3, hi126_3, hl126_4, hi126_4⟩ := at_T32 (Kd.V_reads' HO_124004.out).2.2 0 p126 q126
                  (try rw [← Nbq10.out] at hx126_0)
                  cases e126
                  obtain ⟨ce126, hce126, hMe126, hcc126⟩ := Kd.V_get HO_124004.out z32 0 p126 (by first | exact q126 | exact of_decide_eq_true (by first | (with_reducible assumption) | assumption) | (have e_ := (Kd.V_reads' HO_124004.out).1; omega))
                  obtain ⟨ua126_3, uc126_3, ua126_4, uc126_4, rfl, ul126_3, ge126_3, ul126_4, ge126_4⟩ := k32_openF hMe126
                  have hv126_3 := hcc126 3 _ rfl
                  rw [add_field _ _ 3 (by omega)] at hv126_3
                  replace hv126_3 := Option.some.inj (hv126_3.symm.trans hx126_3)
                  injection hv126_3 with hva_ hvn_ hvc_
                  rw [hva_] at ge126_3
                  rw [hvc_] at ul126_3
                  have HL126_3 := Aside0.mk (show Kd.V Kd.bool 4 _ w.heap.size _ _ ((rd_T32 x124004_1 0).f3) from Kd.V_mk ul126_3 ge126_3)
                  clear hva_ hvn_ hvc_ ge126_3 ul126_3
                  have hv126_4 := hcc126 4 _ rfl
                  rw [add_field _ _ 4 (by omega)] at hv126_4
                  replace hv126_4 := Option.some.inj (hv126_4.symm.trans hx126_4)
                  injection hv126_4 with hva_ hvn_ hvc_
                  rw [hva_] at ge126_4
                  rw [hvc_] at ul126_4
                  have HL126_4 := Aside0.mk (show Kd.V k32 32 _ w.heap.size _ _ ((rd_T32 x124004_1 0).f4) from Kd.V_mk ul126_4 ge126_4)
                  clear hva_ hvn_ hvc_ ge126_4 ul126_4
                  clear hcc126 hce126
                  have qi126 : (0 < x124004_1.length) = True := eq_true (by omega)
                  (try rw [show ((0 : Int)).toNat = 0 from rfl] at hx126_0)
                  (try rw [show 0 * 5 = 0 from rfl] at hx126_0)
                  (try rw [Addr.add_zero'] at hx126_0)
                  (try rw [show ((0 : Int)).toNat = 0 from rfl] at hx126_1)
                  (try rw [show 0 * 5 = 0 from rfl] at hx126_1)
                  (try rw [Addr.add_zero'] at hx126_1)
                  (try rw [show ((0 : Int)).toNat = 0 from rfl] at hx126_2)
                  (try rw [show 0 * 5 = 0 from rfl] at hx126_2)
                  (try rw [Addr.add_zero'] at hx126_2)
                  (try rw [show ((0 : Int)).toNat = 0 from rfl] at hx126_3)
                  (try rw [show 0 * 5 = 0 from rfl] at hx126_3)
                  (try rw [Addr.add_zero'] at hx126_3)
                  (try rw [show ((0 : Int)).toNat = 0 from rfl] at hx126_4)
                  (try rw [show 0 * 5 = 0 from rfl] at hx126_4)
                  (try rw [Addr.add_zero'] at hx126_4)
                  have HR126_3 := Aside0.mk hi126_3
                  have HC126_3 := Aside0.mk hl126_3
                  clear hi126_3 hl126_3
                  have HR126_4 := Aside0.mk hi126_4
                  have HC126_4 := Aside0.mk hl126_4
                  clear hi126_4 hl126_4
                  replace p126 := eq_true p126
                  replace q126 := eq_true q126
                  go_wp2
                  go_roundg k1
                  case measure => have := HK1.out; omega
                  case rel => exact ⟨((rd_T32 x124004_1 0).f0), ((rd_T32 x124004_1 0).f1), ((rd_T32 x124004_1 0).f2), ((rd_T32 x124004_1 0).f3), ((rd_T32 x124004_1 0).f4), (.slice A126_3 ((rd_T32 x124004_1 0).f3).length c126_3), (.slice A126_4 ((rd_T32 x124004_1 0).f4).length c126_4), H', ⟨by have := HK1.out; omega⟩, ⟨by (with_reducible repeat (first | apply Kd.V_alloc | apply Kd.V_drewN | apply Kd.V_drew)); exact Kd.V_mono (Kd.V_far (p := ⟨gb123, 4, none⟩) (Kd.V_far (p := ⟨gb123, 3, none⟩) (Kd.V_far (p := ⟨gb123, 2, none⟩) (Kd.V_far (p := ⟨gb123, 1, none⟩) (Kd.V_far (p := ⟨gb123, 0, none⟩) (Kd.V_mono HL126_3.out (fun k_ hk => (⟨hk, hk.2⟩ : _ ∧ k_ ≠ gb123))) (fun _ hk => hk.2) (.bool ((rd_T32 x124004_1 0).f0))) (fun _ hk => hk.2) (.int .i64 ((rd_T32 x124004_1 0).f1))) (fun _ hk => hk.2) (.int .i64 ((rd_T32 x124004_1 0).f2))) (fun _ hk => hk.2) (.slice A126_3 ((rd_T32 x124004_1 0).f3).length c126_3)) (fun _ hk => hk.2) (.slice A126_4 ((rd_T32 x124004_1 0).f4).length c126_4)) (fun _ hk => ⟨hk.1.1, hk.1.2⟩)⟩, ⟨by (with_reducible repeat (first | apply Kd.V_alloc | apply Kd.V_drewN | apply Kd.V_drew)); exact Kd.V_mono (Kd.V_far (p := ⟨gb123, 4, none⟩) (Kd.V_far (p := ⟨gb123, 3, none⟩) (Kd.V_far (p := ⟨gb123, 2, none⟩) (Kd.V_far (p := ⟨gb123, 1, none⟩) (Kd.V_far (p := ⟨gb123, 0, none⟩) (Kd.V_mono HL126_4.out (fun k_ hk => (⟨hk, hk.2⟩ : _ ∧ k_ ≠ gb123))) (fun _ hk => hk.2) (.bool ((rd_T32 x124004_1 0).f0))) (fun _ hk => hk.2) (.int .i64 ((rd_T32 x124004_1 0).f1))) (fun _ hk => hk.2) (.int .i64 ((rd_T32 x124004_1 0).f2))) (fun _ hk => hk.2) (.slice A126_3 ((rd_T32 x124004_1 0).f3).length c126_3)) (fun _ hk => hk.2) (.slice A126_4 ((rd_T32 x124004_1 0).f4).length c126_4)) (fun _ hk => ⟨hk.1.1, hk.1.2⟩)⟩, ⟨by (with_reducible repeat (first | refine blk_drewN ?_ _ | refine blk_drew ?_ | refine blk_alloc ?_ _)); refine blk_put (cs := #[.bool ((rd_T32 x124004_1 0).f0), .int .i64 ((rd_T32 x124004_1 0).f1), .int .i64 ((rd_T32 x124004_1 0).f2), .slice A126_3 ((rd_T32 x124004_1 0).f3).length c126_3, .slice (some ad126) x124004_1.length co19]) ?_ 4 _ rfl; (with_reducible repeat (first | refine blk_drewN ?_ _ | refine blk_drew ?_ | refine blk_alloc ?_ _)); refine blk_put (cs := #[.bool ((rd_T32 x124004_1 0).f0), .int .i64 ((rd_T32 x124004_1 0).f1), .int .i64 ((rd_T32 x124004_1 0).f2), .slice (some ad124) x124003_1.length co18, .slice (some ad126) x124004_1.length co19]) ?_ 3 _ rfl; (with_reducible repeat (first | refine blk_drewN ?_ _ | refine blk_drew ?_ | refine blk_alloc ?_ _)); refine blk_put (cs := #[.bool ((rd_T32 x124004_1 0).f0), .int .i64 ((rd_T32 x124004_1 0).f1), .int .i64 x124002_1, .slice (some ad124) x124003_1.length co18, .slice (some ad126) x124004_1.length co19]) ?_ 2 _ rfl; (with_reducible repeat (first | refine blk_drewN ?_ _ | refine blk_drew ?_ | refine blk_alloc ?_ _)); refine blk_put (cs := #[.bool ((rd_T32 x124004_1 0).f0), .int .i64 x124001_1, .int .i64 x124002_1, .slice (some ad124) x124003_1.length co18, .slice (some ad126) x124004_1.length co19]) ?_ 1 _ rfl; (with_reducible repeat (first | refine blk_drewN ?_ _ | refine blk_drew ?_ | refine blk_alloc ?_ _)); refine blk_put (cs := #[.bool false, .int .i64 x124001_1, .int .i64 x124002_1, .slice (some ad124) x124003_1.length co18, .slice (some ad126) x124004_1.length co19]) ?_ 0 _ rfl; (with_reducible repeat (first | refine blk_drewN ?_ _ | refine blk_drew ?_ | refine blk_alloc ?_ _)); exact BK123.out⟩, ⟨by repeat (first | (with_reducible first | exact HB.out | apply below_alloc | apply pw_below_drewN | apply below_drew1 | refine below_set ?_ GE123.out) | exact HB.out)⟩⟩
                · rw [if_neg c16] at H
                  exact absurd H (by simp)
            · rw [if_neg c9] at H
              exact absurd H (by simp)
          · rw [if_neg c8] at H
            exact absurd H (by simp)
        · rw [if_neg c7] at H
          have c7b0 : (x124002_1 == 1) = false := beq_eq_false_iff_ne.mpr c7
          have c7b1 : (x124002_1 != 1) = true := bne_iff_ne.mpr c7
          by_cases c20 : 0 ≤ a1
          · rw [if_pos c20] at H
            have c20b0 : decide (0 ≤ a1) = true := decide_eq_true c20
            clear c20
            by_cases c21 : a1 < (x124003_1.length : Int)
            · rw [if_pos c21] at H
              have c21b0 : decide (a1 < (x124003_1.length : Int)) = true := decide_eq_true c21
              clear c21
              obtain ⟨bq22, hbq22⟩ : ∃ b_ : Bool, b_ = (rdOf false x124003_1 a1) := ⟨_, rfl⟩
              replace H : (if bq22 = true then (if 1 < (x124004_1.length : Int) then (commodatumref23_Execute.l0 k1 a1 a2 ((rd_T32 x124004_1 1).f0) ((rd_T32 x124004_1 1).f1) ((rd_T32 x124004_1 1).f2) ((rd_T32 x124004_1 1).f3) ((rd_T32 x124004_1 1).f4)) else (none)) else (if 0 < (x124004_1.length : Int) then (commodatumref23_Execute.l0 k1 a1 a2 ((rd_T32 x124004_1 0).f0) ((rd_T32 x124004_1 0).f1) ((rd_T32 x124004_1 0).f2) ((rd_T32 x124004_1 0).f3) ((rd_T32 x124004_1 0).f4)) else (none))) = some r := by rw [← hbq22] at H; exact H
              have Nbq22 := Aside0.mk hbq22
              clear hbq22
              by_cases c23 : bq22 = true
              · subst c23
                have H1 : (if 1 < (x124004_1.length : Int) then (commodatumref23_Execute.l0 k1 a1 a2 ((rd_T32 x124004_1 1).f0) ((rd_T32 x124004_1 1).f1) ((rd_T32 x124004_1 1).f2) ((rd_T32 x124004_1 1).f3) ((rd_T32 x124004_1 1).f4)) else (none)) = some r := by rw [if_pos rfl] at H; exact H
                clear H
                have H := H1
                clear H1
                by_cases c24 : 1 < (x124004_1.length : Int)
                · rw [if_pos c24] at H
                  have c24b0 : decide (1 < (x124004_1.length : Int)) = true := decide_eq_true c24
                  have c24b1 : decide (1 < x124004_1.length) = true := decide_eq_true (by omega)
                  clear c24
                  have H' := Aside0.mk H
                  clear H
                  have hcz25_0 : wr.cell? ⟨gb123, 0, none⟩ = some (.bool false) := (blk_cell BK123.out 0).trans rfl
                  have hcz25_1 : wr.cell? ⟨gb123, 1, none⟩ = some (.int .i64 x124001_1) := (blk_cell BK123.out 1).trans rfl
                  have hcz25_2 : wr.cell? ⟨gb123, 2, none⟩ = some (.int .i64 x124002_1) := (blk_cell BK123.out 2).trans rfl
                  have hcz25_3 : wr.cell? ⟨gb123, 3, none⟩ = some (u124003) := (blk_cell BK123.out 3).trans rfl
                  have hcz25_4 : wr.cell? ⟨gb123, 4, none⟩ = some (u124004) := (blk_cell BK123.out 4).trans rfl
                  have hfz25_0 := blk_frozen BK123.out 0
                  have hfz25_1 := blk_frozen BK123.out 1
                  have hfz25_2 := blk_frozen BK123.out 2
                  have hfz25_3 := blk_frozen BK123.out 3
                  have hfz25_4 := blk_frozen BK123.out 4
                  obtain ⟨Ao26, co26, eo26⟩ := Kd.V_slice HO_124003.out
                  subst eo26
                  have p127 : 0 ≤ (a1 : Int) := of_decide_eq_true (by first | (with_reducible assumption) | assumption)
                  have q127 : a1 < (x124003_1.length : Int) := of_decide_eq_true (by first | (with_reducible assumption) | assumption)
                  obtain ⟨ad127, e127, hx127_0⟩ := Kd.at_bool (Kd.V_reads' HO_124003.out).2.2 a1 p127 q127
                  (try rw [← Nbq22.out] at hx127_0)
                  cases e127
                  replace p127 := eq_true p127
                  replace q127 := eq_true q127
                  obtain ⟨Ao27, co27, eo27⟩ := Kd.V_slice HO_124004.out
                  subst eo27
                  have p128 : 0 ≤ (1 : Int) := (by omega)
                  have q128 : 1 < (x124004_1.length : Int) := of_decide_eq_true (by first | (with_reducible assumption) | assumption)
                  obtain ⟨ad128, A128_3, c128_3, A128_4, c128_4, e128, hx128_0, hx128_1, hx128_2, hx128_3, hx128_4, hl128_3, hi128_3, hl128_4, hi128_4⟩ := at_T32 (Kd.V_reads' HO_124004.out).2.2 1 p128 q128
                  (try rw [← Nbq22.out] at hx128_0)
                  cases e128
                  obtain ⟨ce128, hce128, hMe128, hcc128⟩ := Kd.V_get HO_124004.out z32 1 p128 (by first | exact q128 | exact of_decide_eq_true (by first | (with_reducible assumption) | assumption) | (have e_ := (Kd.V_reads' HO_124004.out).1; omega))
                  obtain ⟨ua128_3, uc128_3, ua128_4, uc128_4, rfl, ul128_3, ge128_3, ul128_4, ge128_4⟩ := k32_openF hMe128
                  have hv128_3 := hcc128 3 _ rfl
                  rw [add_field _ _ 3 (by omega)] at hv128_3
                  replace hv128_3 := Option.some.inj (hv128_3.symm.trans hx128_3)
                  injection hv128_3 with hva_ hvn_ hvc_
                  rw [hva_] at ge128_3
                  rw [hvc_] at ul128_3
                  have HL128_3 := Aside0.mk (show Kd.V Kd.bool 4 _ w.heap.size _ _ ((rd_T32 x124004_1 1).f3) from Kd.V_mk ul128_3 ge128_3)
                  clear hva_ hvn_ hvc_ ge128_3 ul128_3
                  have hv128_4 := hcc128 4 _ rfl
                  rw [add_field _ _ 4 (by omega)] at hv128_4
                  replace hv128_4 := Option.some.inj (hv128_4.symm.trans hx128_4)
                  injection hv128_4 with hva_ hvn_ hvc_
                  rw [hva_] at ge128_4
                  rw [hvc_] at ul128_4
                  have HL128_4 := Aside0.mk (show Kd.V k32 32 _ w.heap.size _ _ ((rd_T32 x124004_1 1).f4) from Kd.V_mk ul128_4 ge128_4)
                  clear hva_ hvn_ hvc_ ge128_4 ul128_4
                  clear hcc128 hce128
                  (try simp only [show (1 : Int).toNat = 1 from rfl, Nat.reduceMul, Nat.reduceEqDiff, Go.Addr.add, ↓reduceIte] at hx128_0)
                  (try simp only [show (1 : Int).toNat = 1 from rfl, Nat.reduceMul, Nat.reduceEqDiff, Go.Addr.add, ↓reduceIte] at hx128_1)
                  (try simp only [show (1 : Int).toNat = 1 from rfl, Nat.reduceMul, Nat.reduceEqDiff, Go.Addr.add, ↓reduceIte] at hx128_2)
                  (try simp only [show (1 : Int).toNat = 1 from rfl, Nat.reduceMul, Nat.reduceEqDiff, Go.Addr.add, ↓reduceIte] at hx128_3)
                  (try simp only [show (1 : Int).toNat = 1 from rfl, Nat.reduceMul, Nat.reduceEqDiff, Go.Addr.add, ↓reduceIte] at hx128_4)
                  have qi128 : (1 < x124004_1.length) = True := eq_true (by omega)
                  (try rw [show ((1 : Int)).toNat = 1 from rfl] at hx128_0)
                  (try rw [show 1 * 5 = 5 from rfl] at hx128_0)
                  (try rw [show ((1 : Int)).toNat = 1 from rfl] at hx128_1)
                  (try rw [show 1 * 5 = 5 from rfl] at hx128_1)
                  (try rw [show ((1 : Int)).toNat = 1 from rfl] at hx128_2)
                  (try rw [show 1 * 5 = 5 from rfl] at hx128_2)
                  (try rw [show ((1 : Int)).toNat = 1 from rfl] at hx128_3)
                  (try rw [show 1 * 5 = 5 from rfl] at hx128_3)
                  (try rw [show ((1 : Int)).toNat = 1 from rfl] at hx128_4)
                  (try rw [show 1 * 5 = 5 from rfl] at hx128_4)
                  have HR128_3 := Aside0.mk hi128_3
                  have HC128_3 := Aside0.mk hl128_3
                  clear hi128_3 hl128_3
                  have HR128_4 := Aside0.mk hi128_4
                  have HC128_4 := Aside0.mk hl128_4
                  clear hi128_4 hl128_4
                  replace p128 := eq_true p128
                  replace q128 := eq_true q128
                  go_wp2
                  go_roundg k1
                  case measure => have := HK1.out; omega
                  case rel => exact ⟨((rd_T32 x124004_1 1).f0), ((rd_T32 x124004_1 1).f1), ((rd_T32 x124004_1 1).f2), ((rd_T32 x124004_1 1).f3), ((rd_T32 x124004_1 1).f4), (.slice A128_3 ((rd_T32 x124004_1 1).f3).length c128_3), (.slice A128_4 ((rd_T32 x124004_1 1).f4).length c128_4), H', ⟨by have := HK1.out; omega⟩, ⟨by (with_reducible repeat (first | apply Kd.V_alloc | apply Kd.V_drewN | apply Kd.V_drew)); exact Kd.V_mono (Kd.V_far (p := ⟨gb123, 4, none⟩) (Kd.V_far (p := ⟨gb123, 3, none⟩) (Kd.V_far (p := ⟨gb123, 2, none⟩) (Kd.V_far (p := ⟨gb123, 1, none⟩) (Kd.V_far (p := ⟨gb123, 0, none⟩) (Kd.V_mono HL128_3.out (fun k_ hk => (⟨hk, hk.2⟩ : _ ∧ k_ ≠ gb123))) (fun _ hk => hk.2) (.bool ((rd_T32 x124004_1 1).f0))) (fun _ hk => hk.2) (.int .i64 ((rd_T32 x124004_1 1).f1))) (fun _ hk => hk.2) (.int .i64 ((rd_T32 x124004_1 1).f2))) (fun _ hk => hk.2) (.slice A128_3 ((rd_T32 x124004_1 1).f3).length c128_3)) (fun _ hk => hk.2) (.slice A128_4 ((rd_T32 x124004_1 1).f4).length c128_4)) (fun _ hk => ⟨hk.1.1, hk.1.2⟩)⟩, ⟨by (with_reducible repeat (first | apply Kd.V_alloc | apply Kd.V_drewN | apply Kd.V_drew)); exact Kd.V_mono (Kd.V_far (p := ⟨gb123, 4, none⟩) (Kd.V_far (p := ⟨gb123, 3, none⟩) (Kd.V_far (p := ⟨gb123, 2, none⟩) (Kd.V_far (p := ⟨gb123, 1, none⟩) (Kd.V_far (p := ⟨gb123, 0, none⟩) (Kd.V_mono HL128_4.out (fun k_ hk => (⟨hk, hk.2⟩ : _ ∧ k_ ≠ gb123))) (fun _ hk => hk.2) (.bool ((rd_T32 x124004_1 1).f0))) (fun _ hk => hk.2) (.int .i64 ((rd_T32 x124004_1 1).f1))) (fun _ hk => hk.2) (.int .i64 ((rd_T32 x124004_1 1).f2))) (fun _ hk => hk.2) (.slice A128_3 ((rd_T32 x124004_1 1).f3).length c128_3)) (fun _ hk => hk.2) (.slice A128_4 ((rd_T32 x124004_1 1).f4).length c128_4)) (fun _ hk => ⟨hk.1.1, hk.1.2⟩)⟩, ⟨by (with_reducible repeat (first | refine blk_drewN ?_ _ | refine blk_drew ?_ | refine blk_alloc ?_ _)); refine blk_put (cs := #[.bool ((rd_T32 x124004_1 1).f0), .int .i64 ((rd_T32 x124004_1 1).f1), .int .i64 ((rd_T32 x124004_1 1).f2), .slice A128_3 ((rd_T32 x124004_1 1).f3).length c128_3, .slice (some ad128) x124004_1.length co27]) ?_ 4 _ rfl; (with_reducible repeat (first | refine blk_drewN ?_ _ | refine blk_drew ?_ | refine blk_alloc ?_ _)); refine blk_put (cs := #[.bool ((rd_T32 x124004_1 1).f0), .int .i64 ((rd_T32 x124004_1 1).f1), .int .i64 ((rd_T32 x124004_1 1).f2), .slice (some ad127) x124003_1.length co26, .slice (some ad128) x124004_1.length co27]) ?_ 3 _ rfl; (with_reducible repeat (first | refine blk_drewN ?_ _ | refine blk_drew ?_ | refine blk_alloc ?_ _)); refine blk_put (cs := #[.bool ((rd_T32 x124004_1 1).f0), .int .i64 ((rd_T32 x124004_1 1).f1), .int .i64 x124002_1, .slice (some ad127) x124003_1.length co26, .slice (some ad128) x124004_1.length co27]) ?_ 2 _ rfl; (with_reducible repeat (first | refine blk_drewN ?_ _ | refine blk_drew ?_ | refine blk_alloc ?_ _)); refine blk_put (cs := #[.bool ((rd_T32 x124004_1 1).f0), .int .i64 x124001_1, .int .i64 x124002_1, .slice (some ad127) x124003_1.length co26, .slice (some ad128) x124004_1.length co27]) ?_ 1 _ rfl; (with_reducible repeat (first | refine blk_drewN ?_ _ | refine blk_drew ?_ | refine blk_alloc ?_ _)); refine blk_put (cs := #[.bool false, .int .i64 x124001_1, .int .i64 x124002_1, .slice (some ad127) x124003_1.length co26, .slice (some ad128) x124004_1.length co27]) ?_ 0 _ rfl; (with_reducible repeat (first | refine blk_drewN ?_ _ | refine blk_drew ?_ | refine blk_alloc ?_ _)); exact BK123.out⟩, ⟨by repeat (first | (with_reducible first | exact HB.out | apply below_alloc | apply pw_below_drewN | apply below_drew1 | refine below_set ?_ GE123.out) | exact HB.out)⟩⟩
                · rw [if_neg c24] at H
                  exact absurd H (by simp)
              · replace c23 := Bool.eq_false_iff.mpr c23
                subst c23
                have H1 : (if 0 < (x124004_1.length : Int) then (commodatumref23_Execute.l0 k1 a1 a2 ((rd_T32 x124004_1 0).f0) ((rd_T32 x124004_1 0).f1) ((rd_T32 x124004_1 0).f2) ((rd_T32 x124004_1 0).f3) ((rd_T32 x124004_1 0).f4)) else (none)) = some r := by rw [if_neg (show ¬ (false = true) by decide)] at H; exact H
                clear H
                have H := H1
                clear H1
                by_cases c28 : 0 < (x124004_1.length : Int)
                · rw [if_pos c28] at H
                  have c28b0 : decide (0 < (x124004_1.length : Int)) = true := decide_eq_true c28
                  have c28b1 : decide (0 < x124004_1.length) = true := decide_eq_true (by omega)
                  clear c28
                  have H' := Aside0.mk H
                  clear H
                  have hcz29_0 : wr.cell? ⟨gb123, 0, none⟩ = some (.bool false) := (blk_cell BK123.out 0).trans rfl
                  have hcz29_1 : wr.cell? ⟨gb123, 1, none⟩ = some (.int .i64 x124001_1) := (blk_cell BK123.out 1).trans rfl
                  have hcz29_2 : wr.cell? ⟨gb123, 2, none⟩ = some (.int .i64 x124002_1) := (blk_cell BK123.out 2).trans rfl
                  have hcz29_3 : wr.cell? ⟨gb123, 3, none⟩ = some (u124003) := (blk_cell BK123.out 3).trans rfl
                  have hcz29_4 : wr.cell? ⟨gb123, 4, none⟩ = some (u124004) := (blk_cell BK123.out 4).trans rfl
                  have hfz29_0 := blk_frozen BK123.out 0
                  have hfz29_1 := blk_frozen BK123.out 1
                  have hfz29_2 := blk_frozen BK123.out 2
                  have hfz29_3 := blk_frozen BK123.out 3
                  have hfz29_4 := blk_frozen BK123.out 4
                  obtain ⟨Ao30, co30, eo30⟩ := Kd.V_slice HO_124003.out
                  subst eo30
                  have p127 : 0 ≤ (a1 : Int) := of_decide_eq_true (by first | (with_reducible assumption) | assumption)
                  have q127 : a1 < (x124003_1.length : Int) := of_decide_eq_true (by first | (with_reducible assumption) | assumption)
                  obtain ⟨ad127, e127, hx127_0⟩ := Kd.at_bool (Kd.V_reads' HO_124003.out).2.2 a1 p127 q127
                  (try rw [← Nbq22.out] at hx127_0)
                  cases e127
                  replace p127 := eq_true p127
                  replace q127 := eq_true q127
                  obtain ⟨Ao31, co31, eo31⟩ := Kd.V_slice HO_124004.out
                  subst eo31
                  have p129 : 0 ≤ (0 : Int) := (by omega)
                  have q129 : 0 < (x124004_1.length : Int) := of_decide_eq_true (by first | (with_reducible assumption) | assumption)
                  obtain ⟨ad129, A129_3, c129_3, A129_4, c129_4, e129, hx129_0, hx129_1, hx129_2, hx129_3, hx129_4, hl129_3, hi129_3, hl129_4, hi129_4⟩ := at_T32 (Kd.V_reads' HO_124004.out).2.2 0 p129 q129
                  (try rw [← Nbq22.out] at hx129_0)
                  cases e129
                  obtain ⟨ce129, hce129, hMe129, hcc129⟩ := Kd.V_get HO_124004.out z32 0 p129 (by first | exact q129 | exact of_decide_eq_true (by first | (with_reducible assumption) | assumption) | (have e_ := (Kd.V_reads' HO_124004.out).1; omega))
                  obtain ⟨ua129_3, uc129_3, ua129_4, uc129_4, rfl, ul129_3, ge129_3, ul129_4, ge129_4⟩ := k32_openF hMe129
                  have hv129_3 := hcc129 3 _ rfl
                  rw [add_field _ _ 3 (by omega)] at hv129_3
                  replace hv129_3 := Option.some.inj (hv129_3.symm.trans hx129_3)
                  injection hv129_3 with hva_ hvn_ hvc_
                  rw [hva_] at ge129_3
                  rw [hvc_] at ul129_3
                  have HL129_3 := Aside0.mk (show Kd.V Kd.bool 4 _ w.heap.size _ _ ((rd_T32 x124004_1 0).f3) from Kd.V_mk ul129_3 ge129_3)
                  clear hva_ hvn_ hvc_ ge129_3 ul129_3
                  have hv129_4 := hcc129 4 _ rfl
                  rw [add_field _ _ 4 (by omega)] at hv129_4
                  replace hv129_4 := Option.some.inj (hv129_4.symm.trans hx129_4)
                  injection hv129_4 with hva_ hvn_ hvc_
                  rw [hva_] at ge129_4
                  rw [hvc_] at ul129_4
                  have HL129_4 := Aside0.mk (show Kd.V k32 32 _ w.heap.size _ _ ((rd_T32 x124004_1 0).f4) from Kd.V_mk ul129_4 ge129_4)
                  clear hva_ hvn_ hvc_ ge129_4 ul129_4
                  clear hcc129 hce129
                  have qi129 : (0 < x124004_1.length) = True := eq_true (by omega)
                  (try rw [show ((0 : Int)).toNat = 0 from rfl] at hx129_0)
                  (try rw [show 0 * 5 = 0 from rfl] at hx129_0)
                  (try rw [Addr.add_zero'] at hx129_0)
                  (try rw [show ((0 : Int)).toNat = 0 from rfl] at hx129_1)
                  (try rw [show 0 * 5 = 0 from rfl] at hx129_1)
                  (try rw [Addr.add_zero'] at hx129_1)
                  (try rw [show ((0 : Int)).toNat = 0 from rfl] at hx129_2)
                  (try rw [show 0 * 5 = 0 from rfl] at hx129_2)
                  (try rw [Addr.add_zero'] at hx129_2)
                  (try rw [show ((0 : Int)).toNat = 0 from rfl] at hx129_3)
                  (try rw [show 0 * 5 = 0 from rfl] at hx129_3)
                  (try rw [Addr.add_zero'] at hx129_3)
                  (try rw [show ((0 : Int)).toNat = 0 from rfl] at hx129_4)
                  (try rw [show 0 * 5 = 0 from rfl] at hx129_4)
                  (try rw [Addr.add_zero'] at hx129_4)
                  have HR129_3 := Aside0.mk hi129_3
                  have HC129_3 := Aside0.mk hl129_3
                  clear hi129_3 hl129_3
                  have HR129_4 := Aside0.mk hi129_4
                  have HC129_4 := Aside0.mk hl129_4
                  clear hi129_4 hl129_4
                  replace p129 := eq_true p129
                  replace q129 := eq_true q129
                  go_wp2
                  go_roundg k1
                  case measure => have := HK1.out; omega
                  case rel => exact ⟨((rd_T32 x124004_1 0).f0), ((rd_T32 x124004_1 0).f1), ((rd_T32 x124004_1 0).f2), ((rd_T32 x124004_1 0).f3), ((rd_T32 x124004_1 0).f4), (.slice A129_3 ((rd_T32 x124004_1 0).f3).length c129_3), (.slice A129_4 ((rd_T32 x124004_1 0).f4).length c129_4), H', ⟨by have := HK1.out; omega⟩, ⟨by (with_reducible repeat (first | apply Kd.V_alloc | apply Kd.V_drewN | apply Kd.V_drew)); exact Kd.V_mono (Kd.V_far (p := ⟨gb123, 4, none⟩) (Kd.V_far (p := ⟨gb123, 3, none⟩) (Kd.V_far (p := ⟨gb123, 2, none⟩) (Kd.V_far (p := ⟨gb123, 1, none⟩) (Kd.V_far (p := ⟨gb123, 0, none⟩) (Kd.V_mono HL129_3.out (fun k_ hk => (⟨hk, hk.2⟩ : _ ∧ k_ ≠ gb123))) (fun _ hk => hk.2) (.bool ((rd_T32 x124004_1 0).f0))) (fun _ hk => hk.2) (.int .i64 ((rd_T32 x124004_1 0).f1))) (fun _ hk => hk.2) (.int .i64 ((rd_T32 x124004_1 0).f2))) (fun _ hk => hk.2) (.slice A129_3 ((rd_T32 x124004_1 0).f3).length c129_3)) (fun _ hk => hk.2) (.slice A129_4 ((rd_T32 x124004_1 0).f4).length c129_4)) (fun _ hk => ⟨hk.1.1, hk.1.2⟩)⟩, ⟨by (with_reducible repeat (first | apply Kd.V_alloc | apply Kd.V_drewN | apply Kd.V_drew)); exact Kd.V_mono (Kd.V_far (p := ⟨gb123, 4, none⟩) (Kd.V_far (p := ⟨gb123, 3, none⟩) (Kd.V_far (p := ⟨gb123, 2, none⟩) (Kd.V_far (p := ⟨gb123, 1, none⟩) (Kd.V_far (p := ⟨gb123, 0, none⟩) (Kd.V_mono HL129_4.out (fun k_ hk => (⟨hk, hk.2⟩ : _ ∧ k_ ≠ gb123))) (fun _ hk => hk.2) (.bool ((rd_T32 x124004_1 0).f0))) (fun _ hk => hk.2) (.int .i64 ((rd_T32 x124004_1 0).f1))) (fun _ hk => hk.2) (.int .i64 ((rd_T32 x124004_1 0).f2))) (fun _ hk => hk.2) (.slice A129_3 ((rd_T32 x124004_1 0).f3).length c129_3)) (fun _ hk => hk.2) (.slice A129_4 ((rd_T32 x124004_1 0).f4).length c129_4)) (fun _ hk => ⟨hk.1.1, hk.1.2⟩)⟩, ⟨by (with_reducible repeat (first | refine blk_drewN ?_ _ | refine blk_drew ?_ | refine blk_alloc ?_ _)); refine blk_put (cs := #[.bool ((rd_T32 x124004_1 0).f0), .int .i64 ((rd_T32 x124004_1 0).f1), .int .i64 ((rd_T32 x124004_1 0).f2), .slice A129_3 ((rd_T32 x124004_1 0).f3).length c129_3, .slice (some ad129) x124004_1.length co31]) ?_ 4 _ rfl; (with_reducible repeat (first | refine blk_drewN ?_ _ | refine blk_drew ?_ | refine blk_alloc ?_ _)); refine blk_put (cs := #[.bool ((rd_T32 x124004_1 0).f0), .int .i64 ((rd_T32 x124004_1 0).f1), .int .i64 ((rd_T32 x124004_1 0).f2), .slice (some ad127) x124003_1.length co30, .slice (some ad129) x124004_1.length co31]) ?_ 3 _ rfl; (with_reducible repeat (first | refine blk_drewN ?_ _ | refine blk_drew ?_ | refine blk_alloc ?_ _)); refine blk_put (cs := #[.bool ((rd_T32 x124004_1 0).f0), .int .i64 ((rd_T32 x124004_1 0).f1), .int .i64 x124002_1, .slice (some ad127) x124003_1.length co30, .slice (some ad129) x124004_1.length co31]) ?_ 2 _ rfl; (with_reducible repeat (first | refine blk_drewN ?_ _ | refine blk_drew ?_ | refine blk_alloc ?_ _)); refine blk_put (cs := #[.bool ((rd_T32 x124004_1 0).f0), .int .i64 x124001_1, .int .i64 x124002_1, .slice (some ad127) x124003_1.length co30, .slice (some ad129) x124004_1.length co31]) ?_ 1 _ rfl; (with_reducible repeat (first | refine blk_drewN ?_ _ | refine blk_drew ?_ | refine blk_alloc ?_ _)); refine blk_put (cs := #[.bool false, .int .i64 x124001_1, .int .i64 x124002_1, .slice (some ad127) x124003_1.length co30, .slice (some ad129) x124004_1.length co31]) ?_ 0 _ rfl; (with_reducible repeat (first | refine blk_drewN ?_ _ | refine blk_drew ?_ | refine blk_alloc ?_ _)); exact BK123.out⟩, ⟨by repeat (first | (with_reducible first | exact HB.out | apply below_alloc | apply pw_below_drewN | apply below_drew1 | refine below_set ?_ GE123.out) | exact HB.out)⟩⟩
                · rw [if_neg c28] at H
                  exact absurd H (by simp)
            · rw [if_neg c21] at H
              exact absurd H (by simp)
          · rw [if_neg c20] at H
            exact absurd H (by simp)

/-! ### commodatumref23_Solves: function 20 -/
mutual
def commodatumref23_Solves.l0 : Nat → List Bool → Int → Bool → Int → Int → List Bool → List (S32) → Option (Bool)
  | 0, _, _, _, _, _, _, _ => none
  | k + 1, x1, x5, x131000, x131001, x131002, x131003, x131004 => if x5 < (x1.length : Int) then (commodatumref23_Solves.l1 k x1 x5 0 x131000 x131001 x131002 x131003 x131004) else (some true)
def commodatumref23_Solves.l1 : Nat → List Bool → Int → Int → Bool → Int → Int → List Bool → List (S32) → Option (Bool)
  | 0, _, _, _, _, _, _, _, _ => none
  | k + 1, x1, x5, x6, x131000, x131001, x131002, x131003, x131004 => if x6 < (x1.length : Int) then (if 0 ≤ x5 then (if x5 < (x1.length : Int) then (commodatumref23_Solves.j2 k x1 x5 x6 (rdOf false x1 x5) x131000 x131001 x131002 x131003 x131004) else (none)) else (none)) else (commodatumref23_Solves.j2 k x1 x5 x6 false x131000 x131001 x131002 x131003 x131004)
def commodatumref23_Solves.j2 : Nat → List Bool → Int → Int → Bool → Bool → Int → Int → List Bool → List (S32) → Option (Bool)
  | 0, _, _, _, _, _, _, _, _, _ => none
  | k + 1, x1, x5, x6, x22, x131000, x131001, x131002, x131003, x131004 => if x22 = true then (if 0 ≤ x6 then (if x6 < (x1.length : Int) then (if rdOf false x1 x6 = true then (commodatumref23_Solves.l1 k x1 x5 (wrap64 (x6 + 1)) x131000 x131001 x131002 x131003 x131004) else ((commodatumref23_Execute.f k x131000 x131001 x131002 x131003 x131004 x5 x6).bind fun t133 => (if 0 ≤ t133 then (if (Go.bits .and .i64 (shr .i64 (Go.bits .xor .i64 x5 x6) t133) 1) = 0 then (some false) else (commodatumref23_Solves.l1 k x1 x5 (wrap64 (x6 + 1)) x131000 x131001 x131002 x131003 x131004)) else (none)))) else (none)) else (none)) else (commodatumref23_Solves.l0 k x1 (wrap64 (x5 + 1)) x131000 x131001 x131002 x131003 x131004)
end
def commodatumref23_Solves.f (k : Nat) (a0_0 : Bool) (a0_1 : Int) (a0_2 : Int) (l0_3 : List Bool) (l0_4 : List (S32)) (l1 : List Bool) : Option (Bool) := commodatumref23_Solves.l0 k l1 0 a0_0 a0_1 a0_2 l0_3 l0_4
theorem commodatumref23_Solves.mono_l : ∀ k, (∀ y0 y1 y2 y3 y4 y5 y6, LeO (commodatumref23_Solves.l0 k y0 y1 y2 y3 y4 y5 y6) (commodatumref23_Solves.l0 (k + 1) y0 y1 y2 y3 y4 y5 y6)) ∧ (∀ y0 y1 y2 y3 y4 y5 y6 y7, LeO (commodatumref23_Solves.l1 k y0 y1 y2 y3 y4 y5 y6 y7) (commodatumref23_Solves.l1 (k + 1) y0 y1 y2 y3 y4 y5 y6 y7)) ∧ (∀ y0 y1 y2 y3 y4 y5 y6 y7 y8, LeO (commodatumref23_Solves.j2 k y0 y1 y2 y3 y4 y5 y6 y7 y8) (commodatumref23_Solves.j2 (k + 1) y0 y1 y2 y3 y4 y5 y6 y7 y8))
  | 0 => ⟨fun _ _ _ _ _ _ _ r h => by simp [commodatumref23_Solves.l0] at h, fun _ _ _ _ _ _ _ _ r h => by simp [commodatumref23_Solves.l1] at h, fun _ _ _ _ _ _ _ _ _ r h => by simp [commodatumref23_Solves.j2] at h⟩
  | k + 1 => by
    obtain ⟨ih0, ih1, ih2⟩ := commodatumref23_Solves.mono_l k
    refine ⟨?_, ?_, ?_⟩
    · intro y0 y1 y2 y3 y4 y5 y6
      unfold commodatumref23_Solves.l0
      repeat' first
      | (with_reducible exact ih0 _ _ _ _ _ _ _)
      | (with_reducible exact ih1 _ _ _ _ _ _ _ _)
      | (with_reducible exact ih2 _ _ _ _ _ _ _ _ _)
      | (with_reducible exact commodatumref23_Execute.mono _ _ _ _ _ _ _ _)
      | (with_reducible exact LeO.refl _)
      | (with_reducible exact LeO.none _)
      | (with_reducible refine LeO.ite ?_ ?_)
      | (with_reducible refine LeO.bind ?_ (fun _ => ?_))
      | exact ih0 _ _ _ _ _ _ _
      | exact ih1 _ _ _ _ _ _ _ _
      | exact ih2 _ _ _ _ _ _ _ _ _
      | exact commodatumref23_Execute.mono _ _ _ _ _ _ _ _
      | exact LeO.none _
      | refine LeO.ite ?_ ?_
      | refine LeO.bind ?_ (fun _ => ?_)
    · intro y0 y1 y2 y3 y4 y5 y6 y7
      unfold commodatumref23_Solves.l1
      repeat' first
      | (with_reducible exact ih0 _ _ _ _ _ _ _)
      | (with_reducible exact ih1 _ _ _ _ _ _ _ _)
      | (with_reducible exact ih2 _ _ _ _ _ _ _ _ _)
      | (with_reducible exact commodatumref23_Execute.mono _ _ _ _ _ _ _ _)
      | (with_reducible exact LeO.refl _)
      | (with_reducible exact LeO.none _)
      | (with_reducible refine LeO.ite ?_ ?_)
      | (with_reducible refine LeO.bind ?_ (fun _ => ?_))
      | exact ih0 _ _ _ _ _ _ _
      | exact ih1 _ _ _ _ _ _ _ _
      | exact ih2 _ _ _ _ _ _ _ _ _
      | exact commodatumref23_Execute.mono _ _ _ _ _ _ _ _
      | exact LeO.none _
      | refine LeO.ite ?_ ?_
      | refine LeO.bind ?_ (fun _ => ?_)
    · intro y0 y1 y2 y3 y4 y5 y6 y7 y8
      unfold commodatumref23_Solves.j2
      repeat' first
      | (with_reducible exact ih0 _ _ _ _ _ _ _)
      | (with_reducible exact ih1 _ _ _ _ _ _ _ _)
      | (with_reducible exact ih2 _ _ _ _ _ _ _ _ _)
      | (with_reducible exact commodatumref23_Execute.mono _ _ _ _ _ _ _ _)
      | (with_reducible exact LeO.refl _)
      | (with_reducible exact LeO.none _)
      | (with_reducible refine LeO.ite ?_ ?_)
      | (with_reducible refine LeO.bind ?_ (fun _ => ?_))
      | exact ih0 _ _ _ _ _ _ _
      | exact ih1 _ _ _ _ _ _ _ _
      | exact ih2 _ _ _ _ _ _ _ _ _
      | exact commodatumref23_Execute.mono _ _ _ _ _ _ _ _
      | exact LeO.none _
      | refine LeO.ite ?_ ?_
      | refine LeO.bind ?_ (fun _ => ?_)
theorem commodatumref23_Solves.mono : ∀ a0 a1 a2 a3 a4 a5 k, LeO (commodatumref23_Solves.f k a0 a1 a2 a3 a4 a5) (commodatumref23_Solves.f (k + 1) a0 a1 a2 a3 a4 a5) := by
  intro a0 a1 a2 a3 a4 a5 k
  obtain ⟨ih0, ih1, ih2⟩ := commodatumref23_Solves.mono_l k
  unfold commodatumref23_Solves.f
  repeat' first
      | (with_reducible exact ih0 _ _ _ _ _ _ _)
      | (with_reducible exact ih1 _ _ _ _ _ _ _ _)
      | (with_reducible exact ih2 _ _ _ _ _ _ _ _ _)
      | (with_reducible exact commodatumref23_Execute.mono _ _ _ _ _ _ _ _)
      | (with_reducible exact LeO.refl _)
      | (with_reducible exact LeO.none _)
      | (with_reducible refine LeO.ite ?_ ?_)
      | (with_reducible refine LeO.bind ?_ (fun _ => ?_))
      | exact ih0 _ _ _ _ _ _ _
      | exact ih1 _ _ _ _ _ _ _ _
      | exact ih2 _ _ _ _ _ _ _ _ _
      | exact commodatumref23_Execute.mono _ _ _ _ _ _ _ _
      | exact LeO.none _
      | refine LeO.ite ?_ ?_
      | refine LeO.bind ?_ (fun _ => ?_)
set_option maxHeartbeats 8000000 in
set_option maxRecDepth 100000 in
theorem commodatumref23_Solves.calls (k : Nat) (a0_0 : Bool) (a0_1 : Int) (a0_2 : Int) (A0_3 : Option Addr) (c0_3 : Nat) (l0_3 : List Bool) (A0_4 : Option Addr) (c0_4 : Nat) (l0_4 : List (S32)) (A1 : Option Addr) (c1 : Nat) (l1 : List Bool) (r : Bool) (w : World) (hr0_3 : Kd.C Kd.bool w A0_3 l0_3.length l0_3) (hc0_3 : l0_3.length ≤ c0_3) (hr0_4 : Kd.C k32 w A0_4 l0_4.length l0_4) (hc0_4 : l0_4.length ≤ c0_4) (hr1 : Kd.C Kd.bool w A1 l1.length l1) (hc1 : l1.length ≤ c1) (h : commodatumref23_Solves.f k a0_0 a0_1 a0_2 l0_3 l0_4 l1 = some r) :
    Calls Try.prog 20 #[.agg #[.bool a0_0, .int .i64 a0_1, .int .i64 a0_2, .slice A0_3 l0_3.length c0_3, .slice A0_4 l0_4.length c0_4], .slice A1 l1.length c1] w fun e w' => e = .returned (.bool r) ∧ Below w.heap.size w w' := by
  have hu32 := Try.underlying32
  have HR0_3 := Aside0.mk hr0_3
  have HC0_3 := Aside0.mk hc0_3
  clear hr0_3 hc0_3
  have HR0_4 := Aside0.mk hr0_4
  have HC0_4 := Aside0.mk hc0_4
  clear hr0_4 hc0_4
  have HR1 := Aside0.mk hr1
  have HC1 := Aside0.mk hc1
  clear hr1 hc1
  have HB := Aside0.mk (Below.refl w.heap.size w)
  have H : (commodatumref23_Solves.l0 k l1 0 a0_0 a0_1 a0_2 l0_3 l0_4) = some r := h
  clear h
  have H' := Aside0.mk H
  clear H
  go_enter Try.func20, Try.ntmps20
  go_wp2_with (first | ((with_reducible refine gate_dst (N := 2) rfl ?_); refine box_event ?hg (N := 2) ?hd (cs := #[.bool a0_0, .int .i64 a0_1, .int .i64 a0_2, .slice A0_3 l0_3.length c0_3, .slice A0_4 l0_4.length c0_4]) (t := 32) ?hr ?_; (case hd => rfl); (case hg => rfl); (case hr => first | (go_simp; done) | (go_simp; rfl)); intro gb130 hg w3 hbox hb; have n0_ := Aside0.mk (below_step (by repeat (first | (with_reducible first | exact HB.out | apply below_alloc | apply pw_below_drewN | apply below_drew1) | exact HB.out)) hb); have n1_ := Aside0.mk (hbox); have n2_ := Aside0.mk ((by rw [hg]; exact (below_size (by repeat (first | (with_reducible first | exact HB.out | apply below_alloc | apply pw_below_drewN | apply below_drew1) | exact HB.out))) : w.heap.size ≤ gb130)); have n3_ := Aside0.mk ((by rw [hg]; exact (below_size (by repeat (first | (with_reducible first | exact HB.out | apply below_alloc | apply pw_below_drewN | apply below_drew1) | exact HB.out))) : w.heap.size ≤ gb130)); clear HB; have HB := n0_; have BK130 := n1_; have GW130 := n2_; have GE130 := n3_; clear n0_ n1_ n2_ n3_; clear hb hbox hg))
  go_loopg [5] k (fun kq v5 w' => ∃ (x5_1 : Int), v5 = .int .i64 x5_1 ∧ Aside0 (commodatumref23_Solves.l0 kq l1 x5_1 a0_0 a0_1 a0_2 l0_3 l0_4 = some r) ∧ Aside0 (kq ≤ k) ∧ Aside0 (w'.heap[gb130]? = some (.cells #[.bool a0_0, .int .i64 a0_1, .int .i64 a0_2, (.slice A0_3 l0_3.length c0_3), (.slice A0_4 l0_4.length c0_4)] 32 (0, 0))) ∧ Aside0 (Below w.heap.size w w'))
  case atStart => exact ⟨(0), (by first | rfl | (simp; done) | (simp [*]; done)), H', ⟨Nat.le_refl _⟩, ⟨by (with_reducible repeat (first | refine blk_drewN ?_ _ | refine blk_drew ?_ | refine blk_alloc ?_ _)); exact BK130.out⟩, ⟨by repeat (first | (with_reducible first | exact HB.out | apply below_alloc | apply pw_below_drewN | apply below_drew1 | refine below_set ?_ GE130.out) | exact HB.out)⟩⟩
  case round =>
    clear H'
    try clear c1
    try clear c2
    try clear p2
    obtain ⟨x5_1, rfl, HA, HK1, BK130, HB⟩ := hrel
    cases gk with
    | zero => exact absurd HA.out (by simp [commodatumref23_Solves.l0])
    | succ k1 =>
      have H := HA.out
      clear HA
      simp only [commodatumref23_Solves.l0] at H
      by_cases c4 : x5_1 < (l1.length : Int)
      · rw [if_pos c4] at H
        have c4b0 : decide (x5_1 < (l1.length : Int)) = true := decide_eq_true c4
        clear c4
        have H' := Aside0.mk H
        clear H
        go_wp2
        go_loopg [6] k1 (fun kq v6 w' => ∃ (x6_2 : Int), v6 = .int .i64 x6_2 ∧ Aside0 (commodatumref23_Solves.l1 kq l1 x5_1 x6_2 a0_0 a0_1 a0_2 l0_3 l0_4 = some r) ∧ Aside0 (kq ≤ k1) ∧ Aside0 (w'.heap[gb130]? = some (.cells #[.bool a0_0, .int .i64 a0_1, .int .i64 a0_2, (.slice A0_3 l0_3.length c0_3), (.slice A0_4 l0_4.length c0_4)] 32 (0, 0))) ∧ Aside0 (Below w.heap.size w w'))
        case atStart => exact ⟨(0), (by first | rfl | (simp; done) | (simp [*]; done)), H', ⟨Nat.le_refl _⟩, ⟨by (with_reducible repeat (first | refine blk_drewN ?_ _ | refine blk_drew ?_ | refine blk_alloc ?_ _)); exact BK130.out⟩, ⟨by repeat (first | (with_reducible first | exact HB.out | apply below_alloc | apply pw_below_drewN | apply below_drew1 | refine below_set ?_ GE130.out) | exact HB.out)⟩⟩
        case round =>
          clear H'
          try clear c1
          try clear c2
          try clear p2
          try clear c4
          try clear c4b0
          try clear p2
          obtain ⟨x6_2, rfl, HA, HK2, BK130, HB⟩ := hrel
          cases gk with
          | zero => exact absurd HA.out (by simp [commodatumref23_Solves.l1])
          | succ k2 =>
            have H := HA.out
            clear HA
            simp only [commodatumref23_Solves.l1] at H
            have HC5 := Aside0.mk H
            clear H
            go_upto_region 5 with (fail)
            go_cut [22] (fun v22 wc => ∃ (kq : Nat) (x22_4 : Bool), v22 = .bool x22_4 ∧ Aside0 (commodatumref23_Solves.j2 kq l1 x5_1 x6_2 x22_4 a0_0 a0_1 a0_2 l0_3 l0_4 = some r) ∧ Aside0 (kq ≤ k2) ∧ Aside0 (wc.heap[gb130]? = some (.cells #[.bool a0_0, .int .i64 a0_1, .int .i64 a0_2, (.slice A0_3 l0_3.length c0_3), (.slice A0_4 l0_4.length c0_4)] 32 (0, 0))) ∧ Aside0 (Below w.heap.size w wc))
            case first =>
              have H := HC5.out
              clear HC5
              by_cases c6 : x6_2 < (l1.length : Int)
              · rw [if_pos c6] at H
                have c6b0 : decide (x6_2 < (l1.length : Int)) = true := decide_eq_true c6
                clear c6
                (first | rw [c6b0] | (simp only [i64_w, i32_w]; rw [c6b0]) | skip)
                by_cases c7 : 0 ≤ x5_1
                · rw [if_pos c7] at H
                  have c7b0 : decide (0 ≤ x5_1) = true := decide_eq_true c7
                  clear c7
                  by_cases c8 : x5_1 < (l1.length : Int)
                  · rw [if_pos c8] at H
                    have c8b0 : decide (x5_1 < (l1.length : Int)) = true := decide_eq_true c8
                    clear c8
                    have H' := Aside0.mk H
                    clear H
                    have p131 : 0 ≤ (x5_1 : Int) := of_decide_eq_true (by first | (with_reducible assumption) | assumption)
                    have q131 : x5_1 < (l1.length : Int) := of_decide_eq_true (by first | (with_reducible assumption) | assumption)
                    obtain ⟨ad131, e131, hx131_0⟩ := Kd.at_bool HR1.out x5_1 p131 q131
                    cases e131
                    replace hx131_0 := (HB.out.cell (World.block_lt_of_cell? w _ hx131_0)).trans hx131_0
                    replace p131 := eq_true p131
                    replace q131 := eq_true q131
                    go_wp2
                    go_meet
                    case rel => exact ⟨_, (rdOf false l1 x5_1), (by first | rfl | (simp; done) | (simp [*]; done)), H', ⟨by have := HK1.out; have := HK2.out; first | omega | exact Nat.le_refl _⟩, ⟨by (with_reducible repeat (first | refine blk_drewN ?_ _ | refine blk_drew ?_ | refine blk_alloc ?_ _)); exact BK130.out⟩, ⟨by repeat (first | (with_reducible first | exact HB.out | apply below_alloc | apply pw_below_drewN | apply below_drew1 | refine below_set ?_ GE130.out) | exact HB.out)⟩⟩
                  · rw [if_neg c8] at H
                    exact absurd H (by simp)
                · rw [if_neg c7] at H
                  exact absurd H (by simp)
              · rw [if_neg c6] at H
                have c6b0 : decide (x6_2 < (l1.length : Int)) = false := decide_eq_false c6
                clear c6
                (first | rw [c6b0] | (simp only [i64_w, i32_w]; rw [c6b0]) | skip)
                have H' := Aside0.mk H
                clear H
                go_wp2
                go_meet
                case rel => exact ⟨_, (false), (by first | rfl | (simp; done) | (simp [*]; done)), H', ⟨by have := HK1.out; have := HK2.out; first | omega | exact Nat.le_refl _⟩, ⟨by (with_reducible repeat (first | refine blk_drewN ?_ _ | refine blk_drew ?_ | refine blk_alloc ?_ _)); exact BK130.out⟩, ⟨by repeat (first | (with_reducible first | exact HB.out | apply below_alloc | apply pw_below_drewN | apply below_drew1 | refine below_set ?_ GE130.out) | exact HB.out)⟩⟩
            case rest =>
              clear HC5
              try clear c1
              try clear p1
              try clear q1
              try clear hx1
              try clear c2
              try clear p2
              try clear c4
              try clear c4b0
              try clear c6
              try clear c6b0
              try clear c7
              try clear c7b0
              try clear c8
              try clear c8b0
              try clear hx131_0
              try clear p131
              try clear p2
              try clear q131
              obtain ⟨kq, x22_4, rfl, HA, HJ4, BK130, HB⟩ := hcut
              cases kq with
              | zero => exact absurd HA.out (by simp [commodatumref23_Solves.j2])
              | succ kj4 =>
                have H := HA.out
                clear HA
                simp only [commodatumref23_Solves.j2] at H
                by_cases c9 : x22_4 = true
                · subst c9
                  have H1 : (if 0 ≤ x6_2 then (if x6_2 < (l1.length : Int) then (if rdOf false l1 x6_2 = true then (commodatumref23_Solves.l1 kj4 l1 x5_1 (wrap64 (x6_2 + 1)) a0_0 a0_1 a0_2 l0_3 l0_4) else ((commodatumref23_Execute.f kj4 a0_0 a0_1 a0_2 l0_3 l0_4 x5_1 x6_2).bind fun t133 => (if 0 ≤ t133 then (if (Go.bits .and .i64 (shr .i64 (Go.bits .xor .i64 x5_1 x6_2) t133) 1) = 0 then (some false) else (commodatumref23_Solves.l1 kj4 l1 x5_1 (wrap64 (x6_2 + 1)) a0_0 a0_1 a0_2 l0_3 l0_4)) else (none)))) else (none)) else (none)) = some r := by rw [if_pos rfl] at H; exact H
                  clear H
                  have H := H1
                  clear H1
                  by_cases c10 : 0 ≤ x6_2
                  · rw [if_pos c10] at H
                    have c10b0 : decide (0 ≤ x6_2) = true := decide_eq_true c10
                    clear c10
                    by_cases c11 : x6_2 < (l1.length : Int)
                    · rw [if_pos c11] at H
                      have c11b0 : decide (x6_2 < (l1.length : Int)) = true := decide_eq_true c11
                      clear c11
                      obtain ⟨bq12, hbq12⟩ : ∃ b_ : Bool, b_ = (rdOf false l1 x6_2) := ⟨_, rfl⟩
                      replace H : (if bq12 = true then (commodatumref23_Solves.l1 kj4 l1 x5_1 (wrap64 (x6_2 + 1)) a0_0 a0_1 a0_2 l0_3 l0_4) else ((commodatumref23_Execute.f kj4 a0_0 a0_1 a0_2 l0_3 l0_4 x5_1 x6_2).bind fun t133 => (if 0 ≤ t133 then (if (Go.bits .and .i64 (shr .i64 (Go.bits .xor .i64 x5_1 x6_2) t133) 1) = 0 then (some false) else (commodatumref23_Solves.l1 kj4 l1 x5_1 (wrap64 (x6_2 + 1)) a0_0 a0_1 a0_2 l0_3 l0_4)) else (none)))) = some r := by rw [← hbq12] at H; exact H
                      have Nbq12 := Aside0.mk hbq12
                      clear hbq12
                      by_cases c13 : bq12 = true
                      · subst c13
                        have H1 : (commodatumref23_Solves.l1 kj4 l1 x5_1 (wrap64 (x6_2 + 1)) a0_0 a0_1 a0_2 l0_3 l0_4) = some r := by rw [if_pos rfl] at H; exact H
                        clear H
                        have H := H1
                        clear H1
                        have H' := Aside0.mk H
                        clear H
                        have p132 : 0 ≤ (x6_2 : Int) := of_decide_eq_true (by first | (with_reducible assumption) | assumption)
                        have q132 : x6_2 < (l1.length : Int) := of_decide_eq_true (by first | (with_reducible assumption) | assumption)
                        obtain ⟨ad132, e132, hx132_0⟩ := Kd.at_bool HR1.out x6_2 p132 q132
                        (try rw [← Nbq12.out] at hx132_0)
                        cases e132
                        replace hx132_0 := (HB.out.cell (World.block_lt_of_cell? w _ hx132_0)).trans hx132_0
                        replace p132 := eq_true p132
                        replace q132 := eq_true q132
                        go_wp2
                        go_roundg kj4
                        case measure => have := HK1.out; have := HK2.out; have := HJ4.out; omega
                        case rel => exact ⟨(wrap64 (x6_2 + 1)), (by first | rfl | (simp; done) | (simp [*]; done)), H', ⟨by have := HK1.out; have := HK2.out; have := HJ4.out; omega⟩, ⟨by (with_reducible repeat (first | refine blk_drewN ?_ _ | refine blk_drew ?_ | refine blk_alloc ?_ _)); exact BK130.out⟩, ⟨by repeat (first | (with_reducible first | exact HB.out | apply below_alloc | apply pw_below_drewN | apply below_drew1 | refine below_set ?_ GE130.out) | exact HB.out)⟩⟩
                      · replace c13 := Bool.eq_false_iff.mpr c13
                        subst c13
                        have H1 : ((commodatumref23_Execute.f kj4 a0_0 a0_1 a0_2 l0_3 l0_4 x5_1 x6_2).bind fun t133 => (if 0 ≤ t133 then (if (Go.bits .and .i64 (shr .i64 (Go.bits .xor .i64 x5_1 x6_2) t133) 1) = 0 then (some false) else (commodatumref23_Solves.l1 kj4 l1 x5_1 (wrap64 (x6_2 + 1)) a0_0 a0_1 a0_2 l0_3 l0_4)) else (none))) = some r := by rw [if_neg (show ¬ (false = true) by decide)] at H; exact H
                        clear H
                        have H := H1
                        clear H1
                        replace H := Option.bind_eq_some_iff.mp H
                        obtain ⟨t133, A140, H⟩ := H
                        replace H : (if 0 ≤ t133 then (if (Go.bits .and .i64 (shr .i64 (Go.bits .xor .i64 x5_1 x6_2) t133) 1) = 0 then (some false) else (commodatumref23_Solves.l1 kj4 l1 x5_1 (wrap64 (x6_2 + 1)) a0_0 a0_1 a0_2 l0_3 l0_4)) else (none)) = some r := H
                        have A14 := Aside0.mk A140
                        clear A140
                        by_cases c15 : 0 ≤ t133
                        · rw [if_pos c15] at H
                          have c15b0 := eq_true c15
                          have c15b1 : decide (0 ≤ t133) = true := decide_eq_true c15
                          clear c15
                          obtain ⟨ji16, hji16⟩ : ∃ j_ : Int, (shr .i64 (Go.bits .xor .i64 x5_1 x6_2) t133) = j_ := ⟨_, rfl⟩
                          replace H : (if (Go.bits .and .i64 (ji16) 1) = 0 then (some false) else (commodatumref23_Solves.l1 kj4 l1 x5_1 (wrap64 (x6_2 + 1)) a0_0 a0_1 a0_2 l0_3 l0_4)) = some r := by first | (rw [hji16] at H; exact H) | (simp only [hji16] at H ⊢; exact H)
                          (try rw [hji16] at A14)
                          have hji16_ : ((Go.bits .xor .i64 x5_1 x6_2) / 2 ^ min t133.toNat 64) = ji16 := hji16
                          have hji16z : t133 ≤ 64 → ((Go.bits .xor .i64 x5_1 x6_2) / 2 ^ t133.toNat) = ji16 := shr_small hji16
                          by_cases c17 : (Go.bits .and .i64 (ji16) 1) = 0
                          · rw [if_pos c17] at H
                            have c17b0 : ((Go.bits .and .i64 (ji16) 1) == 0) = true := beq_iff_eq.mpr c17
                            have c17b1 : ((Go.bits .and .i64 (ji16) 1) != 0) = false := bne_eq_false_iff_eq.mpr c17
                            clear c17
                            obtain rfl := Option.some.inj H
                            have p132 : 0 ≤ (x6_2 : Int) := of_decide_eq_true (by first | (with_reducible assumption) | assumption)
                            have q132 : x6_2 < (l1.length : Int) := of_decide_eq_true (by first | (with_reducible assumption) | assumption)
                            obtain ⟨ad132, e132, hx132_0⟩ := Kd.at_bool HR1.out x6_2 p132 q132
                            (try rw [← Nbq12.out] at hx132_0)
                            cases e132
                            replace hx132_0 := (HB.out.cell (World.block_lt_of_cell? w _ hx132_0)).trans hx132_0
                            replace p132 := eq_true p132
                            replace q132 := eq_true q132
                            have hcz18_0 : wc.cell? ⟨gb130, 0, none⟩ = some (.bool a0_0) := (blk_cell BK130.out 0).trans rfl
                            have hcz18_1 : wc.cell? ⟨gb130, 1, none⟩ = some (.int .i64 a0_1) := (blk_cell BK130.out 1).trans rfl
                            have hcz18_2 : wc.cell? ⟨gb130, 2, none⟩ = some (.int .i64 a0_2) := (blk_cell BK130.out 2).trans rfl
                            have hcz18_3 : wc.cell? ⟨gb130, 3, none⟩ = some (.slice A0_3 l0_3.length c0_3) := (blk_cell BK130.out 3).trans rfl
                            have hcz18_4 : wc.cell? ⟨gb130, 4, none⟩ = some (.slice A0_4 l0_4.length c0_4) := (blk_cell BK130.out 4).trans rfl
                            have hfz18_0 := blk_frozen BK130.out 0
                            have hfz18_1 := blk_frozen BK130.out 1
                            have hfz18_2 := blk_frozen BK130.out 2
                            have hfz18_3 := blk_frozen BK130.out 3
                            have hfz18_4 := blk_frozen BK130.out 4
                            go_wp2_with (first | (go_at_call 52; (with_reducible refine (commodatumref23_Execute.calls kj4 a0_0 a0_1 a0_2 (fun k_ => k_ < w.heap.size) _ _ l0_3 (fun k_ => k_ < w.heap.size) _ _ l0_4 x5_1 x6_2 t133 _ ?side1 ?side2 A14.out).mono ?_); (case side1 => exact Kd.V_mk HC0_3.out (Kd.F_below (Kd.C_F Kd.heap_bool HR0_3.out) (by repeat (first | (with_reducible first | exact HB.out | apply below_alloc | apply pw_below_drewN | apply below_drew1 | refine below_set ?_ GE130.out) | exact HB.out)))); (case side2 => exact Kd.V_mk HC0_4.out (Kd.F_below (Kd.C_F k32_heap HR0_4.out) (by repeat (first | (with_reducible first | exact HB.out | apply below_alloc | apply pw_below_drewN | apply below_drew1 | refine below_set ?_ GE130.out) | exact HB.out)))); rintro e w19 ⟨rfl, hb⟩; have n0_ := Aside0.mk (blk_below (g := gb130) (o := .cells #[.bool a0_0, .int .i64 a0_1, .int .i64 a0_2, .slice A0_3 l0_3.length c0_3, .slice A0_4 l0_4.length c0_4] 32 (0, 0)) (by (with_reducible repeat (first | refine blk_drewN ?_ _ | refine blk_drew ?_ | refine blk_alloc ?_ _)); exact BK130.out) hb); have n1_ := Aside0.mk (below_step (by repeat (first | (with_reducible first | exact HB.out | apply below_alloc | apply pw_below_drewN | apply below_drew1 | refine below_set ?_ GE130.out) | exact HB.out)) hb); clear BK130; clear HB; have BK130 := n0_; have HB := n1_; clear n0_ n1_; (try clear hb); (try clear hb2); (try clear hk); (try clear hi)))
                            go_ret
                            exact ⟨by first | rfl | (simp [errW_none, errW_some] <;> rfl) | (simp only [← hji16]; first | rfl | (simp [errW_none, errW_some] <;> rfl)) | (simp [*, errW_none, errW_some] <;> rfl), by repeat (first | (with_reducible first | exact HB.out | apply below_alloc | apply pw_below_drewN | apply below_drew1 | refine below_set ?_ GE130.out) | exact HB.out)⟩
                          · rw [if_neg c17] at H
                            have c17b0 : ((Go.bits .and .i64 (ji16) 1) == 0) = false := beq_eq_false_iff_ne.mpr c17
                            have c17b1 : ((Go.bits .and .i64 (ji16) 1) != 0) = true := bne_iff_ne.mpr c17
                            have H' := Aside0.mk H
                            clear H
                            have p132 : 0 ≤ (x6_2 : Int) := of_decide_eq_true (by first | (with_reducible assumption) | assumption)
                            have q132 : x6_2 < (l1.length : Int) := of_decide_eq_true (by first | (with_reducible assumption) | assumption)
                            obtain ⟨ad132, e132, hx132_0⟩ := Kd.at_bool HR1.out x6_2 p132 q132
                            (try rw [← Nbq12.out] at hx132_0)
                            cases e132
                            replace hx132_0 := (HB.out.cell (World.block_lt_of_cell? w _ hx132_0)).trans hx132_0
                            replace p132 := eq_true p132
                            replace q132 := eq_true q132
                            have hcz20_0 : wc.cell? ⟨gb130, 0, none⟩ = some (.bool a0_0) := (blk_cell BK130.out 0).trans rfl
                            have hcz20_1 : wc.cell? ⟨gb130, 1, none⟩ = some (.int .i64 a0_1) := (blk_cell BK130.out 1).trans rfl
                            have hcz20_2 : wc.cell? ⟨gb130, 2, none⟩ = some (.int .i64 a0_2) := (blk_cell BK130.out 2).trans rfl
                            have hcz20_3 : wc.cell? ⟨gb130, 3, none⟩ = some (.slice A0_3 l0_3.length c0_3) := (blk_cell BK130.out 3).trans rfl
                            have hcz20_4 : wc.cell? ⟨gb130, 4, none⟩ = some (.slice A0_4 l0_4.length c0_4) := (blk_cell BK130.out 4).trans rfl
                            have hfz20_0 := blk_frozen BK130.out 0
                            have hfz20_1 := blk_frozen BK130.out 1
                            have hfz20_2 := blk_frozen BK130.out 2
                            have hfz20_3 := blk_frozen BK130.out 3
                            have hfz20_4 := blk_frozen BK130.out 4
                            go_wp2_with (first | (go_at_call 52; (with_reducible refine (commodatumref23_Execute.calls kj4 a0_0 a0_1 a0_2 (fun k_ => k_ < w.heap.size) _ _ l0_3 (fun k_ => k_ < w.heap.size) _ _ l0_4 x5_1 x6_2 t133 _ ?side1 ?side2 A14.out).mono ?_); (case side1 => exact Kd.V_mk HC0_3.out (Kd.F_below (Kd.C_F Kd.heap_bool HR0_3.out) (by repeat (first | (with_reducible first | exact HB.out | apply below_alloc | apply pw_below_drewN | apply below_drew1 | refine below_set ?_ GE130.out) | exact HB.out)))); (case side2 => exact Kd.V_mk HC0_4.out (Kd.F_below (Kd.C_F k32_heap HR0_4.out) (by repeat (first | (with_reducible first | exact HB.out | apply below_alloc | apply pw_below_drewN | apply below_drew1 | refine below_set ?_ GE130.out) | exact HB.out)))); rintro e w21 ⟨rfl, hb⟩; have n0_ := Aside0.mk (blk_below (g := gb130) (o := .cells #[.bool a0_0, .int .i64 a0_1, .int .i64 a0_2, .slice A0_3 l0_3.length c0_3, .slice A0_4 l0_4.length c0_4] 32 (0, 0)) (by (with_reducible repeat (first | refine blk_drewN ?_ _ | refine blk_drew ?_ | refine blk_alloc ?_ _)); exact BK130.out) hb); have n1_ := Aside0.mk (below_step (by repeat (first | (with_reducible first | exact HB.out | apply below_alloc | apply pw_below_drewN | apply below_drew1 | refine below_set ?_ GE130.out) | exact HB.out)) hb); clear BK130; clear HB; have BK130 := n0_; have HB := n1_; clear n0_ n1_; (try clear hb); (try clear hb2); (try clear hk); (try clear hi)))
                            go_roundg kj4
                            case measure => have := HK1.out; have := HK2.out; have := HJ4.out; omega
                            case rel => exact ⟨(wrap64 (x6_2 + 1)), (by first | rfl | (simp; done) | (simp [*]; done)), H', ⟨by have := HK1.out; have := HK2.out; have := HJ4.out; omega⟩, ⟨by (with_reducible repeat (first | refine blk_drewN ?_ _ | refine blk_drew ?_ | refine blk_alloc ?_ _)); exact BK130.out⟩, ⟨by repeat (first | (with_reducible first | exact HB.out | apply below_alloc | apply pw_below_drewN | apply below_drew1 | refine below_set ?_ GE130.out) | exact HB.out)⟩⟩
                        · rw [if_neg c15] at H
                          exact absurd H (by simp)
                    · rw [if_neg c11] at H
                      exact absurd H (by simp)
                  · rw [if_neg c10] at H
                    exact absurd H (by simp)
                · replace c9 := Bool.eq_false_iff.mpr c9
                  subst c9
                  have H1 : (commodatumref23_Solves.l0 kj4 l1 (wrap64 (x5_1 + 1)) a0_0 a0_1 a0_2 l0_3 l0_4) = some r := by rw [if_neg (show ¬ (false = true) by decide)] at H; exact H
                  clear H
                  have H := H1
                  clear H1
                  have H' := Aside0.mk H
                  clear H
                  go_wp2
                  go_roundg kj4
                  case measure => have := HK1.out; have := HK2.out; have := HJ4.out; omega
                  case rel => exact ⟨(wrap64 (x5_1 + 1)), (by first | rfl | (simp; done) | (simp [*]; done)), H', ⟨by have := HK1.out; have := HK2.out; have := HJ4.out; omega⟩, ⟨by (with_reducible repeat (first | refine blk_drewN ?_ _ | refine blk_drew ?_ | refine blk_alloc ?_ _)); exact BK130.out⟩, ⟨by repeat (first | (with_reducible first | exact HB.out | apply below_alloc | apply pw_below_drewN | apply below_drew1 | refine below_set ?_ GE130.out) | exact HB.out)⟩⟩
      · rw [if_neg c4] at H
        have c4b0 : decide (x5_1 < (l1.length : Int)) = false := decide_eq_false c4
        clear c4
        obtain rfl := Option.some.inj H
        go_wp2
        go_ret
        exact ⟨by first | rfl | (simp [errW_none, errW_some] <;> rfl) | (simp [*, errW_none, errW_some] <;> rfl), by repeat (first | (with_reducible first | exact HB.out | apply below_alloc | apply pw_below_drewN | apply below_drew1 | refine below_set ?_ GE130.out) | exact HB.out)⟩

end Go.Proofs.Ytpfbommaddaijaa.PBoundTo
