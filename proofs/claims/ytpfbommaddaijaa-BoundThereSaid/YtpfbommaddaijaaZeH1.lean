/- The reference's functions over protocols, walked by hand. -/
import Derived.Test.YtpfbommaddaijaaZePa
namespace Go.Proofs.Ytpfbommaddaijaa
open Go.RowKit Go.Proofs.YtpfbommaddaijaaW.PrintWords Go.Proofs.YtpfbommaddaijaaW.PrintLast PBoundTo
set_option linter.unusedVariables false
set_option linter.unusedSimpArgs false

theorem nd_kid (l : List S32) (i : Nat) (h : i < l.length) : nd (rd_T32 l i) ≤ ndL l := by
  have key : ∀ (l : List S32) (i : Nat), ndL (l.drop i) ≤ ndL l := by
    intro l
    induction l with
    | nil => intro i; simp
    | cons x r ih =>
      intro i
      cases i with
      | zero => simp
      | succ i => have := ih i; rw [List.drop_succ_cons, ndL_cons]; omega
  have := key l i
  rw [drop_rd l i h, ndL_cons] at this
  omega
set_option maxHeartbeats 8000000 in
set_option maxRecDepth 100000 in
theorem hnodes (m : Nat) : ∀ (x : S32) {W : World} {A3 A4 : Option Addr} {c3 c4 : Nat}, hg x < m → nd x ≤ 1000000 → Kd.C k32 W A4 x.f4.length x.f4 → Calls Try.prog 69 #[.agg #[.bool x.f0, I x.f1, I x.f2, .slice A3 x.f3.length c3, .slice A4 x.f4.length c4]] W fun e W' => e = .returned (I (nd x : Nat)) ∧ Below W.heap.size W W' := by
  induction m with
  | zero => intro x _ _ _ _ _ h; exact absurd h (by omega)
  | succ m ih =>
  intro x W A3 A4 c3 c4 hm hn hC
  have hm' : ∀ i, i < x.f4.length → hg (rd_T32 x.f4 i) < m := fun i hi => by have := hg_kid x.f4 i hi; have := hg_eq x; omega
  have hns : ∀ i, i < x.f4.length → nd (rd_T32 x.f4 i) ≤ 1000000 := fun i hi => by have := nd_kid x.f4 i hi; have := nd_eq x; omega
  have HM := Lib.hid hm'
  have HNS := Lib.hid hns
  have HND := Lib.hid (nd_eq x)
  have HN := Lib.hid hn
  clear hm hm' hns hn
  obtain ⟨W1, hW1⟩ : ∃ W1, W1 = W.alloc (.cells #[.bool x.f0, I x.f1, I x.f2, .slice A3 x.f3.length c3, .slice A4 x.f4.length c4] 32) := ⟨_, rfl⟩
  have hB1 : Below W.heap.size W W1 := by rw [hW1]; exact below_alloc (Below.refl _ _) _
  have BK : W1.heap[W.heap.size]? = some (.cells #[.bool x.f0, I x.f1, I x.f2, .slice A3 x.f3.length c3, .slice A4 x.f4.length c4] 32 (0, 0)) := by rw [hW1]; exact blk_new _ _
  have k0 : W1.cell? ⟨W.heap.size, 0, none⟩ = some (.bool x.f0) := (blk_cell BK 0).trans rfl
  have k4 : W1.cell? ⟨W.heap.size, 4, none⟩ = some (.slice A4 x.f4.length c4) := (blk_cell BK 4).trans rfl
  have HB1 := Lib.hid hB1
  have HK0 := Lib.hid k0
  have HK4 := Lib.hid k4
  have hkids : x.f4.length ≤ 9223372036854775807 := by have := hC.2.1; omega
  have HKM := Lib.hid hkids
  have HC := Lib.hid hC
  clear hC BK hB1 hkids
  go_enter Try.func69, Try.ntmps69
  go_upto_region 1 with fail
  rw [← hW1]
  clear hW1
  go_wp2
  go_loopw [3, 4] (fun u y wr => ∃ i s : Nat, i ≤ x.f4.length ∧ u = I s ∧ y = I i ∧ Hid (s + ndL (x.f4.drop i) = nd x) ∧ Hid (Below W1.heap.size W1 wr)) (fun _ y _ => x.f4.length - (intOf y).toNat)
  case atStart => exact ⟨0, 1, Nat.zero_le _, rfl, rfl, Lib.hid (by rw [List.drop_zero, HND.out]), Lib.hid (Below.refl _ _)⟩
  case round =>
    clear k0 k4
    obtain ⟨i, s, hi, rfl, rfl, HS, HBr⟩ := hrel
    by_cases hin : i < x.f4.length
    · have hBW : Below W.heap.size W wr := HB1.out.trans (HBr.out.mono HB1.out.size)
      obtain ⟨ad, B3, d3, B4, d4, rfl, x0, x1, x2, x3, x4, _, _, _, i4⟩ := at_T32 HC.out (i : Int) (by omega) (by omega)
      simp only [Int.toNat_natCast] at x0 x1 x2 x3 x4
      replace x0 := cell_keep' hBW x0
      replace x1 := cell_keep' hBW x1
      replace x2 := cell_keep' hBW x2
      replace x3 := cell_keep' hBW x3
      replace x4 := cell_keep' hBW x4
      have hwi : wrap64 ((i : Int) + 1) = ((i + 1 : Nat) : Int) := wr_lt hin HKM.out
      have h0i : (0 : Int) ≤ i := by omega
      have h1i : (i : Int) < x.f4.length := by omega
      have k0 := cell_keep' HBr.out HK0.out
      have k4 := cell_keep' HBr.out HK4.out
      have i4' := Kd.C_below i4 hBW
      have HIN := Lib.hid hin
      have HI := Lib.hid (ih (rd_T32 x.f4 i) (A3 := B3) (c3 := d3) (c4 := d4) (HM.out i hin) (HNS.out i hin) i4')
      have hst : s + nd (rd_T32 x.f4 i) + ndL (x.f4.drop (i + 1)) = nd x := by
        have h := HS.out
        rw [drop_rd _ _ hin, ndL_cons] at h
        omega
      have hsb : (s : Int) + (nd (rd_T32 x.f4 i) : Nat) ≤ 1000000 := by have := HN.out; omega
      have HST := Lib.hid hst
      clear hst i4 i4' hBW
      generalize nd (rd_T32 x.f4 i) = z at *
      go_wp2_with (go_at_call 69; (with_reducible refine HI.out.mono ?_); rintro e w7 ⟨rfl, hb⟩; have HB7 := Lib.hid (HBr.out.trans (hb.mono HBr.out.size)); clear hb)
      go_roundw
      case rel => exact ⟨i + 1, s + z, HIN.out, by rw [show ((s + z : Nat) : Int) = (s : Int) + (z : Int) by omega], by rw [hwi], HST, HB7⟩
      case measure => exact meas hwi HIN.out
    · obtain rfl : i = x.f4.length := by omega
      have hsx : s = nd x := by have h := HS.out; rw [List.drop_length, ndL_nil] at h; omega
      have HSX := Lib.hid hsx
      clear hsx
      have k0 := cell_keep' HBr.out HK0.out
      have k4 := cell_keep' HBr.out HK4.out
      go_wp2
      go_ret
      exact ⟨by rw [HSX.out]; rfl, HB1.out.trans (HBr.out.mono HB1.out.size)⟩
set_option maxHeartbeats 8000000 in
set_option maxRecDepth 100000 in
theorem hdeep_step (M : Nat) (hM : M ≤ 61) (ih : 0 < M → ∀ (x : S32) {W : World} {A3 A4 : Option Addr} {c3 c4 : Nat}, Kd.C k32 W A4 x.f4.length x.f4 → Calls Try.prog 68 #[.agg #[.bool x.f0, I x.f1, I x.f2, .slice A3 x.f3.length c3, .slice A4 x.f4.length c4], I (M - 1 : Nat)] W fun e W' => e = .returned (I (min (hg x) (M - 1) : Nat)) ∧ Below W.heap.size W W') (x : S32) {W : World} {A3 A4 : Option Addr} {c3 c4 : Nat} (hC : Kd.C k32 W A4 x.f4.length x.f4) : Calls Try.prog 68 #[.agg #[.bool x.f0, I x.f1, I x.f2, .slice A3 x.f3.length c3, .slice A4 x.f4.length c4], I M] W fun e W' => e = .returned (I (min (hg x) M : Nat)) ∧ Below W.heap.size W W' := by
  have HM61 := Lib.hid hM
  have HIH := Lib.hid ih
  clear hM ih
  have HVE := Lib.hid (hg_eq x)
  obtain ⟨W1, hW1⟩ : ∃ W1, W1 = W.alloc (.cells #[.bool x.f0, I x.f1, I x.f2, .slice A3 x.f3.length c3, .slice A4 x.f4.length c4] 32) := ⟨_, rfl⟩
  have hB1 : Below W.heap.size W W1 := by rw [hW1]; exact below_alloc (Below.refl _ _) _
  have BK : W1.heap[W.heap.size]? = some (.cells #[.bool x.f0, I x.f1, I x.f2, .slice A3 x.f3.length c3, .slice A4 x.f4.length c4] 32 (0, 0)) := by rw [hW1]; exact blk_new _ _
  have k0 : W1.cell? ⟨W.heap.size, 0, none⟩ = some (.bool x.f0) := (blk_cell BK 0).trans rfl
  have k4 : W1.cell? ⟨W.heap.size, 4, none⟩ = some (.slice A4 x.f4.length c4) := (blk_cell BK 4).trans rfl
  have HB1 := Lib.hid hB1
  have HK0 := Lib.hid k0
  have HK4 := Lib.hid k4
  have hkids : x.f4.length ≤ 9223372036854775807 := by have := hC.2.1; omega
  have HKM := Lib.hid hkids
  have HC := Lib.hid hC
  clear hC BK hB1 hkids
  go_enter Try.func68, Try.ntmps68
  go_upto_region 1 with fail
  rw [← hW1]
  clear hW1
  go_wp2
  go_loopw [5, 6] (fun u y wr => ∃ i d : Nat, i ≤ x.f4.length ∧ d ≤ 61 ∧ u = I d ∧ y = I i ∧ Hid (max d (min (hgL (x.f4.drop i)) M) = min (hgL x.f4) M) ∧ Hid (Below W1.heap.size W1 wr)) (fun _ y _ => x.f4.length - (intOf y).toNat)
  case atStart => exact ⟨0, 0, Nat.zero_le _, by decide, rfl, rfl, Lib.hid (by rw [List.drop_zero]; omega), Lib.hid (Below.refl _ _)⟩
  case round =>
    clear k0 k4
    obtain ⟨i, d, hi, hd, rfl, rfl, HS, HBr⟩ := hrel
    by_cases hin : i < x.f4.length
    · have hBW : Below W.heap.size W wr := HB1.out.trans (HBr.out.mono HB1.out.size)
      obtain ⟨ad, B3, d3, B4, d4, rfl, x0, x1, x2, x3, x4, _, _, _, i4⟩ := at_T32 HC.out (i : Int) (by omega) (by omega)
      simp only [Int.toNat_natCast] at x0 x1 x2 x3 x4
      replace x0 := cell_keep' hBW x0
      replace x1 := cell_keep' hBW x1
      replace x2 := cell_keep' hBW x2
      replace x3 := cell_keep' hBW x3
      replace x4 := cell_keep' hBW x4
      have hwi : wrap64 ((i : Int) + 1) = ((i + 1 : Nat) : Int) := wr_lt hin HKM.out
      have h0i : (0 : Int) ≤ i := by omega
      have h1i : (i : Int) < x.f4.length := by omega
      have k0 := cell_keep' HBr.out HK0.out
      have k4 := cell_keep' HBr.out HK4.out
      have i4' := Kd.C_below i4 hBW
      have HIN := Lib.hid hin
      by_cases hM0 : 0 < M
      · have HI := Lib.hid (HIH.out hM0 (rd_T32 x.f4 i) (A3 := B3) (c3 := d3) (c4 := d4) i4')
        rw [show ((M - 1 : Nat) : Int) = (M : Int) - 1 by omega] at HI
        have hMp : (0 : Int) < (M : Int) := by omega
        have hMi : (M : Int) ≤ 61 := by have := HM61.out; omega
        have hst : max (max d (1 + min (hg (rd_T32 x.f4 i)) (M - 1))) (min (hgL (x.f4.drop (i + 1))) M) = min (hgL x.f4) M := by
          have h := HS.out
          rw [drop_rd _ _ hin, hgL_cons] at h
          omega
        have hz2 : min (hg (rd_T32 x.f4 i)) (M - 1) ≤ 60 := by have := HM61.out; omega
        have HST := Lib.hid hst
        clear hst i4 i4' hBW
        generalize min (hg (rd_T32 x.f4 i)) (M - 1) = z at *
        by_cases hmx : d < 1 + z
        · have hmx' : (d : Int) < 1 + (z : Int) := by omega
          go_wp2_with (go_at_call 68; (with_reducible refine HI.out.mono ?_); rintro e w7 ⟨rfl, hb⟩; have HB7 := Lib.hid (HBr.out.trans (hb.mono HBr.out.size)); clear hb)
          go_roundw
          case rel => exact ⟨i + 1, 1 + z, HIN.out, by omega, by rw [show ((1 + z : Nat) : Int) = 1 + (z : Int) by omega], by rw [hwi], Lib.hid (by have := HST.out; omega), HB7⟩
          case measure => exact meas hwi HIN.out
        · have hmx' : ¬ (d : Int) < 1 + (z : Int) := by omega
          go_wp2_with (go_at_call 68; (with_reducible refine HI.out.mono ?_); rintro e w7 ⟨rfl, hb⟩; have HB7 := Lib.hid (HBr.out.trans (hb.mono HBr.out.size)); clear hb)
          go_roundw
          case rel => exact ⟨i + 1, d, HIN.out, hd, rfl, by rw [hwi], Lib.hid (by have := HST.out; omega), HB7⟩
          case measure => exact meas hwi HIN.out
      · have hMp : ¬ (0 : Int) < (M : Int) := by omega
        have hsx : d = min (hg x) M := by have h := HS.out; have := HVE.out; omega
        have HSX := Lib.hid hsx
        clear hsx i4 i4' hBW
        go_wp2
        go_ret
        exact ⟨by rw [HSX.out]; rfl, HB1.out.trans (HBr.out.mono HB1.out.size)⟩

    · obtain rfl : i = x.f4.length := by omega
      have hsx : d = min (hg x) M := by have h := HS.out; rw [List.drop_length, hgL_nil] at h; have := HVE.out; omega
      have HSX := Lib.hid hsx
      clear hsx
      have k0 := cell_keep' HBr.out HK0.out
      have k4 := cell_keep' HBr.out HK4.out
      go_wp2
      go_ret
      exact ⟨by rw [HSX.out]; rfl, HB1.out.trans (HBr.out.mono HB1.out.size)⟩
theorem hdeep (M : Nat) : M ≤ 61 → ∀ (x : S32) {W : World} {A3 A4 : Option Addr} {c3 c4 : Nat}, Kd.C k32 W A4 x.f4.length x.f4 → Calls Try.prog 68 #[.agg #[.bool x.f0, I x.f1, I x.f2, .slice A3 x.f3.length c3, .slice A4 x.f4.length c4], I M] W fun e W' => e = .returned (I (min (hg x) M : Nat)) ∧ Below W.heap.size W W' := by
  induction M with
  | zero => exact fun hM x => hdeep_step 0 hM (fun h => absurd h (by decide)) x
  | succ M ih => exact fun hM x => hdeep_step (M + 1) hM (fun _ => ih (by omega)) x
mutual
def dq : S32 → Nat
  | ⟨lf, _, _, _, kids⟩ => if lf = true then 0 else dqL kids
def dqL : List S32 → Nat
  | [] => 0
  | x :: r => max (1 + dq x) (dqL r)
end
theorem dq_eq (x : S32) : dq x = if x.f0 = true then 0 else dqL x.f4 := by cases x; rw [dq]
theorem dqL_nil : dqL [] = 0 := by rw [dqL]
theorem dqL_cons (x : S32) (r : List S32) : dqL (x :: r) = max (1 + dq x) (dqL r) := by rw [dqL]
theorem dq_toS : ∀ t : Pt, dq t.toS = t.dep
  | .leaf v => by rw [Pt.toS, dq, if_pos rfl, Pt.dep]
  | .node p a l r => by rw [Pt.toS, dq, if_neg (by decide), dqL, dqL, dqL, dq_toS l, dq_toS r, Pt.dep]; omega
set_option maxHeartbeats 8000000 in
set_option maxRecDepth 100000 in
theorem hdepth_step (M : Nat) (hM : M ≤ 61) (ih : 0 < M → ∀ (x : S32) {W : World} {A3 A4 : Option Addr} {c3 c4 : Nat}, Kd.C k32 W A4 x.f4.length x.f4 → Calls Try.prog 74 #[.agg #[.bool x.f0, I x.f1, I x.f2, .slice A3 x.f3.length c3, .slice A4 x.f4.length c4], I (M - 1 : Nat)] W fun e W' => e = .returned (I (min (dq x) (M - 1) : Nat)) ∧ Below W.heap.size W W') (x : S32) {W : World} {A3 A4 : Option Addr} {c3 c4 : Nat} (hC : Kd.C k32 W A4 x.f4.length x.f4) : Calls Try.prog 74 #[.agg #[.bool x.f0, I x.f1, I x.f2, .slice A3 x.f3.length c3, .slice A4 x.f4.length c4], I M] W fun e W' => e = .returned (I (min (dq x) M : Nat)) ∧ Below W.heap.size W W' := by
  have HM61 := Lib.hid hM
  have HIH := Lib.hid ih
  clear hM ih
  cases hlf : x.f0 with
  | true =>
    have hz : min (dq x) M = 0 := by rw [dq_eq, hlf, if_pos rfl]; omega
    rw [hz]
    obtain ⟨W1, hW1⟩ : ∃ W1, W1 = W.alloc (.cells #[.bool true, I x.f1, I x.f2, .slice A3 x.f3.length c3, .slice A4 x.f4.length c4] 32) := ⟨_, rfl⟩
    have hB1 : Below W.heap.size W W1 := by rw [hW1]; exact below_alloc (Below.refl _ _) _
    have BK : W1.heap[W.heap.size]? = some (.cells #[.bool true, I x.f1, I x.f2, .slice A3 x.f3.length c3, .slice A4 x.f4.length c4] 32 (0, 0)) := by rw [hW1]; exact blk_new _ _
    have k0 : W1.cell? ⟨W.heap.size, 0, none⟩ = some (.bool true) := (blk_cell BK 0).trans rfl
    have k4 : W1.cell? ⟨W.heap.size, 4, none⟩ = some (.slice A4 x.f4.length c4) := (blk_cell BK 4).trans rfl
    have HB1 := Lib.hid hB1
    have HK0 := Lib.hid k0
    have HK4 := Lib.hid k4
    have hkids : x.f4.length ≤ 9223372036854775807 := by have := hC.2.1; omega
    have HKM := Lib.hid hkids
    have HC := Lib.hid hC
    clear hC BK hB1 hkids
    go_enter Try.func74, Try.ntmps74
    go_upto_region 1 with fail
    rw [← hW1]
    clear hW1
    go_wp2
    go_loopw [5, 6] (fun u y wr => u = I 0 ∧ y = I 0 ∧ Hid (Below W1.heap.size W1 wr)) (fun _ _ _ => 0)
    case atStart => exact ⟨rfl, rfl, Lib.hid (Below.refl _ _)⟩
    case round =>
      clear k0 k4
      obtain ⟨rfl, rfl, HBr⟩ := hrel
      have k0 := cell_keep' HBr.out HK0.out
      have k4 := cell_keep' HBr.out HK4.out
      by_cases hin : 0 < x.f4.length
      · have hin' : (0 : Int) < (x.f4.length : Int) := by omega
        go_wp2
        go_ret
        exact ⟨rfl, HB1.out.trans (HBr.out.mono HB1.out.size)⟩
      · have hin' : ¬ (0 : Int) < (x.f4.length : Int) := by omega
        go_wp2
        go_ret
        exact ⟨rfl, HB1.out.trans (HBr.out.mono HB1.out.size)⟩
  | false =>
    have HVE : Hid (dq x = dqL x.f4) := Lib.hid (by rw [dq_eq, hlf]; rfl)
    obtain ⟨W1, hW1⟩ : ∃ W1, W1 = W.alloc (.cells #[.bool false, I x.f1, I x.f2, .slice A3 x.f3.length c3, .slice A4 x.f4.length c4] 32) := ⟨_, rfl⟩
    have hB1 : Below W.heap.size W W1 := by rw [hW1]; exact below_alloc (Below.refl _ _) _
    have BK : W1.heap[W.heap.size]? = some (.cells #[.bool false, I x.f1, I x.f2, .slice A3 x.f3.length c3, .slice A4 x.f4.length c4] 32 (0, 0)) := by rw [hW1]; exact blk_new _ _
    have k0 : W1.cell? ⟨W.heap.size, 0, none⟩ = some (.bool false) := (blk_cell BK 0).trans rfl
    have k4 : W1.cell? ⟨W.heap.size, 4, none⟩ = some (.slice A4 x.f4.length c4) := (blk_cell BK 4).trans rfl
    have HB1 := Lib.hid hB1
    have HK0 := Lib.hid k0
    have HK4 := Lib.hid k4
    have hkids : x.f4.length ≤ 9223372036854775807 := by have := hC.2.1; omega
    have HKM := Lib.hid hkids
    have HC := Lib.hid hC
    clear hC BK hB1 hkids
    go_enter Try.func74, Try.ntmps74
    go_upto_region 1 with fail
    rw [← hW1]
    clear hW1
    go_wp2
    go_loopw [5, 6] (fun u y wr => ∃ i d : Nat, i ≤ x.f4.length ∧ d ≤ 61 ∧ u = I d ∧ y = I i ∧ Hid (max d (min (dqL (x.f4.drop i)) M) = min (dqL x.f4) M) ∧ Hid (Below W1.heap.size W1 wr)) (fun _ y _ => x.f4.length - (intOf y).toNat)
    case atStart => exact ⟨0, 0, Nat.zero_le _, by decide, rfl, rfl, Lib.hid (by rw [List.drop_zero]; omega), Lib.hid (Below.refl _ _)⟩
    case round =>
      clear k0 k4
      obtain ⟨i, d, hi, hd, rfl, rfl, HS, HBr⟩ := hrel
      by_cases hin : i < x.f4.length
      · have hBW : Below W.heap.size W wr := HB1.out.trans (HBr.out.mono HB1.out.size)
        obtain ⟨ad, B3, d3, B4, d4, rfl, x0, x1, x2, x3, x4, _, _, _, i4⟩ := at_T32 HC.out (i : Int) (by omega) (by omega)
        simp only [Int.toNat_natCast] at x0 x1 x2 x3 x4
        replace x0 := cell_keep' hBW x0
        replace x1 := cell_keep' hBW x1
        replace x2 := cell_keep' hBW x2
        replace x3 := cell_keep' hBW x3
        replace x4 := cell_keep' hBW x4
        have hwi : wrap64 ((i : Int) + 1) = ((i + 1 : Nat) : Int) := wr_lt hin HKM.out
        have h0i : (0 : Int) ≤ i := by omega
        have h1i : (i : Int) < x.f4.length := by omega
        have k0 := cell_keep' HBr.out HK0.out
        have k4 := cell_keep' HBr.out HK4.out
        have i4' := Kd.C_below i4 hBW
        have HIN := Lib.hid hin
        by_cases hM0 : 0 < M
        · have HI := Lib.hid (HIH.out hM0 (rd_T32 x.f4 i) (A3 := B3) (c3 := d3) (c4 := d4) i4')
          rw [show ((M - 1 : Nat) : Int) = (M : Int) - 1 by omega] at HI
          have hMp : (0 : Int) < (M : Int) := by omega
          have hMi : (M : Int) ≤ 61 := by have := HM61.out; omega
          have hst : max (max d (1 + min (dq (rd_T32 x.f4 i)) (M - 1))) (min (dqL (x.f4.drop (i + 1))) M) = min (dqL x.f4) M := by
            have h := HS.out
            rw [drop_rd _ _ hin, dqL_cons] at h
            omega
          have hz2 : min (dq (rd_T32 x.f4 i)) (M - 1) ≤ 60 := by have := HM61.out; omega
          have HST := Lib.hid hst
          clear hst i4 i4' hBW
          generalize min (dq (rd_T32 x.f4 i)) (M - 1) = z at *
          by_cases hmx : d < 1 + z
          · have hmx' : (d : Int) < 1 + (z : Int) := by omega
            go_wp2_with (go_at_call 74; (with_reducible refine HI.out.mono ?_); rintro e w7 ⟨rfl, hb⟩; have HB7 := Lib.hid (HBr.out.trans (hb.mono HBr.out.size)); clear hb)
            go_roundw
            case rel => exact ⟨i + 1, 1 + z, HIN.out, by omega, by rw [show ((1 + z : Nat) : Int) = 1 + (z : Int) by omega], by rw [hwi], Lib.hid (by have := HST.out; omega), HB7⟩
            case measure => exact meas hwi HIN.out
          · have hmx' : ¬ (d : Int) < 1 + (z : Int) := by omega
            go_wp2_with (go_at_call 74; (with_reducible refine HI.out.mono ?_); rintro e w7 ⟨rfl, hb⟩; have HB7 := Lib.hid (HBr.out.trans (hb.mono HBr.out.size)); clear hb)
            go_roundw
            case rel => exact ⟨i + 1, d, HIN.out, hd, rfl, by rw [hwi], Lib.hid (by have := HST.out; omega), HB7⟩
            case measure => exact meas hwi HIN.out
        · have hMp : ¬ (0 : Int) < (M : Int) := by omega
          have hsx : d = min (dq x) M := by have h := HS.out; have := HVE.out; omega
          have HSX := Lib.hid hsx
          clear hsx i4 i4' hBW
          go_wp2
          go_ret
          exact ⟨by rw [HSX.out]; rfl, HB1.out.trans (HBr.out.mono HB1.out.size)⟩

      · obtain rfl : i = x.f4.length := by omega
        have hsx : d = min (dq x) M := by have h := HS.out; rw [List.drop_length, dqL_nil] at h; have := HVE.out; omega
        have HSX := Lib.hid hsx
        clear hsx
        have k0 := cell_keep' HBr.out HK0.out
        have k4 := cell_keep' HBr.out HK4.out
        go_wp2
        go_ret
        exact ⟨by rw [HSX.out]; rfl, HB1.out.trans (HBr.out.mono HB1.out.size)⟩
theorem hdepth (M : Nat) : M ≤ 61 → ∀ (x : S32) {W : World} {A3 A4 : Option Addr} {c3 c4 : Nat}, Kd.C k32 W A4 x.f4.length x.f4 → Calls Try.prog 74 #[.agg #[.bool x.f0, I x.f1, I x.f2, .slice A3 x.f3.length c3, .slice A4 x.f4.length c4], I M] W fun e W' => e = .returned (I (min (dq x) M : Nat)) ∧ Below W.heap.size W W' := by
  induction M with
  | zero => exact fun hM x => hdepth_step 0 hM (fun h => absurd h (by decide)) x
  | succ M ih => exact fun hM x => hdepth_step (M + 1) hM (fun _ => ih (by omega)) x
theorem hValid_any {W : World} {x : S32} {n : Int} {A3 A4 : Option Addr} {c3 c4 : Nat} (hv0 : hv 0 0 x = false) (h3 : Kd.C Kd.bool W A3 x.f3.length x.f3) (h4 : Kd.C k32 W A4 x.f4.length x.f4) :
    Calls Try.prog 19 #[.agg #[.bool x.f0, I x.f1, I x.f2, .slice A3 x.f3.length c3, .slice A4 x.f4.length c4], I n] W fun e W' => e = .returned (.bool (vld n x)) ∧ Below W.heap.size W W' := by
  obtain ⟨hw, hh⟩ := hv_false.1 hv0
  have hnd := nd_le x
  refine valid_walk rfl rfl rfl rfl (fun W' hW => ?_) (fun W' hW => hnodes (hg x + 1) x (by omega) (by omega) (Kd.C_below h4 hW)) (fun b1 b2 W' hW => ?_)
  · exact hdeep 61 (by decide) x (Kd.C_below h4 hW)
  have hn1 := of_decide_eq_true b1
  have hn2 := of_decide_eq_true b2
  obtain ⟨m, rfl⟩ : ∃ m : Nat, n = m := ⟨n.toNat, by omega⟩
  exact shape_any (by omega) (hg x + 1) x (by omega) (Kd.C_below h3 hW) (Kd.C_below h4 hW)
set_option maxHeartbeats 4000000 in
theorem hDepth_any {W : World} {x : S32} {A3 A4 : Option Addr} {c3 c4 : Nat} (h4 : Kd.C k32 W A4 x.f4.length x.f4) : Calls Try.prog 24 #[.agg #[.bool x.f0, I x.f1, I x.f2, .slice A3 x.f3.length c3, .slice A4 x.f4.length c4]] W fun e W' => e = .returned (I ((min (dq x) 61 : Nat) : Int)) ∧ Below W.heap.size W W' := by
  obtain ⟨W1, hW1⟩ : ∃ W1, W1 = W.alloc (.cells #[.bool x.f0, I x.f1, I x.f2, .slice A3 x.f3.length c3, .slice A4 x.f4.length c4] 32) := ⟨_, rfl⟩
  have hB1 : Below W.heap.size W W1 := by rw [hW1]; exact below_alloc (Below.refl _ _) _
  have BK : W1.heap[W.heap.size]? = some (.cells #[.bool x.f0, I x.f1, I x.f2, .slice A3 x.f3.length c3, .slice A4 x.f4.length c4] 32 (0, 0)) := by rw [hW1]; exact blk_new _ _
  have k0 : W1.cell? ⟨W.heap.size, 0, none⟩ = some (.bool x.f0) := (blk_cell BK 0).trans rfl
  have k1 : W1.cell? ⟨W.heap.size, 1, none⟩ = some (I x.f1) := (blk_cell BK 1).trans rfl
  have k2 : W1.cell? ⟨W.heap.size, 2, none⟩ = some (I x.f2) := (blk_cell BK 2).trans rfl
  have k3 : W1.cell? ⟨W.heap.size, 3, none⟩ = some (.slice A3 x.f3.length c3) := (blk_cell BK 3).trans rfl
  have k4 : W1.cell? ⟨W.heap.size, 4, none⟩ = some (.slice A4 x.f4.length c4) := (blk_cell BK 4).trans rfl
  have HB1 := Lib.hid hB1
  have HD := hdepth 61 (by decide) x (W := W1) (A3 := A3) (c3 := c3) (c4 := c4) (Kd.C_below h4 hB1)
  rw [show ((61 : Nat) : Int) = 61 from rfl] at HD
  replace HD := Lib.hid HD
  clear BK hB1 h4
  go_enter Try.func24, Try.ntmps24
  go_upto_region 1 with fail
  rw [← hW1]
  clear hW1
  go_wp2_with (go_at_call 74; (with_reducible refine HD.out.mono ?_); rintro e w3 ⟨rfl, hb⟩; have HB3 := Lib.hid (HB1.out.trans (hb.mono HB1.out.size)); clear hb)
  go_ret
  exact ⟨rfl, HB3.out⟩
end Go.Proofs.Ytpfbommaddaijaa

