/- What the reference's functions over formulas answer, for any shape. -/
import Derived.Test.YtpfbommaddaijaaZfV3
namespace Go.Proofs.Ytpfbommaddaijaa
open Go.RowKit Go.Proofs.YtpfbommaddaijaaW.PrintWords Go.Proofs.YtpfbommaddaijaaW.PrintLast PBoundTo
set_option linter.unusedVariables false
set_option linter.unusedSimpArgs false

theorem fnd_kid (l : List S24) (i : Nat) (h : i < l.length) : fnd (rd_T24 l i) ≤ fndL l := by
  have key : ∀ (l : List S24) (i : Nat), fndL (l.drop i) ≤ fndL l := by
    intro l
    induction l with
    | nil => intro i; simp
    | cons x r ih =>
      intro i
      cases i with
      | zero => simp
      | succ i => have := ih i; rw [List.drop_succ_cons, (fL_cons x r).1]; omega
  have := key l i
  rw [fdrop l i h, (fL_cons _ _).1] at this
  omega
/-- a formula as an argument -/
abbrev fArg (x : S24) (A : Option Addr) (c : Nat) : Value := .agg #[I x.f0, I x.f1, .slice A x.f2.length c]
theorem drop_nil' {l : List S24} : l.drop l.length = [] := List.drop_length
set_option maxHeartbeats 8000000 in
set_option maxRecDepth 100000 in
theorem rsize (m : Nat) : ∀ (x : S24) {W : World} {A : Option Addr} {c : Nat} , fns x ≤ m → fnd x ≤ 1000000 → Kd.C k24 W A x.f2.length x.f2 → Calls Try.prog 33 #[fArg x A c] W fun e W' => e = .returned (I (fsz x : Nat)) ∧ Below W.heap.size W W' := by
  induction m with
  | zero => intro x; intros; have := fns_pos x; omega
  | succ m ih =>
  intro x W A c hm hn hC
  have hm' : ∀ i, i < x.f2.length → fns (rd_T24 x.f2 i) ≤ m := fun i hi => by have := fns_kid x.f2 i hi; have := fns_eq x; omega
  have HM := Lib.hid hm'
  clear hm hm'
  obtain ⟨W1, hW1⟩ : ∃ W1, W1 = W.alloc (.cells #[I x.f0, I x.f1, .slice A x.f2.length c] 24) := ⟨_, rfl⟩
  have hB1 : Below W.heap.size W W1 := by rw [hW1]; exact below_alloc (Below.refl _ _) _
  have BK : W1.heap[W.heap.size]? = some (.cells #[I x.f0, I x.f1, .slice A x.f2.length c] 24 (0, 0)) := by rw [hW1]; exact blk_new _ _
  have k0 : W1.cell? ⟨W.heap.size, 0, none⟩ = some (I x.f0) := (blk_cell BK 0).trans rfl
  have k1 : W1.cell? ⟨W.heap.size, 1, none⟩ = some (I x.f1) := (blk_cell BK 1).trans rfl
  have k2 : W1.cell? ⟨W.heap.size, 2, none⟩ = some (.slice A x.f2.length c) := (blk_cell BK 2).trans rfl
  have HB1 := Lib.hid hB1
  have HK0 := Lib.hid k0
  have HK1 := Lib.hid k1
  have HK2 := Lib.hid k2
  have hkids : x.f2.length ≤ 9223372036854775807 := by have := hC.2.1; omega
  have HKM := Lib.hid hkids
  have HC := Lib.hid hC
  clear hC BK hB1 hkids
  have hns : ∀ i, i < x.f2.length → fnd (rd_T24 x.f2 i) ≤ 1000000 := fun i hi => by have := fnd_kid x.f2 i hi; have := fnd_eq x; omega
  have HNS := Lib.hid hns
  have HSL := Lib.hid (fsz_le x).1
  have HN := Lib.hid hn
  clear hns hn
  by_cases hlf : 0 < x.f2.length
  · have hz : ((x.f2.length : Int) == 0) = false := beq_eq_false_iff_ne.2 (by omega)
    have HSZ := Lib.hid (fsz_node x hlf)
    clear hlf
    go_enter Try.func33, Try.ntmps33
    go_upto_region 1 with fail
    rw [← hW1]
    clear hW1
    go_wp2
    go_loopw [3, 4] (fun u y wr => ∃ i s : Nat, i ≤ x.f2.length ∧ u = I s ∧ y = I i ∧ Hid (s + fszL (x.f2.drop i) = fsz x) ∧ Hid (Below W1.heap.size W1 wr)) (fun _ y _ => x.f2.length - (intOf y).toNat)
    case atStart => exact ⟨0, 0, Nat.zero_le _, rfl, rfl, Lib.hid (by rw [List.drop_zero, HSZ.out]; omega), Lib.hid (Below.refl _ _)⟩
    case round =>
      clear k0 k1 k2
      obtain ⟨i, s, hi, rfl, rfl, HS, HBr⟩ := hrel
      by_cases hin : i < x.f2.length
      · have hBW : Below W.heap.size W wr := HB1.out.trans (HBr.out.mono HB1.out.size)
        obtain ⟨ad, A2, c2, rfl, x0, x1, x2, l2, i2⟩ := at_T24 HC.out (i : Int) (by omega) (by omega)
        simp only [Int.toNat_natCast] at x0 x1 x2
        replace x0 := cell_keep' hBW x0
        replace x1 := cell_keep' hBW x1
        replace x2 := cell_keep' hBW x2
        have hwi : wrap64 ((i : Int) + 1) = ((i + 1 : Nat) : Int) := wr_lt hin HKM.out
        have h0i : (0 : Int) ≤ i := by omega
        have h1i : (i : Int) < x.f2.length := by omega
        have k0 := cell_keep' HBr.out HK0.out
        have k1 := cell_keep' HBr.out HK1.out
        have k2 := cell_keep' HBr.out HK2.out
        have i2' := Kd.C_below i2 hBW
        have HIN := Lib.hid hin
        have HI := Lib.hid (ih (rd_T24 x.f2 i) (c := c2) (HM.out i hin) (HNS.out i hin) i2')
        have hst : s + fsz (rd_T24 x.f2 i) + fszL (x.f2.drop (i + 1)) = fsz x := by
          have h := HS.out
          rw [fdrop _ _ hin, (fL_cons _ _).2.2.1] at h
          omega
        have hsb : (s : Int) + (fsz (rd_T24 x.f2 i) : Nat) ≤ 1000000 := by have := HSL.out; have := HN.out; omega
        have HST := Lib.hid hst
        clear hst i2 i2' l2 hBW
        generalize fsz (rd_T24 x.f2 i) = z at *
        go_wp2_with (go_at_call 33; (with_reducible refine HI.out.mono ?_); rintro e w7 ⟨rfl, hb⟩; have HB7 := Lib.hid (HBr.out.trans (hb.mono HBr.out.size)); clear hb)
        go_roundw
        case rel => exact ⟨i + 1, s + z, HIN.out, by rw [show ((s + z : Nat) : Int) = (s : Int) + (z : Int) by omega], by rw [hwi], HST, HB7⟩
        case measure => exact meas hwi HIN.out
      · obtain rfl : i = x.f2.length := by omega
        have hsx : s = fsz x := by have h := HS.out; rw [drop_nil', fL_nil.2.2.1] at h; omega
        have HSX := Lib.hid hsx
        clear hsx
        have k2 := cell_keep' HBr.out HK2.out
        go_wp2
        go_ret
        exact ⟨by rw [HSX.out]; rfl, HB1.out.trans (HBr.out.mono HB1.out.size)⟩
  · have hnil : x.f2 = [] := List.eq_nil_of_length_eq_zero (by omega)
    have HSZ := Lib.hid (fsz_leaf x hnil)
    have hz : ((x.f2.length : Int) == 0) = true := by rw [hnil]; rfl
    clear hnil
    go_enter Try.func33, Try.ntmps33
    go_upto_region 1 with fail
    rw [← hW1]
    clear hW1
    go_wp2
    go_ret
    exact ⟨by rw [HSZ.out]; rfl, HB1.out⟩
theorem cost_any (w : World) (k : Int) : Calls Try.prog 90 #[I k] w fun e w' => e = .returned (I (cost k : Nat)) ∧ w = w' := by
  unfold cost
  by_cases h3 : k = 3
  · subst h3
    go_enter Try.func90, Try.ntmps90
    go_wp2
    go_ret
    exact ⟨rfl, rfl⟩
  by_cases h4 : k = 4
  · subst h4
    go_enter Try.func90, Try.ntmps90
    go_wp2
    go_ret
    exact ⟨rfl, rfl⟩
  by_cases h5 : k = 5
  · subst h5
    go_enter Try.func90, Try.ntmps90
    go_wp2
    go_ret
    exact ⟨rfl, rfl⟩
  have d3 : (k == 3) = false := beq_eq_false_iff_ne.2 h3
  have d4 : (k == 4) = false := beq_eq_false_iff_ne.2 h4
  have d5 : (k == 5) = false := beq_eq_false_iff_ne.2 h5
  rw [if_neg (by omega), if_neg h5]
  clear h3 h4 h5
  go_enter Try.func90, Try.ntmps90
  go_wp2
  go_ret
  exact ⟨rfl, rfl⟩
set_option maxHeartbeats 8000000 in
set_option maxRecDepth 100000 in
theorem rdepth (m : Nat) : ∀ (x : S24) {W : World} {A : Option Addr} {c : Nat} , fns x ≤ m → fns x ≤ 1000000 → Kd.C k24 W A x.f2.length x.f2 → Calls Try.prog 45 #[fArg x A c] W fun e W' => e = .returned (I (fdp x : Nat)) ∧ Below W.heap.size W W' := by
  induction m with
  | zero => intro x; intros; have := fns_pos x; omega
  | succ m ih =>
  intro x W A c hm hn hC
  have hm' : ∀ i, i < x.f2.length → fns (rd_T24 x.f2 i) ≤ m := fun i hi => by have := fns_kid x.f2 i hi; have := fns_eq x; omega
  have HM := Lib.hid hm'
  clear hm hm'
  obtain ⟨W1, hW1⟩ : ∃ W1, W1 = W.alloc (.cells #[I x.f0, I x.f1, .slice A x.f2.length c] 24) := ⟨_, rfl⟩
  have hB1 : Below W.heap.size W W1 := by rw [hW1]; exact below_alloc (Below.refl _ _) _
  have BK : W1.heap[W.heap.size]? = some (.cells #[I x.f0, I x.f1, .slice A x.f2.length c] 24 (0, 0)) := by rw [hW1]; exact blk_new _ _
  have k0 : W1.cell? ⟨W.heap.size, 0, none⟩ = some (I x.f0) := (blk_cell BK 0).trans rfl
  have k1 : W1.cell? ⟨W.heap.size, 1, none⟩ = some (I x.f1) := (blk_cell BK 1).trans rfl
  have k2 : W1.cell? ⟨W.heap.size, 2, none⟩ = some (.slice A x.f2.length c) := (blk_cell BK 2).trans rfl
  have HB1 := Lib.hid hB1
  have HK0 := Lib.hid k0
  have HK1 := Lib.hid k1
  have HK2 := Lib.hid k2
  have hkids : x.f2.length ≤ 9223372036854775807 := by have := hC.2.1; omega
  have HKM := Lib.hid hkids
  have HC := Lib.hid hC
  clear hC BK hB1 hkids
  have hns : ∀ i, i < x.f2.length → fns (rd_T24 x.f2 i) ≤ 1000000 := fun i hi => by have := fns_kid x.f2 i hi; have := fns_eq x; omega
  have HNS := Lib.hid hns
  have HDX := Lib.hid (fdp_eq x)
  have hco := cost_le x.f0
  clear hns hn
  go_enter Try.func45, Try.ntmps45
  go_upto_region 1 with fail
  rw [← hW1]
  clear hW1
  go_wp2
  go_loopw [3, 4] (fun u y wr => ∃ i d : Nat, i ≤ x.f2.length ∧ d ≤ 2000000 ∧ u = I d ∧ y = I i ∧ Hid (max d (fdpL (x.f2.drop i)) = fdpL x.f2) ∧ Hid (Below W1.heap.size W1 wr)) (fun _ y _ => x.f2.length - (intOf y).toNat)
  case atStart => exact ⟨0, 0, Nat.zero_le _, by decide, rfl, rfl, Lib.hid (by rw [List.drop_zero]; omega), Lib.hid (Below.refl _ _)⟩
  case round =>
    clear k0 k1 k2
    obtain ⟨i, d, hi, hd, rfl, rfl, HS, HBr⟩ := hrel
    by_cases hin : i < x.f2.length
    · have hBW : Below W.heap.size W wr := HB1.out.trans (HBr.out.mono HB1.out.size)
      obtain ⟨ad, A2, c2, rfl, x0, x1, x2, l2, i2⟩ := at_T24 HC.out (i : Int) (by omega) (by omega)
      simp only [Int.toNat_natCast] at x0 x1 x2
      replace x0 := cell_keep' hBW x0
      replace x1 := cell_keep' hBW x1
      replace x2 := cell_keep' hBW x2
      have hwi : wrap64 ((i : Int) + 1) = ((i + 1 : Nat) : Int) := wr_lt hin HKM.out
      have h0i : (0 : Int) ≤ i := by omega
      have h1i : (i : Int) < x.f2.length := by omega
      have k0 := cell_keep' HBr.out HK0.out
      have k1 := cell_keep' HBr.out HK1.out
      have k2 := cell_keep' HBr.out HK2.out
      have i2' := Kd.C_below i2 hBW
      have HIN := Lib.hid hin

      have HI := Lib.hid (ih (rd_T24 x.f2 i) (c := c2) (HM.out i hin) (HNS.out i hin) i2')
      have hst : max (max d (fdp (rd_T24 x.f2 i))) (fdpL (x.f2.drop (i + 1))) = fdpL x.f2 := by
        have h := HS.out
        rw [fdrop _ _ hin, (fL_cons _ _).2.2.2.1] at h
        omega
      have hz2 : fdp (rd_T24 x.f2 i) ≤ 2000000 := by have := fdp_le (rd_T24 x.f2 i); have := HNS.out i hin; omega
      have HST := Lib.hid hst
      clear hst i2 i2' l2 hBW
      generalize fdp (rd_T24 x.f2 i) = z at *
      by_cases hmx : d < z
      all_goals
        go_wp2_with (go_at_call 45; (with_reducible refine HI.out.mono ?_); rintro e w7 ⟨rfl, hb⟩; have HB7 := Lib.hid (HBr.out.trans (hb.mono HBr.out.size)); clear hb)
        go_roundw
        case rel => exact ⟨i + 1, max d z, HIN.out, by omega, by first | rw [Nat.max_eq_right (Nat.le_of_lt hmx)] | rw [Nat.max_eq_left (Nat.le_of_not_lt hmx)], by rw [hwi], HST, HB7⟩
        case measure => exact meas hwi HIN.out
    · obtain rfl : i = x.f2.length := by omega
      have hsx : d = fdpL x.f2 := by have h := HS.out; rw [drop_nil', fL_nil.2.2.2.1] at h; omega
      have HSX := Lib.hid hsx
      clear hsx
      have k0 := cell_keep' HBr.out HK0.out
      have k1 := cell_keep' HBr.out HK1.out
      have k2 := cell_keep' HBr.out HK2.out
      go_wp2_with (go_at_call 90; (with_reducible refine (cost_any _ _).mono ?_); rintro e w8 ⟨rfl, rfl⟩)
      go_ret
      exact ⟨by rw [HDX.out, ← HSX.out]; simp, HB1.out.trans (HBr.out.mono HB1.out.size)⟩
mutual
theorem fin_16 : ∀ x : S24, fsh x = true → 0 ≤ fin x ∧ fin x ≤ 16
  | ⟨k, n, kids⟩, h => by
    rw [fsh, Bool.and_eq_true] at h
    have hl := finL_16 kids h.2
    rw [fin]
    by_cases hk : k = 0
    · rw [if_pos hk]
      have h1 := h.1
      rw [hk] at h1
      simp [nok] at h1
      omega
    · rw [if_neg hk]; omega
theorem finL_16 : ∀ l : List S24, fshL l = true → finL l ≤ 16
  | [], _ => by rw [finL]; omega
  | x :: r, h => by
    rw [fshL, Bool.and_eq_true] at h
    have h1 := fin_16 x h.1
    have h2 := finL_16 r h.2
    rw [finL]; omega
end
theorem fsh_kid (l : List S24) (i : Nat) (h : i < l.length) (hs : fshL l = true) : fsh (rd_T24 l i) = true := by
  have key : ∀ (l : List S24) (i : Nat), fshL l = true → fshL (l.drop i) = true := by
    intro l
    induction l with
    | nil => intro i _; simp [fL_nil]
    | cons x r ih =>
      intro i h
      cases i with
      | zero => exact h
      | succ i => rw [List.drop_succ_cons]; rw [(fL_cons x r).2.2.2.2.2, Bool.and_eq_true] at h; exact ih i h.2
  have := key l i hs
  rw [fdrop l i h, (fL_cons _ _).2.2.2.2.2, Bool.and_eq_true] at this
  exact this.1
set_option maxHeartbeats 8000000 in
set_option maxRecDepth 100000 in
theorem rinputs (m : Nat) : ∀ (x : S24) {W : World} {A : Option Addr} {c : Nat} , fns x ≤ m → fsh x = true → Kd.C k24 W A x.f2.length x.f2 → Calls Try.prog 16 #[fArg x A c] W fun e W' => e = .returned (I (fin x)) ∧ Below W.heap.size W W' := by
  induction m with
  | zero => intro x; intros; have := fns_pos x; omega
  | succ m ih =>
  intro x W A c hm hn hC
  have hm' : ∀ i, i < x.f2.length → fns (rd_T24 x.f2 i) ≤ m := fun i hi => by have := fns_kid x.f2 i hi; have := fns_eq x; omega
  have HM := Lib.hid hm'
  clear hm hm'
  obtain ⟨W1, hW1⟩ : ∃ W1, W1 = W.alloc (.cells #[I x.f0, I x.f1, .slice A x.f2.length c] 24) := ⟨_, rfl⟩
  have hB1 : Below W.heap.size W W1 := by rw [hW1]; exact below_alloc (Below.refl _ _) _
  have BK : W1.heap[W.heap.size]? = some (.cells #[I x.f0, I x.f1, .slice A x.f2.length c] 24 (0, 0)) := by rw [hW1]; exact blk_new _ _
  have k0 : W1.cell? ⟨W.heap.size, 0, none⟩ = some (I x.f0) := (blk_cell BK 0).trans rfl
  have k1 : W1.cell? ⟨W.heap.size, 1, none⟩ = some (I x.f1) := (blk_cell BK 1).trans rfl
  have k2 : W1.cell? ⟨W.heap.size, 2, none⟩ = some (.slice A x.f2.length c) := (blk_cell BK 2).trans rfl
  have HB1 := Lib.hid hB1
  have HK0 := Lib.hid k0
  have HK1 := Lib.hid k1
  have HK2 := Lib.hid k2
  have hkids : x.f2.length ≤ 9223372036854775807 := by have := hC.2.1; omega
  have HKM := Lib.hid hkids
  have HC := Lib.hid hC
  clear hC BK hB1 hkids
  have hsh := fsh_eq x
  rw [hn] at hsh
  have hsh2 := hsh.symm
  rw [Bool.and_eq_true] at hsh2
  have hns : ∀ i, i < x.f2.length → fsh (rd_T24 x.f2 i) = true := fun i hi => fsh_kid x.f2 i hi hsh2.2
  have HNS := Lib.hid hns
  have HLO := Lib.hid (fin_16 x hn)
  have HFX0 := Lib.hid (fin_eq x)
  have hv : x.f0 = 0 → 0 ≤ x.f1 ∧ x.f1 < 16 := fun h0 => by
    have h1 := hsh2.1
    rw [h0] at h1
    simp [nok] at h1
    omega
  clear hns hn hsh hsh2
  by_cases h0 : x.f0 = 0
  · have hx0 : (x.f0 == 0) = true := by rw [h0]; rfl
    obtain ⟨v0, v1⟩ := hv h0
    have HFX : Hid (max (x.f1 + 1) (finL x.f2) = fin x) := Lib.hid (by rw [HFX0.out, if_pos h0])
    clear HFX0 h0
    go_enter Try.func16, Try.ntmps16
    go_upto_region 1 with fail
    rw [← hW1]
    clear hW1
    go_wp2
    go_loopw [3, 4] (fun u y wr => ∃ (i : Nat) (a : Int), i ≤ x.f2.length ∧ u = I a ∧ y = I i ∧ Hid (max a (finL (x.f2.drop i)) = fin x) ∧ Hid (Below W1.heap.size W1 wr)) (fun _ y _ => x.f2.length - (intOf y).toNat)
    case atStart => exact ⟨0, _, Nat.zero_le _, rfl, rfl, Lib.hid (by rw [List.drop_zero, HFX.out]), Lib.hid (Below.refl _ _)⟩
    case round =>
      clear k0 k1 k2
      obtain ⟨i, a, hi, rfl, rfl, HS, HBr⟩ := hrel
      by_cases hin : i < x.f2.length
      · have hBW : Below W.heap.size W wr := HB1.out.trans (HBr.out.mono HB1.out.size)
        obtain ⟨ad, A2, c2, rfl, x0, x1, x2, l2, i2⟩ := at_T24 HC.out (i : Int) (by omega) (by omega)
        simp only [Int.toNat_natCast] at x0 x1 x2
        replace x0 := cell_keep' hBW x0
        replace x1 := cell_keep' hBW x1
        replace x2 := cell_keep' hBW x2
        have hwi : wrap64 ((i : Int) + 1) = ((i + 1 : Nat) : Int) := wr_lt hin HKM.out
        have h0i : (0 : Int) ≤ i := by omega
        have h1i : (i : Int) < x.f2.length := by omega
        have k0 := cell_keep' HBr.out HK0.out
        have k1 := cell_keep' HBr.out HK1.out
        have k2 := cell_keep' HBr.out HK2.out
        have i2' := Kd.C_below i2 hBW
        have HIN := Lib.hid hin

        have HI := Lib.hid (ih (rd_T24 x.f2 i) (c := c2) (HM.out i hin) (HNS.out i hin) i2')
        have hst : max (max a (fin (rd_T24 x.f2 i))) (finL (x.f2.drop (i + 1))) = fin x := by
          have h := HS.out
          rw [fdrop _ _ hin, (fL_cons _ _).2.2.2.2.1] at h
          omega
        have HST := Lib.hid hst
        clear hst i2 i2' l2 hBW
        generalize fin (rd_T24 x.f2 i) = z at *
        by_cases hmx : a < z
        all_goals
          go_wp2_with (go_at_call 16; (with_reducible refine HI.out.mono ?_); rintro e w7 ⟨rfl, hb⟩; have HB7 := Lib.hid (HBr.out.trans (hb.mono HBr.out.size)); clear hb)
          go_roundw
          case rel => exact ⟨i + 1, max a z, HIN.out, by first | rw [show max a z = z by omega] | rw [show max a z = a by omega], by rw [hwi], HST, HB7⟩
          case measure => exact meas hwi HIN.out
      · obtain rfl : i = x.f2.length := by omega
        have hsx : a = fin x := by have h := HS.out; rw [drop_nil', show finL [] = -9223372036854775808 by rw [finL]] at h; have := HLO.out; omega
        have HSX := Lib.hid hsx
        clear hsx
        have k0 := cell_keep' HBr.out HK0.out
        have k1 := cell_keep' HBr.out HK1.out
        have k2 := cell_keep' HBr.out HK2.out
        go_wp2
        go_ret
        exact ⟨by rw [HSX.out]; rfl, HB1.out.trans (HBr.out.mono HB1.out.size)⟩
  · have hx0 : (x.f0 == 0) = false := beq_eq_false_iff_ne.2 h0
    have HFX : Hid (max 0 (finL x.f2) = fin x) := Lib.hid (by rw [HFX0.out, if_neg h0])
    clear HFX0 h0 hv
    go_enter Try.func16, Try.ntmps16
    go_upto_region 1 with fail
    rw [← hW1]
    clear hW1
    go_wp2
    go_loopw [3, 4] (fun u y wr => ∃ (i : Nat) (a : Int), i ≤ x.f2.length ∧ u = I a ∧ y = I i ∧ Hid (max a (finL (x.f2.drop i)) = fin x) ∧ Hid (Below W1.heap.size W1 wr)) (fun _ y _ => x.f2.length - (intOf y).toNat)
    case atStart => exact ⟨0, _, Nat.zero_le _, rfl, rfl, Lib.hid (by rw [List.drop_zero, HFX.out]), Lib.hid (Below.refl _ _)⟩
    case round =>
      clear k0 k1 k2
      obtain ⟨i, a, hi, rfl, rfl, HS, HBr⟩ := hrel
      by_cases hin : i < x.f2.length
      · have hBW : Below W.heap.size W wr := HB1.out.trans (HBr.out.mono HB1.out.size)
        obtain ⟨ad, A2, c2, rfl, x0, x1, x2, l2, i2⟩ := at_T24 HC.out (i : Int) (by omega) (by omega)
        simp only [Int.toNat_natCast] at x0 x1 x2
        replace x0 := cell_keep' hBW x0
        replace x1 := cell_keep' hBW x1
        replace x2 := cell_keep' hBW x2
        have hwi : wrap64 ((i : Int) + 1) = ((i + 1 : Nat) : Int) := wr_lt hin HKM.out
        have h0i : (0 : Int) ≤ i := by omega
        have h1i : (i : Int) < x.f2.length := by omega
        have k0 := cell_keep' HBr.out HK0.out
        have k1 := cell_keep' HBr.out HK1.out
        have k2 := cell_keep' HBr.out HK2.out
        have i2' := Kd.C_below i2 hBW
        have HIN := Lib.hid hin

        have HI := Lib.hid (ih (rd_T24 x.f2 i) (c := c2) (HM.out i hin) (HNS.out i hin) i2')
        have hst : max (max a (fin (rd_T24 x.f2 i))) (finL (x.f2.drop (i + 1))) = fin x := by
          have h := HS.out
          rw [fdrop _ _ hin, (fL_cons _ _).2.2.2.2.1] at h
          omega
        have HST := Lib.hid hst
        clear hst i2 i2' l2 hBW
        generalize fin (rd_T24 x.f2 i) = z at *
        by_cases hmx : a < z
        all_goals
          go_wp2_with (go_at_call 16; (with_reducible refine HI.out.mono ?_); rintro e w7 ⟨rfl, hb⟩; have HB7 := Lib.hid (HBr.out.trans (hb.mono HBr.out.size)); clear hb)
          go_roundw
          case rel => exact ⟨i + 1, max a z, HIN.out, by first | rw [show max a z = z by omega] | rw [show max a z = a by omega], by rw [hwi], HST, HB7⟩
          case measure => exact meas hwi HIN.out
      · obtain rfl : i = x.f2.length := by omega
        have hsx : a = fin x := by have h := HS.out; rw [drop_nil', show finL [] = -9223372036854775808 by rw [finL]] at h; have := HLO.out; omega
        have HSX := Lib.hid hsx
        clear hsx
        have k0 := cell_keep' HBr.out HK0.out
        have k1 := cell_keep' HBr.out HK1.out
        have k2 := cell_keep' HBr.out HK2.out
        go_wp2
        go_ret
        exact ⟨by rw [HSX.out]; rfl, HB1.out.trans (HBr.out.mono HB1.out.size)⟩
mutual
/-- a node of a kind occurs -/
def fhas (q : Int) : S24 → Bool
  | ⟨k, _, kids⟩ => k == q || fhasL q kids
def fhasL (q : Int) : List S24 → Bool
  | [] => false
  | x :: r => fhas q x || fhasL q r
end
theorem fhas_eq (q : Int) (x : S24) : fhas q x = (x.f0 == q || fhasL q x.f2) := by cases x; rw [fhas]
theorem fhasL_cons (q : Int) (x : S24) (r : List S24) : fhasL q (x :: r) = (fhas q x || fhasL q r) := by rw [fhasL]
set_option maxHeartbeats 8000000 in
set_option maxRecDepth 100000 in
theorem rhas (q : Int) (m : Nat) : ∀ (x : S24) {W : World} {A : Option Addr} {c : Nat}, fns x ≤ m → Kd.C k24 W A x.f2.length x.f2 → Calls Try.prog 32 #[fArg x A c, I q] W fun e W' => e = .returned (.bool (fhas q x)) ∧ Below W.heap.size W W' := by
  induction m with
  | zero => intro x; intros; have := fns_pos x; omega
  | succ m ih =>
  intro x W A c hm hC
  have hm' : ∀ i, i < x.f2.length → fns (rd_T24 x.f2 i) ≤ m := fun i hi => by have := fns_kid x.f2 i hi; have := fns_eq x; omega
  have HM := Lib.hid hm'
  have HX := Lib.hid (fhas_eq q x)
  clear hm hm'
  obtain ⟨W1, hW1⟩ : ∃ W1, W1 = W.alloc (.cells #[I x.f0, I x.f1, .slice A x.f2.length c] 24) := ⟨_, rfl⟩
  have hB1 : Below W.heap.size W W1 := by rw [hW1]; exact below_alloc (Below.refl _ _) _
  have BK : W1.heap[W.heap.size]? = some (.cells #[I x.f0, I x.f1, .slice A x.f2.length c] 24 (0, 0)) := by rw [hW1]; exact blk_new _ _
  have k0 : W1.cell? ⟨W.heap.size, 0, none⟩ = some (I x.f0) := (blk_cell BK 0).trans rfl
  have k1 : W1.cell? ⟨W.heap.size, 1, none⟩ = some (I x.f1) := (blk_cell BK 1).trans rfl
  have k2 : W1.cell? ⟨W.heap.size, 2, none⟩ = some (.slice A x.f2.length c) := (blk_cell BK 2).trans rfl
  have HB1 := Lib.hid hB1
  have HK0 := Lib.hid k0
  have HK1 := Lib.hid k1
  have HK2 := Lib.hid k2
  have hkids : x.f2.length ≤ 9223372036854775807 := by have := hC.2.1; omega
  have HKM := Lib.hid hkids
  have HC := Lib.hid hC
  clear hC BK hB1 hkids
  cases hk : (x.f0 == q) with
  | true =>
    have HR : Hid (fhas q x = true) := Lib.hid (by rw [HX.out, hk]; rfl)
    go_enter Try.func32, Try.ntmps32
    go_upto_region 1 with fail
    rw [← hW1]
    clear hW1
    go_wp2
    go_ret
    exact ⟨by rw [HR.out]; rfl, HB1.out⟩
  | false =>
    have HR : Hid (fhas q x = fhasL q (x.f2.drop 0)) := Lib.hid (by rw [HX.out, hk, List.drop_zero]; rfl)
    go_enter Try.func32, Try.ntmps32
    go_upto_region 1 with fail
    rw [← hW1]
    clear hW1
    go_wp2
    go_loopw [5] (fun y wr => ∃ i : Nat, i ≤ x.f2.length ∧ y = I i ∧ Hid (fhas q x = fhasL q (x.f2.drop i)) ∧ Hid (Below W1.heap.size W1 wr)) (fun y _ => x.f2.length - (intOf y).toNat)
    case atStart => exact ⟨0, Nat.zero_le _, rfl, HR, Lib.hid (Below.refl _ _)⟩
    case round =>
      clear k0 k1 k2
      obtain ⟨i, hi, rfl, HS, HBr⟩ := hrel
      by_cases hin : i < x.f2.length
      · have hBW : Below W.heap.size W wr := HB1.out.trans (HBr.out.mono HB1.out.size)
        obtain ⟨ad, A2, c2, rfl, x0, x1, x2, l2, i2⟩ := at_T24 HC.out (i : Int) (by omega) (by omega)
        simp only [Int.toNat_natCast] at x0 x1 x2
        replace x0 := cell_keep' hBW x0
        replace x1 := cell_keep' hBW x1
        replace x2 := cell_keep' hBW x2
        have hwi : wrap64 ((i : Int) + 1) = ((i + 1 : Nat) : Int) := wr_lt hin HKM.out
        have h0i : (0 : Int) ≤ i := by omega
        have h1i : (i : Int) < x.f2.length := by omega
        have k0 := cell_keep' HBr.out HK0.out
        have k1 := cell_keep' HBr.out HK1.out
        have k2 := cell_keep' HBr.out HK2.out
        have i2' := Kd.C_below i2 hBW
        have HIN := Lib.hid hin

        have HI := Lib.hid (ih (rd_T24 x.f2 i) (c := c2) (HM.out i hin) i2')
        have hst : fhas q x = (fhas q (rd_T24 x.f2 i) || fhasL q (x.f2.drop (i + 1))) := by rw [HS.out, fdrop _ _ hin, fhasL_cons]
        clear i2 i2' l2 hBW
        cases hz : fhas q (rd_T24 x.f2 i) with
        | true =>
          rw [hz] at HI hst
          have HR : Hid (fhas q x = true) := Lib.hid (by rw [hst]; rfl)
          clear hz hst
          go_wp2_with (go_at_call 32; (with_reducible refine HI.out.mono ?_); rintro e w7 ⟨rfl, hb⟩; have HB7 := Lib.hid (HBr.out.trans (hb.mono HBr.out.size)); clear hb)
          go_ret
          exact ⟨by rw [HR.out]; rfl, HB1.out.trans (HB7.out.mono HB1.out.size)⟩
        | false =>
          rw [hz] at HI hst
          have HST : Hid (fhas q x = fhasL q (x.f2.drop (i + 1))) := Lib.hid (by rw [hst]; rfl)
          clear hz hst
          go_wp2_with (go_at_call 32; (with_reducible refine HI.out.mono ?_); rintro e w7 ⟨rfl, hb⟩; have HB7 := Lib.hid (HBr.out.trans (hb.mono HBr.out.size)); clear hb)
          go_roundw
          case rel => exact ⟨i + 1, HIN.out, by rw [hwi], HST, HB7⟩
          case measure => exact meas hwi HIN.out
      · obtain rfl : i = x.f2.length := by omega
        have hsx : fhas q x = false := by rw [HS.out, drop_nil', fhasL]
        have HSX := Lib.hid hsx
        clear hsx
        have k0 := cell_keep' HBr.out HK0.out
        have k1 := cell_keep' HBr.out HK1.out
        have k2 := cell_keep' HBr.out HK2.out
        go_wp2
        go_ret
        exact ⟨by rw [HSX.out]; rfl, HB1.out.trans (HBr.out.mono HB1.out.size)⟩
set_option maxHeartbeats 4000000 in
theorem rShape (w : World) (k n : Int) (len : Nat) : Calls Try.prog 122 #[I k, I n, I len, I 16] w fun e w' => e = .returned (.bool (nok k n len)) ∧ w = w' := by
  unfold nok
  by_cases h0 : k = 0
  · subst h0
    rw [if_pos rfl]
    cases e1 : decide (0 ≤ n) <;> cases e2 : decide (n < 16) <;> cases e3 : ((len : Int) == 0)
    all_goals
      go_enter Try.func122, Try.ntmps122
      go_wp2
      go_ret
      exact ⟨rfl, rfl⟩
  by_cases h1 : k = 1
  · subst h1
    rw [if_neg (by decide), if_pos rfl]
    cases e1 : (n == 0) <;> cases e2 : (n == 1) <;> cases e3 : ((len : Int) == 0)
    all_goals
      go_enter Try.func122, Try.ntmps122
      go_wp2
      go_ret
      exact ⟨rfl, rfl⟩
  by_cases h2 : k = 2
  · subst h2
    rw [if_neg (by decide), if_neg (by decide), if_pos rfl]
    cases e1 : (n == 0) <;> cases e3 : ((len : Int) == 1)
    all_goals
      go_enter Try.func122, Try.ntmps122
      go_wp2
      go_ret
      exact ⟨rfl, rfl⟩
  by_cases h3 : k = 3 ∨ k = 4 ∨ k = 5
  · rw [if_neg h0, if_neg h1, if_neg h2, if_pos h3]
    cases e1 : (n == 0) <;> cases e3 : ((len : Int) == 2)
    all_goals
      rcases h3 with rfl | rfl | rfl
      all_goals
        go_enter Try.func122, Try.ntmps122
        go_wp2
        go_ret
        exact ⟨rfl, rfl⟩
  · rw [if_neg h0, if_neg h1, if_neg h2, if_neg h3]
    have d0 : (k == 0) = false := beq_eq_false_iff_ne.2 h0
    have d1 : (k == 1) = false := beq_eq_false_iff_ne.2 h1
    have d2 : (k == 2) = false := beq_eq_false_iff_ne.2 h2
    have d3 : (k == 3) = false := beq_eq_false_iff_ne.2 (fun e => h3 (.inl e))
    have d4 : (k == 4) = false := beq_eq_false_iff_ne.2 (fun e => h3 (.inr (.inl e)))
    have d5 : (k == 5) = false := beq_eq_false_iff_ne.2 (fun e => h3 (.inr (.inr e)))
    clear h0 h1 h2 h3
    go_enter Try.func122, Try.ntmps122
    go_wp2
    go_ret
    exact ⟨rfl, rfl⟩
set_option maxHeartbeats 8000000 in
set_option maxRecDepth 100000 in
theorem rshape (m : Nat) : ∀ (x : S24) {W : World} {A : Option Addr} {c : Nat} , fns x ≤ m → Kd.C k24 W A x.f2.length x.f2 → Calls Try.prog 81 #[fArg x A c] W fun e W' => e = .returned ((.bool (fsh x))) ∧ Below W.heap.size W W' := by
  induction m with
  | zero => intro x; intros; have := fns_pos x; omega
  | succ m ih =>
  intro x W A c hm hC
  have hm' : ∀ i, i < x.f2.length → fns (rd_T24 x.f2 i) ≤ m := fun i hi => by have := fns_kid x.f2 i hi; have := fns_eq x; omega
  have HM := Lib.hid hm'
  clear hm hm'
  obtain ⟨W1, hW1⟩ : ∃ W1, W1 = W.alloc (.cells #[I x.f0, I x.f1, .slice A x.f2.length c] 24) := ⟨_, rfl⟩
  have hB1 : Below W.heap.size W W1 := by rw [hW1]; exact below_alloc (Below.refl _ _) _
  have BK : W1.heap[W.heap.size]? = some (.cells #[I x.f0, I x.f1, .slice A x.f2.length c] 24 (0, 0)) := by rw [hW1]; exact blk_new _ _
  have k0 : W1.cell? ⟨W.heap.size, 0, none⟩ = some (I x.f0) := (blk_cell BK 0).trans rfl
  have k1 : W1.cell? ⟨W.heap.size, 1, none⟩ = some (I x.f1) := (blk_cell BK 1).trans rfl
  have k2 : W1.cell? ⟨W.heap.size, 2, none⟩ = some (.slice A x.f2.length c) := (blk_cell BK 2).trans rfl
  have HB1 := Lib.hid hB1
  have HK0 := Lib.hid k0
  have HK1 := Lib.hid k1
  have HK2 := Lib.hid k2
  have hkids : x.f2.length ≤ 9223372036854775807 := by have := hC.2.1; omega
  have HKM := Lib.hid hkids
  have HC := Lib.hid hC
  clear hC BK hB1 hkids
  have HX := Lib.hid (fsh_eq x)
  go_enter Try.func81, Try.ntmps81
  go_upto_region 1 with fail
  rw [← hW1]
  clear hW1
  go_wp2
  go_loopw [3] (fun y wr => ∃ i : Nat, i ≤ x.f2.length ∧ y = I i ∧ Hid (fshL x.f2 = fshL (x.f2.drop i)) ∧ Hid (Below W1.heap.size W1 wr)) (fun y _ => x.f2.length - (intOf y).toNat)
  case atStart => exact ⟨0, Nat.zero_le _, rfl, Lib.hid (by rw [List.drop_zero]), Lib.hid (Below.refl _ _)⟩
  case round =>
    clear k0 k1 k2
    obtain ⟨i, hi, rfl, HS, HBr⟩ := hrel
    by_cases hin : i < x.f2.length
    · have hBW : Below W.heap.size W wr := HB1.out.trans (HBr.out.mono HB1.out.size)
      obtain ⟨ad, A2, c2, rfl, x0, x1, x2, l2, i2⟩ := at_T24 HC.out (i : Int) (by omega) (by omega)
      simp only [Int.toNat_natCast] at x0 x1 x2
      replace x0 := cell_keep' hBW x0
      replace x1 := cell_keep' hBW x1
      replace x2 := cell_keep' hBW x2
      have hwi : wrap64 ((i : Int) + 1) = ((i + 1 : Nat) : Int) := wr_lt hin HKM.out
      have h0i : (0 : Int) ≤ i := by omega
      have h1i : (i : Int) < x.f2.length := by omega
      have k0 := cell_keep' HBr.out HK0.out
      have k1 := cell_keep' HBr.out HK1.out
      have k2 := cell_keep' HBr.out HK2.out
      have i2' := Kd.C_below i2 hBW
      have HIN := Lib.hid hin

      have HI := Lib.hid (ih (rd_T24 x.f2 i) (c := c2) (HM.out i hin) i2')
      have hst : fshL x.f2 = (fsh (rd_T24 x.f2 i) && fshL (x.f2.drop (i + 1))) := by rw [HS.out, fdrop _ _ hin, (fL_cons _ _).2.2.2.2.2]
      clear i2 i2' l2 hBW
      cases hz : fsh (rd_T24 x.f2 i) with
      | false =>
        rw [hz] at HI hst
        have HR : Hid (fsh x = false) := Lib.hid (by rw [HX.out, hst]; simp)
        clear hz hst
        go_wp2_with (go_at_call 81; (with_reducible refine HI.out.mono ?_); rintro e w7 ⟨rfl, hb⟩; have HB7 := Lib.hid (HBr.out.trans (hb.mono HBr.out.size)); clear hb)
        go_ret
        exact ⟨by rw [HR.out]; rfl, HB1.out.trans (HB7.out.mono HB1.out.size)⟩
      | true =>
        rw [hz] at HI hst
        have HST : Hid (fshL x.f2 = fshL (x.f2.drop (i + 1))) := Lib.hid (by rw [hst]; rfl)
        clear hz hst
        go_wp2_with (go_at_call 81; (with_reducible refine HI.out.mono ?_); rintro e w7 ⟨rfl, hb⟩; have HB7 := Lib.hid (HBr.out.trans (hb.mono HBr.out.size)); clear hb)
        go_roundw
        case rel => exact ⟨i + 1, HIN.out, by rw [hwi], HST, HB7⟩
        case measure => exact meas hwi HIN.out
    · obtain rfl : i = x.f2.length := by omega
      have hsx : fsh x = nok x.f0 x.f1 x.f2.length := by rw [HX.out, HS.out, drop_nil', fL_nil.2.2.2.2, Bool.and_true]
      have HSX := Lib.hid hsx
      clear hsx
      have k0 := cell_keep' HBr.out HK0.out
      have k1 := cell_keep' HBr.out HK1.out
      have k2 := cell_keep' HBr.out HK2.out
      go_wp2_with (go_at_call 122; (with_reducible refine (rShape _ _ _ _).mono ?_); rintro e w8 ⟨rfl, rfl⟩)
      go_ret
      exact ⟨by rw [HSX.out]; rfl, HB1.out.trans (HBr.out.mono HB1.out.size)⟩
def CtR (W : World) (x : S24) (M : Nat) (e : Ending) (W' : World) : Prop := ∃ n : Nat, e = .returned (.tuple #[I (n : Int), I ((min (fns x) (M + 1) : Nat) : Int)]) ∧ n ≤ fnd x ∧ Below W.heap.size W W'
set_option maxHeartbeats 8000000 in
set_option maxRecDepth 100000 in
theorem rcount (M : Nat) : 1 ≤ M → M ≤ 1001 → ∀ (x : S24) {W : World} {A : Option Addr} {c : Nat}, fnd x ≤ 20000 → Kd.C k24 W A x.f2.length x.f2 → Calls Try.prog 80 #[fArg x A c, I M] W (CtR W x M) := by
  induction M with
  | zero => intro h; exact absurd h (by decide)
  | succ M ih =>
  intro _ hM x W A c hn hC
  have hns : ∀ i, i < x.f2.length → fnd (rd_T24 x.f2 i) ≤ 20000 := fun i hi => by have := fnd_kid x.f2 i hi; have := fnd_eq x; omega
  have HNS := Lib.hid hns
  have HND := Lib.hid (fnd_eq x)
  have HNX := Lib.hid (fns_eq x)
  have HN := Lib.hid hn
  clear hns hn
  obtain ⟨W1, hW1⟩ : ∃ W1, W1 = W.alloc (.cells #[I x.f0, I x.f1, .slice A x.f2.length c] 24) := ⟨_, rfl⟩
  have hB1 : Below W.heap.size W W1 := by rw [hW1]; exact below_alloc (Below.refl _ _) _
  have BK : W1.heap[W.heap.size]? = some (.cells #[I x.f0, I x.f1, .slice A x.f2.length c] 24 (0, 0)) := by rw [hW1]; exact blk_new _ _
  have k0 : W1.cell? ⟨W.heap.size, 0, none⟩ = some (I x.f0) := (blk_cell BK 0).trans rfl
  have k1 : W1.cell? ⟨W.heap.size, 1, none⟩ = some (I x.f1) := (blk_cell BK 1).trans rfl
  have k2 : W1.cell? ⟨W.heap.size, 2, none⟩ = some (.slice A x.f2.length c) := (blk_cell BK 2).trans rfl
  have HB1 := Lib.hid hB1
  have HK0 := Lib.hid k0
  have HK1 := Lib.hid k1
  have HK2 := Lib.hid k2
  have hkids : x.f2.length ≤ 9223372036854775807 := by have := hC.2.1; omega
  have HKM := Lib.hid hkids
  have HC := Lib.hid hC
  clear hC BK hB1 hkids
  by_cases hM1 : 1 < M + 1
  · have hM1' : (1 : Int) < ((M + 1 : Nat) : Int) := by omega
    have hMc : ((M + 1 : Nat) : Int) - 1 = (M : Int) := by omega
    have HIH := Lib.hid (ih (by omega) (by omega))
    obtain ⟨M1, hMM⟩ : ∃ M1 : Nat, M1 = M + 1 := ⟨_, rfl⟩
    rw [← hMM] at hM1' hMc hM ⊢
    have HMM := Lib.hid hMM
    have hMi : (M1 : Int) ≤ 1001 := by omega
    have HMC := Lib.hid hMc
    clear hMM hM1 ih hMc
    go_enter Try.func80, Try.ntmps80
    go_upto_region 1 with fail
    rw [← hW1]
    clear hW1
    go_wp2
    go_loopw [6, 7, 8] (fun a b y wr => ∃ i n d : Nat, i ≤ x.f2.length ∧ n ≤ 20000 ∧ d ≤ 1001 ∧ a = I n ∧ b = I d ∧ y = I i ∧ Hid (n + fndL (x.f2.drop i) ≤ fnd x) ∧ Hid (max d (min (fnsL (x.f2.drop i)) M1) = min (fnsL x.f2) M1) ∧ Hid (Below W1.heap.size W1 wr)) (fun _ _ y _ => x.f2.length - (intOf y).toNat)
    case atStart => exact ⟨0, 1, 0, Nat.zero_le _, by decide, by decide, rfl, rfl, rfl, Lib.hid (by rw [List.drop_zero, HND.out]; exact Nat.le_refl _), Lib.hid (by rw [List.drop_zero]; omega), Lib.hid (Below.refl _ _)⟩
    case round =>
      clear k0 k1 k2
      obtain ⟨i, n, d, hi, hn2, hd, rfl, rfl, rfl, HS, HD, HBr⟩ := hrel
      by_cases hin : i < x.f2.length
      · have hBW : Below W.heap.size W wr := HB1.out.trans (HBr.out.mono HB1.out.size)
        obtain ⟨ad, A2, c2, rfl, x0, x1, x2, l2, i2⟩ := at_T24 HC.out (i : Int) (by omega) (by omega)
        simp only [Int.toNat_natCast] at x0 x1 x2
        replace x0 := cell_keep' hBW x0
        replace x1 := cell_keep' hBW x1
        replace x2 := cell_keep' hBW x2
        have hwi : wrap64 ((i : Int) + 1) = ((i + 1 : Nat) : Int) := wr_lt hin HKM.out
        have h0i : (0 : Int) ≤ i := by omega
        have h1i : (i : Int) < x.f2.length := by omega
        have k0 := cell_keep' HBr.out HK0.out
        have k1 := cell_keep' HBr.out HK1.out
        have k2 := cell_keep' HBr.out HK2.out
        have i2' := Kd.C_below i2 hBW
        have HIN := Lib.hid hin

        have HI := Lib.hid (HIH.out (rd_T24 x.f2 i) (c := c2) (HNS.out i hin) i2')
        unfold CtR at HI
        rw [← HMC.out] at HI
        have hst : n + fnd (rd_T24 x.f2 i) + fndL (x.f2.drop (i + 1)) ≤ fnd x := by
          have h := HS.out
          rw [fdrop _ _ hin, (fL_cons _ _).1] at h
          omega
        have hsd : max (max d (min (fns (rd_T24 x.f2 i)) (M + 1))) (min (fnsL (x.f2.drop (i + 1))) M1) = min (fnsL x.f2) M1 := by
          have h := HD.out
          rw [fdrop _ _ hin, (fL_cons _ _).2.1] at h
          have := HMM.out
          omega
        have hz2 : min (fns (rd_T24 x.f2 i)) (M + 1) ≤ 1001 := by have := HMM.out; omega
        have HST := Lib.hid hst
        have HSD := Lib.hid hsd
        have hnd20 := HNS.out i hin
        clear hst hsd i2 i2' l2 hBW
        generalize min (fns (rd_T24 x.f2 i)) (M + 1) = z at *
        generalize fnd (rd_T24 x.f2 i) = zn at *
        have hn3 : (n : Int) ≤ 20000 := by omega
        go_upto_region 7 with (go_at_call 80; (with_reducible refine HI.out.mono ?_); rintro e w7 ⟨q, rfl, hq, hb⟩; have HB7 := Lib.hid (HBr.out.trans (hb.mono HBr.out.size)); clear hb)
        have HQ := Lib.hid hq
        have hnq : (n : Int) + (q : Int) ≤ 20000 := by have := HST.out; have := HN.out; omega
        have hq0 : (q : Int) ≤ 20000 := by omega
        clear hq
        by_cases hmx : d < z
        all_goals
          go_wp2
          go_roundw
          case rel => exact ⟨i + 1, n + q, max d z, HIN.out, by omega, by omega, by rw [show ((n + q : Nat) : Int) = (n : Int) + (q : Int) by omega], by first | rw [Nat.max_eq_right (Nat.le_of_lt hmx)] | rw [Nat.max_eq_left (Nat.le_of_not_lt hmx)], by rw [hwi], Lib.hid (by have := HST.out; have := HQ.out; omega), HSD, HB7⟩
          case measure => exact meas hwi HIN.out
      · obtain rfl : i = x.f2.length := by omega
        have hsx : d = min (fnsL x.f2) M1 := by have h := HD.out; rw [drop_nil', fL_nil.2.1] at h; omega
        have hsn : n ≤ fnd x := by have := HS.out; omega
        have HSX := Lib.hid hsx
        have HSN := Lib.hid hsn
        have hdi : (d : Int) ≤ 1001 := by omega
        clear hsx hsn
        have k0 := cell_keep' HBr.out HK0.out
        have k1 := cell_keep' HBr.out HK1.out
        have k2 := cell_keep' HBr.out HK2.out
        go_wp2
        go_ret2
        unfold CtR
        refine ⟨n, by rw [show ((min (fns x) (M1 + 1) : Nat) : Int) = (d : Int) + 1 by rw [HNX.out]; have := HSX.out; omega]; rfl, HSN.out, HB1.out.trans (HBr.out.mono HB1.out.size)⟩
  · have hM0 : M = 0 := by omega
    subst hM0
    clear ih hM1 hM
    by_cases hlf : 0 < x.f2.length
    · have hz : decide (0 < x.f2.length) = true := decide_eq_true hlf
      have hz' : (0 : Int) < (x.f2.length : Int) := by omega
      have HR : Hid (min (fns x) 2 = 2) := Lib.hid (by
        rw [HNX.out]
        have h1 := fns_kid x.f2 0 hlf
        have h2 := fns_pos (rd_T24 x.f2 (0 : Nat))
        omega)
      have HP := Lib.hid (fnd_pos x)
      go_enter Try.func80, Try.ntmps80
      go_upto_region 1 with fail
      rw [← hW1]
      clear hW1
      go_wp2
      go_ret2
      unfold CtR
      exact ⟨1, by rw [HR.out]; rfl, HP.out, HB1.out⟩
    · have hnil : x.f2 = [] := List.eq_nil_of_length_eq_zero (by omega)
      have hz : decide (0 < x.f2.length) = false := decide_eq_false hlf
      have hz' : ¬ (0 : Int) < (x.f2.length : Int) := by omega
      have HR : Hid (min (fns x) 2 = 1) := Lib.hid (by rw [HNX.out, hnil, fL_nil.2.1]; rfl)
      have HP := Lib.hid (fnd_pos x)
      clear hnil
      go_enter Try.func80, Try.ntmps80
      go_upto_region 1 with fail
      rw [← hW1]
      clear hW1
      go_wp2
      go_ret2
      unfold CtR
      exact ⟨1, by rw [HR.out]; rfl, HP.out, HB1.out⟩
/-- valid, of at most 20000 nodes -/
def fvl (x : S24) : Bool := decide (fns x ≤ 1000) && fsh x
set_option maxHeartbeats 4000000 in
theorem rvalid {W : World} {x : S24} {A : Option Addr} {c : Nat} (hn : fnd x ≤ 20000) (hC : Kd.C k24 W A x.f2.length x.f2) : Calls Try.prog 31 #[fArg x A c] W fun e W' => e = .returned (.bool (fvl x)) ∧ Below W.heap.size W W' := by
  have HN := Lib.hid hn
  clear hn
  obtain ⟨W1, hW1⟩ : ∃ W1, W1 = W.alloc (.cells #[I x.f0, I x.f1, .slice A x.f2.length c] 24) := ⟨_, rfl⟩
  have hB1 : Below W.heap.size W W1 := by rw [hW1]; exact below_alloc (Below.refl _ _) _
  have BK : W1.heap[W.heap.size]? = some (.cells #[I x.f0, I x.f1, .slice A x.f2.length c] 24 (0, 0)) := by rw [hW1]; exact blk_new _ _
  have k0 : W1.cell? ⟨W.heap.size, 0, none⟩ = some (I x.f0) := (blk_cell BK 0).trans rfl
  have k1 : W1.cell? ⟨W.heap.size, 1, none⟩ = some (I x.f1) := (blk_cell BK 1).trans rfl
  have k2 : W1.cell? ⟨W.heap.size, 2, none⟩ = some (.slice A x.f2.length c) := (blk_cell BK 2).trans rfl
  have HB1 := Lib.hid hB1
  have HK0 := Lib.hid k0
  have HK1 := Lib.hid k1
  have HK2 := Lib.hid k2
  have hkids : x.f2.length ≤ 9223372036854775807 := by have := hC.2.1; omega
  have HKM := Lib.hid hkids
  have HC := Lib.hid hC
  clear hC BK hB1 hkids
  have HCT := Lib.hid (fun (W' : World) (h : Below W.heap.size W W') => rcount 1001 (by decide) (by decide) x (W := W') (c := c) HN.out (Kd.C_below HC.out h))
  have HSH := Lib.hid (fun (W' : World) (h : Below W.heap.size W W') => rshape (fns x) x (W := W') (c := c) (Nat.le_refl _) (Kd.C_below HC.out h))
  unfold CtR at HCT
  rw [show ((1001 : Nat) : Int) = 1001 from rfl] at HCT
  unfold fvl
  obtain ⟨d, hd⟩ : ∃ d, d = min (fns x) (1001 + 1) := ⟨_, rfl⟩
  rw [← hd] at HCT
  have hdb : decide (fns x ≤ 1000) = decide ((d : Int) ≤ 1000) := by rw [Bool.eq_iff_iff, decide_eq_true_eq, decide_eq_true_eq]; omega
  rw [hdb]
  clear hd hdb
  cases e1 : decide ((d : Int) ≤ 1000)
  all_goals
    go_enter Try.func31, Try.ntmps31
    go_upto_region 1 with fail
    rw [← hW1]
    clear hW1
    go_upto_region 2 with (go_at_call 80; (with_reducible refine (HCT.out _ HB1.out).mono ?_); rintro e w3 ⟨n, rfl, hn, hb⟩; have HB3 := Lib.hid (HB1.out.trans (hb.mono HB1.out.size)); have hn2 : (n : Int) ≤ 20000 := (by have := HN.out; omega); have k0' := cell_keep' hb HK0.out; have k1' := cell_keep' hb HK1.out; have k2' := cell_keep' hb HK2.out; clear hb hn)
    clear k0 k1 k2
    go_wp2_with (go_at_call 81; (with_reducible refine (HSH.out _ HB3.out).mono ?_); rintro e w4 ⟨rfl, hb⟩; have HB4 := Lib.hid (HB3.out.trans (hb.mono HB3.out.size)); clear hb)
    go_ret
    first | exact ⟨by simp, HB4.out⟩ | exact ⟨by simp, HB3.out⟩
end Go.Proofs.Ytpfbommaddaijaa

