/- Walks through the law of the power sums, where the sum is defined: it returns true; no memory that was there is changed. -/
import Derived.Test.YtbddhccbmieokaaTn
namespace Go.Proofs.Ytbddhccbmieokaa
open Go.RowKit FieldMath
set_option linter.unusedVariables false
set_option linter.unusedSimpArgs false

set_option maxRecDepth 100000 in
set_option maxHeartbeats 8000000 in
theorem sums_ok (P M n e x : Nat) (hv : FV P M) (hn : 1 ≤ n) (hn3 : n ≤ 3000) (he : e < 2 ^ 63) (hx : x < fq P M) (hxne : x ≠ 0) (hd : (fq P M - 1) % n = 0) : Fn 7 #[A2 P M, I n, I e, I x] (.bool true) := by
  intro w
  have hq := fq_cases hv
  have F := ff_valid (P := P) (M := M) hv
  obtain ⟨r0, hr1, hr2, ho, hR1, -⟩ := root_both hv hn hd
  have Hal := Lib.hid alive_any
  have He := Lib.hid (el1 (P := P) (M := M) (a := x) (chk_yes (chk_ok hv (one_ok hv hx)) rfl) w)
  have Ho := Lib.hid (order_fv hv)
  have H1 := Lib.hid hR1
  have HS := Lib.hid (sumL_val (e := e) hv hr2 ho)
  have H2 := Lib.hid (sumV hv hn hd he hr2 hR1)
  have H3 := Lib.hid (pow_ok P M x n hv hx (by omega))
  have Hm := Lib.hid (fun j => show Fn 33 #[A2 P M, I (pw (fmul P M) r0 j : Nat), I r0] (I (pw (fmul P M) r0 (j + 1) : Nat)) from lmul hv (F.pwC hr2 j) hr2)
  have Ha := Lib.hid (fun j => show Fn 32 #[A2 P M, I (nsum P M 1 j : Nat), I 1] (I (nsum P M 1 (j + 1) : Nat)) from ladd hv (nsum_bd hv F.one j) F.one)
  have Hne := Lib.hid (show ∀ j, 0 < j → j < n → pw (fmul P M) r0 j ≠ 1 from fun j h0 hj hc => by
    have := Nat.le_of_dvd h0 (ho.2 j hc); omega)
  have Hend := Lib.hid ho.1
  have Hf := Lib.hid (show (∃ i, i < n ∧ pw (fmul P M) r0 i = x) ↔ fpow P M x n = 1 by
    rw [pow_is hv hx]
    constructor
    · rintro ⟨i, hi, rfl⟩
      rw [← F.pw_mul hr2, Nat.mul_comm, F.pw_mul hr2, ho.1, F.pw_one]
    · intro h
      exact F.root_pw hn hr2 (by omega) ho hx h)
  have hc1 : ((((fq P M : Nat) : Int) - 1) % (n : Int) != 0) = false := by
    rw [bne_eq_false_iff_eq, show ((fq P M : Nat) : Int) - 1 = ((fq P M - 1 : Nat) : Int) by omega]
    exact_mod_cast hd
  have hxz : ((x : Int) == 0) = false := by rw [beq_eq_false_iff_ne]; omega
  have hn1 : 1 ≤ (n : Int) := by omega
  clear hd hx hv F ho hR1 he
  generalize sumL P M (fpow P M r0 e) n 0 1 = S at *
  generalize fpow P M x n = X at *
  generalize fq P M = q at *
  generalize hpf : pw (fmul P M) r0 = pf at *
  generalize hnf : nsum P M 1 = nf at *
  have hp0 : pf 0 = 1 := by rw [← hpf]; rfl
  have hn0 : nf 0 = 0 := by rw [← hnf]; rfl
  clear hpf hnf
  go_enter Try.func7, Try.ntmps7
  go_wp2_with (first
    | (go_at_call 30; refine He.out.mono ?_; rintro e w' ⟨rfl, hb⟩; have hB0 := box4_end hb; obtain ⟨hx0, hx1, hx2⟩ := box_cells hb; clear hb)
    | (go_at_call 18; refine (H1.out _).mono ?_; rintro e w' ⟨rfl, hb⟩; replace hB0 := hB0.trans (hb.mono hB0.size); have hn := cells_keep hb hx2 hx0 hx1; clear hx0 hx1 hx2 hb; obtain ⟨hx0, hx1, hx2⟩ := hn)
    | (go_at_call 19; refine (H2.out _).mono ?_; rintro e w' ⟨rfl, hb⟩; replace hB0 := hB0.trans (hb.mono hB0.size); have hn := cells_keep hb hx2 hx0 hx1; clear hx0 hx1 hx2 hb; obtain ⟨hx0, hx1, hx2⟩ := hn)
    | (go_at_call 31; refine (H3.out _).mono ?_; rintro e w' ⟨rfl, hb⟩; replace hB0 := hB0.trans (hb.mono hB0.size); have hn := cells_keep hb hx2 hx0 hx1; clear hx0 hx1 hx2 hb; obtain ⟨hx0, hx1, hx2⟩ := hn))
  clear He H1 H2 H3
  go_loopw [15, 16, 17, 18] (fun f u v j wr => ∃ (c : Bool) (k : Nat), k ≤ n ∧ Hid (c = true ↔ ∃ i, i < k ∧ pf i = x) ∧ f = .bool c ∧ u = I (pf k : Nat) ∧ v = I (nf k : Nat) ∧ j = I k ∧ (wr.cell? ⟨w.heap.size, 0, none⟩ = some (I P) ∧ wr.cell? ⟨w.heap.size, 1, none⟩ = some (I M) ∧ w.heap.size < wr.heap.size) ∧ Below w.heap.size w wr) (fun _ _ _ j _ => n - (intOf j).toNat)
  case atStart => exact ⟨false, 0, by omega, Lib.hid (by simp), rfl, by rw [hp0]; rfl, by rw [hn0]; rfl, rfl, ⟨hx0, hx1, hx2⟩, hB0⟩
  case round =>
    clear hx0 hx1 hx2 hB0
    obtain ⟨c, k, hk, HC, rfl, rfl, rfl, rfl, ⟨hx0, hx1, hx2⟩, hB0⟩ := hrel
    by_cases h : k < n
    · have h' : decide ((k : Int) < (n : Int)) = true := decide_eq_true (by omega)
      have hC := Lib.hid (show (c || (((pf k : Nat) : Int) == (x : Int))) = true ↔ ∃ i, i < k + 1 ∧ pf i = x by
        rw [Bool.or_eq_true, beq_iff_eq, HC.out]
        constructor
        · rintro (⟨i, hi, he⟩ | h)
          · exact ⟨i, by omega, he⟩
          · exact ⟨k, by omega, by omega⟩
        · rintro ⟨i, hi, he⟩
          by_cases hik : i = k
          · subst hik; exact .inr (by omega)
          · exact .inl ⟨i, by omega, he⟩)
      clear Hend Hf HS hc1 hp0 hn0 Ho
      rcases Nat.eq_zero_or_pos k with h0 | h0
      · have hz : decide ((k : Int) > 0) = false := decide_eq_false (by omega)
        have hz2 : decide (0 < (k : Int)) = false := decide_eq_false (by omega)
        have hz3 : (k : Int) ≤ 0 := by omega
        clear h0 HC
        cases c
        · rw [Bool.false_or] at hC
          go_wp2
          have e0 : ∀ y : Ext wr, y.val.cell? ⟨w.heap.size, 0, none⟩ = some (I P) := fun y => (y.ok.cell (p := ⟨w.heap.size, 0, none⟩) hx2).trans hx0
          have e1 : ∀ y : Ext wr, y.val.cell? ⟨w.heap.size, 1, none⟩ = some (I M) := fun y => (y.ok.cell (p := ⟨w.heap.size, 1, none⟩) hx2).trans hx1
          refine wp_region_ext (by kernel_rfl) (by kernel_rfl) ?_
          repeat (go_big_quiet_step (first
            | (go_at_call 33; exact Fn.ext (Hm.out k) _ _)
            | (go_at_call 32; exact Fn.ext (Ha.out k) _ _)))
          refine wpQuiet_nil ?_
          rintro w2 ⟨y2, hy2⟩
          replace hx0 : w2.cell? ⟨w.heap.size, 0, none⟩ = some (I P) := by rw [hy2]; exact e0 y2
          replace hx1 : w2.cell? ⟨w.heap.size, 1, none⟩ = some (I M) := by rw [hy2]; exact e1 y2
          replace hB0 : Below w.heap.size w w2 := by rw [hy2]; exact hB0.trans (y2.ok.mono hB0.size)
          replace hx2 : w.heap.size < w2.heap.size := by rw [hy2]; exact Nat.lt_of_lt_of_le hx2 y2.ok.size
          clear e0 e1 hy2 y2
          go_wp2
          go_roundw
          case rel => exact ⟨_, k + 1, by omega, hC, rfl, rfl, rfl, by go_num, ⟨hx0, hx1, hx2⟩, hB0⟩
          case measure => simp [intOf]; omega
        · rw [Bool.true_or] at hC
          replace hC := Lib.hid (hC.out.1 rfl)
          go_wp2
          have e0 : ∀ y : Ext wr, y.val.cell? ⟨w.heap.size, 0, none⟩ = some (I P) := fun y => (y.ok.cell (p := ⟨w.heap.size, 0, none⟩) hx2).trans hx0
          have e1 : ∀ y : Ext wr, y.val.cell? ⟨w.heap.size, 1, none⟩ = some (I M) := fun y => (y.ok.cell (p := ⟨w.heap.size, 1, none⟩) hx2).trans hx1
          refine wp_region_ext (by kernel_rfl) (by kernel_rfl) ?_
          repeat (go_big_quiet_step (first
            | (go_at_call 33; exact Fn.ext (Hm.out k) _ _)
            | (go_at_call 32; exact Fn.ext (Ha.out k) _ _)))
          refine wpQuiet_nil ?_
          rintro w2 ⟨y2, hy2⟩
          replace hx0 : w2.cell? ⟨w.heap.size, 0, none⟩ = some (I P) := by rw [hy2]; exact e0 y2
          replace hx1 : w2.cell? ⟨w.heap.size, 1, none⟩ = some (I M) := by rw [hy2]; exact e1 y2
          replace hB0 : Below w.heap.size w w2 := by rw [hy2]; exact hB0.trans (y2.ok.mono hB0.size)
          replace hx2 : w.heap.size < w2.heap.size := by rw [hy2]; exact Nat.lt_of_lt_of_le hx2 y2.ok.size
          clear e0 e1 hy2 y2
          go_wp2
          go_roundw
          case rel => exact ⟨_, k + 1, by omega, Lib.hid ⟨fun _ => hC.out, fun _ => rfl⟩, rfl, rfl, rfl, by go_num, ⟨hx0, hx1, hx2⟩, hB0⟩
          case measure => simp [intOf]; omega
      · have hz : decide ((k : Int) > 0) = true := decide_eq_true (by omega)
        have hy : (((pf k : Nat) : Int) == 1) = false := by rw [beq_eq_false_iff_ne]; have := Hne.out k h0 h; omega
        clear HC
        cases c
        · rw [Bool.false_or] at hC
          go_wp2
          have e0 : ∀ y : Ext wr, y.val.cell? ⟨w.heap.size, 0, none⟩ = some (I P) := fun y => (y.ok.cell (p := ⟨w.heap.size, 0, none⟩) hx2).trans hx0
          have e1 : ∀ y : Ext wr, y.val.cell? ⟨w.heap.size, 1, none⟩ = some (I M) := fun y => (y.ok.cell (p := ⟨w.heap.size, 1, none⟩) hx2).trans hx1
          refine wp_region_ext (by kernel_rfl) (by kernel_rfl) ?_
          repeat (go_big_quiet_step (first
            | (go_at_call 33; exact Fn.ext (Hm.out k) _ _)
            | (go_at_call 32; exact Fn.ext (Ha.out k) _ _)))
          refine wpQuiet_nil ?_
          rintro w2 ⟨y2, hy2⟩
          replace hx0 : w2.cell? ⟨w.heap.size, 0, none⟩ = some (I P) := by rw [hy2]; exact e0 y2
          replace hx1 : w2.cell? ⟨w.heap.size, 1, none⟩ = some (I M) := by rw [hy2]; exact e1 y2
          replace hB0 : Below w.heap.size w w2 := by rw [hy2]; exact hB0.trans (y2.ok.mono hB0.size)
          replace hx2 : w.heap.size < w2.heap.size := by rw [hy2]; exact Nat.lt_of_lt_of_le hx2 y2.ok.size
          clear e0 e1 hy2 y2
          go_wp2
          go_roundw
          case rel => exact ⟨_, k + 1, by omega, hC, rfl, rfl, rfl, by go_num, ⟨hx0, hx1, hx2⟩, hB0⟩
          case measure => simp [intOf]; omega
        · rw [Bool.true_or] at hC
          replace hC := Lib.hid (hC.out.1 rfl)
          go_wp2
          have e0 : ∀ y : Ext wr, y.val.cell? ⟨w.heap.size, 0, none⟩ = some (I P) := fun y => (y.ok.cell (p := ⟨w.heap.size, 0, none⟩) hx2).trans hx0
          have e1 : ∀ y : Ext wr, y.val.cell? ⟨w.heap.size, 1, none⟩ = some (I M) := fun y => (y.ok.cell (p := ⟨w.heap.size, 1, none⟩) hx2).trans hx1
          refine wp_region_ext (by kernel_rfl) (by kernel_rfl) ?_
          repeat (go_big_quiet_step (first
            | (go_at_call 33; exact Fn.ext (Hm.out k) _ _)
            | (go_at_call 32; exact Fn.ext (Ha.out k) _ _)))
          refine wpQuiet_nil ?_
          rintro w2 ⟨y2, hy2⟩
          replace hx0 : w2.cell? ⟨w.heap.size, 0, none⟩ = some (I P) := by rw [hy2]; exact e0 y2
          replace hx1 : w2.cell? ⟨w.heap.size, 1, none⟩ = some (I M) := by rw [hy2]; exact e1 y2
          replace hB0 : Below w.heap.size w w2 := by rw [hy2]; exact hB0.trans (y2.ok.mono hB0.size)
          replace hx2 : w.heap.size < w2.heap.size := by rw [hy2]; exact Nat.lt_of_lt_of_le hx2 y2.ok.size
          clear e0 e1 hy2 y2
          go_wp2
          go_roundw
          case rel => exact ⟨_, k + 1, by omega, Lib.hid ⟨fun _ => hC.out, fun _ => rfl⟩, rfl, rfl, rfl, by go_num, ⟨hx0, hx1, hx2⟩, hB0⟩
          case measure => simp [intOf]; omega
    · obtain rfl : k = n := by omega
      have h' : decide ((k : Int) < (k : Int)) = false := decide_eq_false (by omega)
      have hcX : (((X : Nat) : Int) == 1) = c := by
        rw [Bool.eq_iff_iff, beq_iff_eq, HC.out, Hf.out]; omega
      have hpe := Hend.out
      rw [hpe]
      clear HC Hf Hne Hm Ha
      have hSe := HS.out
      by_cases he : e % k = 0
      · rw [if_pos he] at hSe
        have hem : ((e : Int) % (k : Int) != 0) = false := by rw [bne_eq_false_iff_eq]; exact_mod_cast he
        rw [hSe]
        go_wp2_with (first
          | (go_at_call 16; refine (Hal.out _).mono ?_; rintro e w' ⟨rfl, hb⟩; replace hB0 := hB0.trans (hb.mono hB0.size); clear hb))
        go_ret
        exact ⟨rb (by simp), hB0⟩
      · rw [if_neg he] at hSe
        have hem : ((e : Int) % (k : Int) != 0) = true := by rw [bne_iff_ne]; exact_mod_cast he
        rw [hSe]
        go_wp2_with (first
          | (go_at_call 16; refine (Hal.out _).mono ?_; rintro e w' ⟨rfl, hb⟩; replace hB0 := hB0.trans (hb.mono hB0.size); clear hb))
        go_ret
        exact ⟨rb (by simp), hB0⟩

theorem fieldSums_any (P M n e x : Int) (he : e < 9223372036854775808) : Fn 7 #[A2 P M, I n, I e, I x] (.bool true) := by
  by_cases hlow : n < 1 ∨ n > 3000 ∨ e < 0
  · exact sums_low P M n e x hlow
  · by_cases h : chk P M [x] = 0
    · by_cases hx0 : x = 0
      · subst hx0; exact sums_zero P M n e (by omega) (by omega) (by omega) h
      · have hv : vld P M = true := by
          by_cases hv : vld P M = true
          · exact hv
          · rw [chk_form (Bool.eq_false_iff.2 hv)] at h; omega
        have hs := vld_spec hv
        obtain ⟨p, rfl⟩ := Int.eq_ofNat_of_zero_le (show 0 ≤ P by omega)
        obtain ⟨m, rfl⟩ := Int.eq_ofNat_of_zero_le (show 0 ≤ M by omega)
        have hall : ∀ i, i < 1 → 0 ≤ [x].getD i 0 ∧ [x].getD i 0 < ord p m := fun i hi => by
          apply Classical.byContradiction
          intro hx
          rw [chk_bad (xs := [x]) (i := i) hv (by simpa using hi) hx] at h
          omega
        have h0 := hall 0 (by omega)
        rw [ord_fq hv] at h0
        simp only [List.getD_cons_zero] at h0
        obtain ⟨z, rfl⟩ := Int.eq_ofNat_of_zero_le h0.1
        obtain ⟨k, rfl⟩ := Int.eq_ofNat_of_zero_le (show 0 ≤ n by omega)
        obtain ⟨d, rfl⟩ := Int.eq_ofNat_of_zero_le (show 0 ≤ e by omega)
        by_cases hd : (fq p m - 1) % k = 0
        · exact sums_ok p m k d z hv (by omega) (by omega) (by omega) (by omega) (by omega) hd
        · exact sums_none p m k d z hv (by omega) (by omega) (by omega) (by omega) hd
    · exact sums_no P M n e x (by omega) (by omega) (by omega) h

end Go.Proofs.Ytbddhccbmieokaa
