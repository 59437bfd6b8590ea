/- Walks through the law of the power sums: it returns true; no memory that was there is changed. -/
import Derived.Test.YtbddhccbmieokaaTm
namespace Go.Proofs.Ytbddhccbmieokaa
open Go.RowKit FieldMath
set_option linter.unusedVariables false
set_option linter.unusedSimpArgs false

theorem sumL_ones {P M : Nat} (hv : FV P M) : ∀ n k, sumL P M 1 n (nsum P M 1 k) 1 = nsum P M 1 (k + n)
  | 0, _ => rfl
  | n + 1, k => by
    have F := ff_valid (P := P) (M := M) hv
    rw [sumL, F.mul_one F.one]
    have := sumL_ones hv n (k + 1)
    rw [nsum] at this
    rw [this, show k + 1 + n = k + (n + 1) by omega]
theorem sumL_inv {P M t : Nat} (hv : FV P M) (ht : t < fq P M) : ∀ n out y, out < fq P M → y < fq P M → fadd P M (fmul P M t out) 1 = fadd P M out y →
    sumL P M t n out y < fq P M ∧ fadd P M (fmul P M t (sumL P M t n out y)) 1 = fadd P M (sumL P M t n out y) (fmul P M y (pw (fmul P M) t n))
  | 0, out, y, ho, hy, h => by
    have F := ff_valid (P := P) (M := M) hv
    exact ⟨ho, by show _ = fadd P M out (fmul P M y 1); rw [F.mul_one hy]; exact h⟩
  | n + 1, out, y, ho, hy, h => by
    have F := ff_valid (P := P) (M := M) hv
    have hS := F.addC ho hy
    have hY := F.mulC hy ht
    have hto := F.mulC ht ho
    have hty := F.mulC ht hy
    have ih := sumL_inv hv ht n (fadd P M out y) (fmul P M y t) hS hY (by
      rw [F.distrib ht ho hy, F.add_assoc hto hty F.one, F.add_comm hty F.one, ← F.add_assoc hto F.one hty, h, F.mul_comm hy ht])
    refine ⟨ih.1, ?_⟩
    rw [sumL, ih.2]
    congr 1
    have hp := F.pwC ht n
    rw [F.mul_assoc hy ht hp, pw, F.mul_comm ht hp]
theorem sumL_val {P M n e r0 : Nat} (hv : FV P M) (hr : r0 < fq P M) (ho : Ord (fmul P M) r0 n) : sumL P M (fpow P M r0 e) n 0 1 = if e % n = 0 then nsum P M 1 n else 0 := by
  have F := ff_valid (P := P) (M := M) hv
  rw [pow_is hv hr]
  by_cases h : e % n = 0
  · rw [if_pos h, F.pw_mult hr ho.1 (Nat.dvd_of_mod_eq_zero h)]
    have := sumL_ones hv n 0
    rwa [Nat.zero_add] at this
  · rw [if_neg h]
    have ht := F.pwC hr e
    have h1 : pw (fmul P M) r0 e ≠ 1 := fun hc => h (Nat.mod_eq_zero_of_dvd (ho.2 e hc))
    obtain ⟨hs, hi⟩ := sumL_inv hv ht n 0 1 F.zero F.one (by rw [F.mul_zero ht])
    generalize sumL P M (pw (fmul P M) r0 e) n 0 1 = s at hs hi
    rw [← F.pw_mul hr, Nat.mul_comm, F.pw_mul hr, ho.1, F.pw_one, F.mul_one F.one] at hi
    have hts := F.mulC ht hs
    rw [F.add_comm hts F.one, F.add_comm hs F.one] at hi
    have h2 := F.add_cancel F.one hts hs hi
    apply Classical.byContradiction
    intro h0
    refine h1 (F.mul_cancel hs h0 ht F.one ?_)
    rw [F.mul_comm hs ht, h2, F.mul_one hs]

theorem el1 {P M a : Int} {r : Bool} (h : decide (chk P M [a] = 0) = r) (w : World) : Calls Try.prog 30 #[A2 P M, .slice (some ⟨w.heap.size + 1, 0, none⟩) 1 1] ((w.alloc (.cells #[I P, I M] 23)).alloc (.cells #[I a] 3)) fun e w' => e = .returned (.bool r) ∧ Below (w.heap.size + 1) (w.alloc (.cells #[I P, I M] 23)) w' :=
  (elem_any P M [a] (w.heap.size + 1) 1 (by simp) ((w.alloc (.cells #[I P, I M] 23)).alloc (.cells #[I a] 3)) (by simp) (by simp [go_sem])).mono
    fun _ _ ⟨he, hb⟩ => ⟨by rw [he, h], ((Below.refl _ _).alloc (by simp) _).trans (hb.mono (by simp))⟩

set_option maxRecDepth 100000 in
set_option maxHeartbeats 2000000 in
theorem sums_low (P M n e x : Int) (h : n < 1 ∨ n > 3000 ∨ e < 0) : Fn 7 #[A2 P M, I n, I e, I x] (.bool true) := by
  intro w
  have Hal := Lib.hid alive_any
  have hB : Below w.heap.size w (w.alloc (.cells #[I P, I M] 23)) := (Below.refl _ _).alloc (Nat.le_refl _) _
  by_cases h1 : n < 1
  · clear h
    go_enter Try.func7, Try.ntmps7
    go_wp2_with (first
      | (go_at_call 16; refine (Hal.out _).mono ?_; rintro e w' ⟨rfl, hb⟩; replace hB := hB.trans (hb.mono hB.size); clear hb))
    go_ret
    exact ⟨rfl, hB⟩
  · by_cases h2 : n > 3000
    · clear h
      go_enter Try.func7, Try.ntmps7
      go_wp2_with (first
        | (go_at_call 16; refine (Hal.out _).mono ?_; rintro e w' ⟨rfl, hb⟩; replace hB := hB.trans (hb.mono hB.size); clear hb))
      go_ret
      exact ⟨rfl, hB⟩
    · have h3 : e < 0 := by omega
      clear h
      go_enter Try.func7, Try.ntmps7
      go_wp2_with (first
        | (go_at_call 16; refine (Hal.out _).mono ?_; rintro e w' ⟨rfl, hb⟩; replace hB := hB.trans (hb.mono hB.size); clear hb))
      go_ret
      exact ⟨rfl, hB⟩

set_option maxRecDepth 100000 in
set_option maxHeartbeats 2000000 in
theorem sums_no (P M n e x : Int) (h1 : ¬ n < 1) (h2 : ¬ n > 3000) (h3 : ¬ e < 0) (h : chk P M [x] ≠ 0) : Fn 7 #[A2 P M, I n, I e, I x] (.bool true) := by
  intro w
  have Hal := Lib.hid alive_any
  have He := Lib.hid (el1 (P := P) (M := M) (a := x) (decide_eq_false h) w)
  clear h
  go_enter Try.func7, Try.ntmps7
  go_wp2_with (first
    | (go_at_call 30; refine He.out.mono ?_; rintro e w' ⟨rfl, hb⟩; have hB := box4_end hb; clear hb)
    | (go_at_call 16; refine (Hal.out _).mono ?_; rintro e w' ⟨rfl, hb⟩; replace hB := hB.trans (hb.mono hB.size); clear hb))
  go_ret
  exact ⟨rfl, hB⟩
set_option maxRecDepth 100000 in
set_option maxHeartbeats 2000000 in
theorem sums_zero (P M n e : Int) (h1 : ¬ n < 1) (h2 : ¬ n > 3000) (h3 : ¬ e < 0) (h : chk P M [0] = 0) : Fn 7 #[A2 P M, I n, I e, I 0] (.bool true) := by
  intro w
  have Hal := Lib.hid alive_any
  have He := Lib.hid (el1 (P := P) (M := M) (a := 0) (decide_eq_true h) w)
  clear h
  go_enter Try.func7, Try.ntmps7
  go_wp2_with (first
    | (go_at_call 30; refine He.out.mono ?_; rintro e w' ⟨rfl, hb⟩; have hB := box4_end hb; clear hb)
    | (go_at_call 16; refine (Hal.out _).mono ?_; rintro e w' ⟨rfl, hb⟩; replace hB := hB.trans (hb.mono hB.size); clear hb))
  go_ret
  exact ⟨rfl, hB⟩
set_option maxRecDepth 100000 in
set_option maxHeartbeats 4000000 in
theorem sums_none (P M n e x : Nat) (hv : FV P M) (hn : 1 ≤ n) (hn3 : n ≤ 3000) (hx : x < fq P M) (hx0 : x ≠ 0) (hd : (fq P M - 1) % n ≠ 0) : Fn 7 #[A2 P M, I n, I e, I x] (.bool true) := by
  intro w
  have hq := fq_cases hv
  have Hal := Lib.hid alive_any
  have He := Lib.hid (el1 (P := P) (M := M) (a := x) (chk_yes (chk_ok hv (one_ok hv hx)) rfl) w)
  have Ho := Lib.hid (order_fv hv)
  have H1 := Lib.hid (root_none P M n hv hn hd)
  have H2 := Lib.hid (sum_none P M n e hv hn hd)
  have hc1 : ((((fq P M : Nat) : Int) - 1) % (n : Int) != 0) = true := by
    rw [bne_iff_ne, show ((fq P M : Nat) : Int) - 1 = ((fq P M - 1 : Nat) : Int) by omega]
    exact_mod_cast hd
  have hxz : ((x : Int) == 0) = false := by rw [beq_eq_false_iff_ne]; omega
  have hn1 : 1 ≤ (n : Int) := by omega
  clear hd hx hv
  generalize fq P M = q at *
  go_enter Try.func7, Try.ntmps7
  go_wp2_with (first
    | (go_at_call 30; refine He.out.mono ?_; rintro e w' ⟨rfl, hb⟩; have hB0 := box4_end hb; obtain ⟨hx0, hx1, hx2⟩ := box_cells hb; clear hb)
    | (go_at_call 18; refine (H1.out _).mono ?_; rintro e w' ⟨rfl, hb⟩; replace hB0 := hB0.trans (hb.mono hB0.size); have hn := cells_keep hb hx2 hx0 hx1; clear hx0 hx1 hx2 hb; obtain ⟨hx0, hx1, hx2⟩ := hn)
    | (go_at_call 19; refine (H2.out _).mono ?_; rintro e w' ⟨rfl, hb⟩; replace hB0 := hB0.trans (hb.mono hB0.size); have hn := cells_keep hb hx2 hx0 hx1; clear hx0 hx1 hx2 hb; obtain ⟨hx0, hx1, hx2⟩ := hn)
    | (go_at_call 14; refine (Ho.out _).mono ?_; rintro e w' ⟨rfl, hb⟩; replace hB0 := hB0.trans (hb.mono hB0.size); have hn := cells_keep hb hx2 hx0 hx1; clear hx0 hx1 hx2 hb; obtain ⟨hx0, hx1, hx2⟩ := hn)
    | (go_at_call 16; refine (Hal.out _).mono ?_; rintro e w' ⟨rfl, hb⟩; replace hB0 := hB0.trans (hb.mono hB0.size); clear hb))
  go_ret
  exact ⟨rfl, hB0⟩

end Go.Proofs.Ytbddhccbmieokaa
