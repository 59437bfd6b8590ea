/- Walks through Fermat's law of the field: it returns true; no memory that was there is changed. -/
import Derived.Test.YtbddhccbmieokaaTl
namespace Go.Proofs.Ytbddhccbmieokaa
open Go.RowKit FieldMath
set_option linter.unusedVariables false
set_option linter.unusedSimpArgs false

theorem pow_q {P M a : Nat} (hv : FV P M) (ha : a < fq P M) : fpow P M a (fq P M) = a := by
  have F := ff_valid (P := P) (M := M) hv
  have hq := fq_cases hv
  rw [pow_is hv ha]
  by_cases h0 : a = 0
  · subst h0; exact F.pw_zero (by omega)
  · have h := F.fermat ha h0
    have e : fq P M = (fq P M - 1) + 1 := by omega
    have h2 : pw (fmul P M) a ((fq P M - 1) + 1) = a := by rw [pw, h, F.one_mul ha]
    rwa [← e] at h2
theorem pow_frob {P M a b : Nat} (hv : FV P M) (ha : a < fq P M) (hb : b < fq P M) : fpow P M (fadd P M a b) P = fadd P M (fpow P M a P) (fpow P M b P) := by
  have F := ff_valid (P := P) (M := M) hv
  have hs := hv.spec
  have hS := F.addC ha hb
  by_cases h : M = 1
  · subst h
    have e : fq P 1 = P := rfl
    have h1 := pow_q hv hS
    have h2 := pow_q hv ha
    have h3 := pow_q hv hb
    rw [e] at h1 h2 h3
    rw [h1, h2, h3]
  · obtain rfl : P = 2 := hs.2.2.2.2 h
    have h2 : ∀ x, x < fq 2 M → fpow 2 M x 2 = fmul 2 M x x := fun x hx => by
      rw [pow_is hv hx]
      show fmul 2 M (fmul 2 M 1 x) x = _
      rw [F.one_mul hx]
    rw [h2 _ hS, h2 _ ha, h2 _ hb, F.distrib hS ha hb, F.mul_comm hS ha, F.mul_comm hS hb, F.distrib ha ha hb, F.distrib hb ha hb, F.mul_comm hb ha]
    unfold fadd
    rw [if_neg h, if_neg h, if_neg h, if_neg h, Nat.xor_assoc, ← Nat.xor_assoc (fmul 2 M a b), Nat.xor_self, Nat.zero_xor]
/-- the sum of n summands a -/
def nsum (P M a : Nat) : Nat → Nat
  | 0 => 0
  | n + 1 => fadd P M (nsum P M a n) a
theorem nsum_bd {P M a : Nat} (hv : FV P M) (ha : a < fq P M) : ∀ n, nsum P M a n < fq P M
  | 0 => by have := fq_cases hv; show 0 < fq P M; omega
  | n + 1 => fadd_bd hv (nsum_bd hv ha n) ha
theorem nsum_char {P M a : Nat} (hv : FV P M) (ha : a < fq P M) : nsum P M a P = 0 := by
  have hs := hv.spec
  by_cases h : M = 1
  · subst h
    have e : ∀ n, nsum P 1 a n = n * a % P := fun n => by
      induction n with
      | zero => simp [nsum]
      | succ n ih => rw [nsum, ih]; unfold fadd; rw [if_pos rfl, Nat.mod_add_mod, Nat.succ_mul]
    rw [e]; simp
  · obtain rfl : P = 2 := hs.2.2.2.2 h
    show fadd 2 M (fadd 2 M 0 a) a = 0
    unfold fadd
    rw [if_neg h, if_neg h, Nat.zero_xor, Nat.xor_self]

theorem el2 {P M a b : Int} {r : Bool} (h : decide (chk P M [a, b] = 0) = r) (w : World) : Calls Try.prog 30 #[A2 P M, .slice (some ⟨w.heap.size + 1, 0, none⟩) 2 2] ((w.alloc (.cells #[I P, I M] 23)).alloc (.cells #[I a, I b] 3)) fun e w' => e = .returned (.bool r) ∧ Below (w.heap.size + 1) (w.alloc (.cells #[I P, I M] 23)) w' :=
  (elem_any P M [a, b] (w.heap.size + 1) 2 (by simp) ((w.alloc (.cells #[I P, I M] 23)).alloc (.cells #[I a, I b] 3)) (by simp) (by have := two_cells (w.alloc (.cells #[I P, I M] 23)) a b 3; simpa using this)).mono
    fun _ _ ⟨he, hb⟩ => ⟨by rw [he, h], ((Below.refl _ _).alloc (by simp) _).trans (hb.mono (by simp))⟩

set_option maxRecDepth 100000 in
set_option maxHeartbeats 2000000 in
theorem fermat_no (P M a b : Int) (h : chk P M [a, b] ≠ 0) : Fn 6 #[A2 P M, I a, I b] (.bool true) := by
  intro w
  have Hal := Lib.hid alive_any
  have He := Lib.hid (el2 (P := P) (M := M) (a := a) (b := b) (decide_eq_false h) w)
  have hB : Below w.heap.size w (w.alloc (.cells #[I P, I M] 23)) := (Below.refl _ _).alloc (Nat.le_refl _) _
  clear h
  go_enter Try.func6, Try.ntmps6
  go_wp2_with (first
    | (go_at_call 30; refine He.out.mono ?_; rintro e w' ⟨rfl, hb⟩; replace hB := box4_end hb; clear hb)
    | (go_at_call 16; refine (Hal.out _).mono ?_; rintro e w' ⟨rfl, hb⟩; replace hB := hB.trans (hb.mono hB.size); clear hb))
  go_ret
  exact ⟨rfl, hB⟩

set_option maxRecDepth 100000 in
set_option maxHeartbeats 8000000 in
theorem fermat_ok (P M a b : Nat) (hv : FV P M) (ha : a < fq P M) (hb : b < fq P M) : Fn 6 #[A2 P M, I a, I b] (.bool true) := by
  intro w
  have hs := hv.spec
  have hq := fq_cases hv
  have Hal := Lib.hid alive_any
  have He := Lib.hid (el2 (P := P) (M := M) (a := a) (b := b) (chk_yes (chk_ok hv (two_ok hv ha hb)) rfl) w)
  have Ho := Lib.hid (order_fv hv)
  have Q1 := Lib.hid (show Fn 31 #[A2 P M, I a, I (fq P M : Nat)] (T2 a 0) by have := pow_ok P M a (fq P M) hv ha (by omega); rwa [pow_q hv ha] at this)
  have Q2 := Lib.hid (fun w => pow_ok P M a P hv ha (by omega) w)
  have Q3 := Lib.hid (fun w => pow_ok P M b P hv hb (by omega) w)
  have hx := fpow_bd hv ha P
  have hy := fpow_bd hv hb P
  have A1 := Lib.hid (ladd hv ha hb)
  have Q4 := Lib.hid (show Fn 31 #[A2 P M, I (fadd P M a b : Nat), I P] (T2 (fadd P M (fpow P M a P) (fpow P M b P) : Nat) 0) by have := pow_ok P M _ P hv (fadd_bd hv ha hb) (by omega); rwa [pow_frob hv ha hb] at this)
  have A2' := Lib.hid (ladd hv hx hy)
  have An := Lib.hid (fun n => ladd hv (nsum_bd hv ha n) ha)
  have Hn := Lib.hid (nsum_char hv ha)
  clear hx hy hv hb ha
  have hP := hs.2.1
  clear hs
  generalize fadd P M (fpow P M a P) (fpow P M b P) = z at *
  generalize fpow P M a P = x at *
  generalize fpow P M b P = y at *
  generalize fadd P M a b = S at *
  generalize fq P M = q at *
  obtain ⟨hx0, hx1, hx2⟩ := box_cells (w := w) (P := P) (M := M) (t := 23) (Below.refl _ _)
  have hB0 : Below w.heap.size w (w.alloc (.cells #[I P, I M] 23)) := (Below.refl _ _).alloc (Nat.le_refl _) _
  go_enter Try.func6, Try.ntmps6
  go_wp2_with (go_at_call 30; refine He.out.mono ?_; rintro e w' ⟨rfl, hb⟩; replace hB0 := box4_end hb; clear hx0 hx1 hx2; obtain ⟨hx0, hx1, hx2⟩ := box_cells hb; clear hb)
  have e0 : ∀ y : Ext w', y.val.cell? ⟨w.heap.size, 0, none⟩ = some (I P) := fun y => (y.ok.cell (p := ⟨w.heap.size, 0, none⟩) hx2).trans hx0
  have e1 : ∀ y : Ext w', y.val.cell? ⟨w.heap.size, 1, none⟩ = some (I M) := fun y => (y.ok.cell (p := ⟨w.heap.size, 1, none⟩) hx2).trans hx1
  refine wp_region_ext (by kernel_rfl) (by kernel_rfl) ?_
  repeat (go_big_quiet_step (first
    | (go_at_call 14; exact Fn.ext Ho.out _ _)
    | (go_at_call 31; exact Fn.ext Q1.out _ _)))
  refine wpQuiet_nil ?_
  rintro w2 ⟨y2, hy2⟩
  replace hx0 : w2.cell? ⟨w.heap.size, 0, none⟩ = some (I P) := by rw [hy2]; exact e0 y2
  replace hx1 : w2.cell? ⟨w.heap.size, 1, none⟩ = some (I M) := by rw [hy2]; exact e1 y2
  replace hB0 : Below w.heap.size w w2 := by rw [hy2]; exact hB0.trans (y2.ok.mono (by omega))
  replace hx2 : w.heap.size < w2.heap.size := by rw [hy2]; exact Nat.lt_of_lt_of_le hx2 y2.ok.size
  clear e0 e1 hy2 y2
  go_wp2_with (go_at_call 31; (first | (with_reducible refine (Q2.out _).mono ?_) | (with_reducible refine (Q3.out _).mono ?_)); rintro e w' ⟨rfl, hb⟩; replace hB0 := hB0.trans (hb.mono hB0.size); have hn := cells_keep hb hx2 hx0 hx1; clear hx0 hx1 hx2 hb; obtain ⟨hx0, hx1, hx2⟩ := hn)
  clear Ho Q1 Q2 Q3 He

  have e0 : ∀ y : Ext w', y.val.cell? ⟨w.heap.size, 0, none⟩ = some (I P) := fun y => (y.ok.cell (p := ⟨w.heap.size, 0, none⟩) hx2).trans hx0
  have e1 : ∀ y : Ext w', y.val.cell? ⟨w.heap.size, 1, none⟩ = some (I M) := fun y => (y.ok.cell (p := ⟨w.heap.size, 1, none⟩) hx2).trans hx1
  refine wp_region_ext (by kernel_rfl) (by kernel_rfl) ?_
  repeat (go_big_quiet_step (first
    | (go_at_call 32; exact Fn.ext A1.out _ _)
    | (go_at_call 31; exact Fn.ext Q4.out _ _)))
  refine wpQuiet_nil ?_
  rintro w2 ⟨y2, hy2⟩
  replace hx0 : w2.cell? ⟨w.heap.size, 0, none⟩ = some (I P) := by rw [hy2]; exact e0 y2
  replace hx1 : w2.cell? ⟨w.heap.size, 1, none⟩ = some (I M) := by rw [hy2]; exact e1 y2
  replace hB0 : Below w.heap.size w w2 := by rw [hy2]; exact hB0.trans (y2.ok.mono hB0.size)
  replace hx2 : w.heap.size < w2.heap.size := by rw [hy2]; exact Nat.lt_of_lt_of_le hx2 y2.ok.size
  clear e0 e1 hy2 y2 A1 Q4
  go_wp2
  go_loopw [15, 16] (fun u v wr => ∃ n : Nat, n ≤ P ∧ n ≤ 100 ∧ u = I (nsum P M a n : Nat) ∧ v = I n ∧ (wr.cell? ⟨w.heap.size, 0, none⟩ = some (I P) ∧ wr.cell? ⟨w.heap.size, 1, none⟩ = some (I M) ∧ w.heap.size < wr.heap.size) ∧ Below w.heap.size w wr) (fun _ v _ => P - (intOf v).toNat)
  case atStart => exact ⟨0, by omega, by omega, rfl, rfl, ⟨hx0, hx1, hx2⟩, hB0⟩
  case round =>
    clear hx0 hx1 hx2 hB0
    obtain ⟨n, hn1, hn2, rfl, rfl, ⟨hx0, hx1, hx2⟩, hB0⟩ := hrel
    by_cases h : n < P
    · have h' : decide ((n : Int) < (P : Int)) = true := decide_eq_true (by omega)
      by_cases h2 : n < 100
      · have h2' : decide ((n : Int) < 100) = true := decide_eq_true (by omega)
        go_wp2_with (go_at_call 32; refine (An.out n _).mono ?_; rintro e w' ⟨rfl, hb⟩; replace hB0 := hB0.trans (hb.mono hB0.size); have hn := cells_keep hb hx2 hx0 hx1; clear hx0 hx1 hx2 hb; obtain ⟨hx0, hx1, hx2⟩ := hn)
        go_roundw
        case rel => exact ⟨n + 1, by omega, by omega, rfl, by go_num, ⟨hx0, hx1, hx2⟩, hB0⟩
        case measure => simp [intOf]; omega
      · have h2' : decide ((n : Int) < 100) = false := decide_eq_false (by omega)
        have h3 : decide ((P : Int) > 100) = true := decide_eq_true (by omega)
        go_wp2_with (first
          | (go_at_call 32; refine (A2'.out _).mono ?_; rintro e w' ⟨rfl, hb⟩; replace hB0 := hB0.trans (hb.mono hB0.size); have hn := cells_keep hb hx2 hx0 hx1; clear hx0 hx1 hx2 hb; obtain ⟨hx0, hx1, hx2⟩ := hn)
          | (go_at_call 16; refine (Hal.out _).mono ?_; rintro e w' ⟨rfl, hb⟩; replace hB0 := hB0.trans (hb.mono hB0.size); clear hb))
        go_ret
        exact ⟨rfl, hB0⟩
    · obtain rfl : n = P := by omega
      have h' : decide ((n : Int) < (n : Int)) = false := decide_eq_false (by omega)
      have hz := Hn.out
      rw [hz]
      by_cases h3 : 100 < n
      · omega
      · have h3' : decide ((n : Int) > 100) = false := decide_eq_false (by omega)
        go_wp2_with (first
          | (go_at_call 32; refine (A2'.out _).mono ?_; rintro e w' ⟨rfl, hb⟩; replace hB0 := hB0.trans (hb.mono hB0.size); have hn := cells_keep hb hx2 hx0 hx1; clear hx0 hx1 hx2 hb; obtain ⟨hx0, hx1, hx2⟩ := hn)
          | (go_at_call 16; refine (Hal.out _).mono ?_; rintro e w' ⟨rfl, hb⟩; replace hB0 := hB0.trans (hb.mono hB0.size); clear hb))
        go_ret
        exact ⟨rfl, hB0⟩

theorem fieldFermat_any (P M a b : Int) : Fn 6 #[A2 P M, I a, I b] (.bool true) := by
  by_cases h : chk P M [a, b] = 0
  · have hv : vld P M = true := by
      by_cases hv : vld P M = true
      · exact hv
      · rw [chk_form (Bool.eq_false_iff.2 hv)] at h; omega
    have hs := vld_spec hv
    obtain ⟨p, rfl⟩ := Int.eq_ofNat_of_zero_le (show 0 ≤ P by omega)
    obtain ⟨m, rfl⟩ := Int.eq_ofNat_of_zero_le (show 0 ≤ M by omega)
    have hall : ∀ i, i < 2 → 0 ≤ [a, b].getD i 0 ∧ [a, b].getD i 0 < ord p m := fun i hi => by
      apply Classical.byContradiction
      intro hx
      rw [chk_bad (xs := [a, b]) (i := i) hv (by simpa using hi) hx] at h
      omega
    have h0 := hall 0 (by omega)
    have h1 := hall 1 (by omega)
    rw [ord_fq hv] at h0 h1
    simp only [List.getD_cons_zero, List.getD_cons_succ] at h0 h1
    obtain ⟨x, rfl⟩ := Int.eq_ofNat_of_zero_le h0.1
    obtain ⟨y, rfl⟩ := Int.eq_ofNat_of_zero_le h1.1
    exact fermat_ok p m x y hv (by omega) (by omega)
  · exact fermat_no P M a b h

end Go.Proofs.Ytbddhccbmieokaa
