/- Walks through the functions of the field and of its reference: what each call returns; no memory that was there is changed. -/
import Derived.Test.YtbddhccbmieokaaT9
namespace Go.Proofs.Ytbddhccbmieokaa
open Go.RowKit FieldMath
set_option linter.unusedVariables false

theorem ord_no {P M : Int} (h : ¬ (2 ≤ P ∧ P ≤ 65536 ∧ 1 ≤ M ∧ M ≤ 16 ∧ (1 < M → P = 2) ∧ Prm P.toNat)) : ord P M = 0 := by
  unfold ord; rw [if_neg (by rw [vld_no h]; simp)]
theorem ord_yes {n m : Nat} (h1 : 2 ≤ n) (h2 : n ≤ 65536) (h3 : 1 ≤ m) (h4 : m ≤ 16) (h5 : 1 < m → n = 2) (h6 : Prm n) : ord n m = ((n ^ m : Nat) : Int) := by
  have hv : vld n m = true := decide_eq_true ⟨by omega, by omega, by omega, by omega, fun h => by have := h5 (by omega); omega, h6⟩
  unfold ord
  rw [if_pos hv]
  by_cases h : 1 < m
  · rw [if_pos (by omega), h5 h, Int.toNat_natCast, Int.natCast_pow]; rfl
  · rw [if_neg (by omega), show m = 1 by omega, Nat.pow_one]
theorem npow_bd {n m i : Nat} (h1 : 2 ≤ n) (h2 : n ≤ 65536) (h4 : m ≤ 16) (h5 : 1 < m → n = 2) (hi : i ≤ m) : n ^ i ≤ 65536 := by
  by_cases h : 1 < m
  · rw [h5 h]; exact Nat.pow_le_pow_right (n := 2) (j := 16) (by omega) (by omega)
  · have : i = 0 ∨ i = 1 := by omega
    rcases this with rfl | rfl
    · simp
    · simpa using h2

set_option maxHeartbeats 2000000 in
theorem rorder_pos (n m : Nat) (h1 : 2 ≤ n) (h2 : n ≤ 65536) (h3 : 1 ≤ m) (h4 : m ≤ 16) (h5 : 1 < m → n = 2) (w : World) :
    Calls Try.prog 10 #[A2 n m] w fun e w' => e = .returned (I (ord n m)) ∧ Below w.heap.size w w' := by
  have Hb := fun i => Lib.hid (fun hi => npow_bd (i := i) h1 h2 h4 h5 hi)
  have Hno := Lib.hid (fun (h : ¬ Prm n) => ord_no (P := n) (M := m) (fun g => h g.2.2.2.2.2))
  have Hyes := Lib.hid (fun (h : Prm n) => ord_yes h1 h2 h3 h4 h5 h)
  generalize ord n m = R at *
  have hn2 : 1 < m → ((n : Int) != 2) = false := fun h => by rw [bne_eq_false_iff_eq, h5 h]; rfl
  have H5 := Lib.hid h5
  clear h5
  by_cases hm : 1 < m
  all_goals
    first | (have hn3 := hn2 hm; clear hn2) | clear hn2
    go_enter Try.func10, Try.ntmps10
    go_wp2
    go_loop [3] (fun v => ∃ i : Nat, 2 ≤ i ∧ i ≤ n ∧ Hid (∀ c, c < i → 2 ≤ c → n % c ≠ 0) ∧ v = I i) (fun v => n - (intOf v).toNat)
    case atStart => exact ⟨2, by omega, by omega, Lib.hid (fun c h1 h2 => by omega), rfl⟩
    case round =>
      obtain ⟨i, hi1, hi2, H, rfl⟩ := hrel
      by_cases hlt : i < n
      · by_cases h0 : n % i = 0
        · have hmb : (((n : Int) % (i : Int)) == 0) = true := by rw [beq_iff_eq]; exact_mod_cast h0
          have Hr := Lib.hid (Hno.out (fun hp => hp.2 i hlt hi1 h0))
          clear h0
          go_wp2
          go_ret
          exact ⟨ri Hr.out.symm, (Below.refl _ _).alloc (Nat.le_refl _) _⟩
        · have hmb : (((n : Int) % (i : Int)) == 0) = false := by rw [beq_eq_false_iff_ne]; exact_mod_cast h0
          have Hs := Lib.hid (step_no H.out h0)
          clear h0
          go_wp2
          go_round
          case rel => exact ⟨i + 1, by omega, by omega, Hs, by go_num⟩
          case measure => simp [intOf]; omega
      · have hin : i = n := by omega
        subst hin
        have Hr := Lib.hid (Hyes.out ⟨h1, H.out⟩)
        clear H
        go_wp2
        go_loop [4, 5] (fun u v => ∃ j : Nat, j ≤ m ∧ u = I ((i ^ j : Nat) : Int) ∧ v = I j) (fun _ v => 100 - (intOf v).toNat)
        case atStart => exact ⟨0, by omega, rfl, rfl⟩
        case round =>
          obtain ⟨j, hj, rfl, rfl⟩ := hrel
          by_cases hjl : j < m
          · have hb1 := (Hb (j + 1)).out hjl
            rw [Nat.pow_succ] at hb1
            have hb2 : ((i ^ j : Nat) : Int) * (i : Int) ≤ 65536 := by rw [← Int.natCast_mul]; omega
            have hb0 : 0 ≤ ((i ^ j : Nat) : Int) * (i : Int) := Int.mul_nonneg (by omega) (by omega)
            have He := Lib.hid (show ((i ^ j : Nat) : Int) * (i : Int) = ((i ^ (j + 1) : Nat) : Int) by rw [Nat.pow_succ]; simp)
            clear hb1
            generalize i ^ j = x at *
            go_wp2
            go_round
            case rel => exact ⟨j + 1, by omega, iv He.out, by go_num⟩
            case measure => simp [intOf]; omega
          · have hjm : j = m := by omega
            subst hjm
            have hb1 := (Hb j).out hj
            generalize i ^ j = x at *
            go_wp2
            go_ret
            exact ⟨ri Hr.out.symm, (Below.refl _ _).alloc (Nat.le_refl _) _⟩

theorem rorder_any (P M : Int) : Fn 10 #[A2 P M] (I (ord P M)) := by
  intro w
  by_cases h1 : P < 2
  · have hno := Lib.hid (ord_no (P := P) (M := M) (by omega))
    go_enter Try.func10, Try.ntmps10
    go_wp2
    go_ret
    exact ⟨ri hno.out.symm, (Below.refl _ _).alloc (Nat.le_refl _) _⟩
  by_cases h2 : 65536 < P
  · have hno := Lib.hid (ord_no (P := P) (M := M) (by omega))
    go_enter Try.func10, Try.ntmps10
    go_wp2
    go_ret
    exact ⟨ri hno.out.symm, (Below.refl _ _).alloc (Nat.le_refl _) _⟩
  by_cases h3 : M < 1
  · have hno := Lib.hid (ord_no (P := P) (M := M) (by omega))
    go_enter Try.func10, Try.ntmps10
    go_wp2
    go_ret
    exact ⟨ri hno.out.symm, (Below.refl _ _).alloc (Nat.le_refl _) _⟩
  by_cases h4 : 16 < M
  · have hno := Lib.hid (ord_no (P := P) (M := M) (by omega))
    go_enter Try.func10, Try.ntmps10
    go_wp2
    go_ret
    exact ⟨ri hno.out.symm, (Below.refl _ _).alloc (Nat.le_refl _) _⟩
  obtain ⟨n, rfl⟩ := Int.eq_ofNat_of_zero_le (show 0 ≤ P by omega)
  obtain ⟨m, rfl⟩ := Int.eq_ofNat_of_zero_le (show 0 ≤ M by omega)
  by_cases h5 : 1 < m → n = 2
  · exact rorder_pos n m (by omega) (by omega) (by omega) (by omega) h5 w
  · have h6 : 1 < m ∧ n ≠ 2 := by omega
    have hno := Lib.hid (ord_no (P := n) (M := m) (by omega))
    have hp : ((n : Int) != 2) = true := by rw [bne_iff_ne]; omega
    have h7 := h6.1
    clear h6 h5
    go_enter Try.func10, Try.ntmps10
    go_wp2
    go_ret
    exact ⟨ri hno.out.symm, (Below.refl _ _).alloc (Nat.le_refl _) _⟩

end Go.Proofs.Ytbddhccbmieokaa
