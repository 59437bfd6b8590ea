/- Walks through the functions of the field and of its reference: what each call returns; no memory that was there is changed. -/
import Derived.Test.YtbddhccbmieokaaTa
import Derived.Test.YtbddhccbmieokaaFb
namespace Go.Proofs.Ytbddhccbmieokaa
open Go.RowKit FieldMath
set_option linter.unusedVariables false

theorem rvalid_any (P M : Int) : Fn 17 #[A2 P M] (.bool (vld P M)) := by
  intro w
  by_cases hv : vld P M = true
  · have hp := ord_pos hv
    have Hv := Lib.hid hv
    have Ho := Lib.hid (rorder_any P M)
    clear hv
    generalize ord P M = q at *
    go_enter Try.func17, Try.ntmps17
    go_wp2_with (go_at_call 10; refine (Ho.out _).mono ?_; rintro e w' ⟨rfl, hb⟩)
    go_ret
    exact ⟨rb (by rw [Hv.out]; simp; omega), ((Below.refl _ _).alloc (Nat.le_refl _) _).trans (hb.mono (by simp))⟩
  · have Hv := Lib.hid (Bool.eq_false_iff.2 hv)
    have Ho := Lib.hid (show Fn 10 #[A2 P M] (I 0) by have := rorder_any P M; rwa [show ord P M = 0 by unfold ord; rw [if_neg hv]] at this)
    clear hv
    go_enter Try.func17, Try.ntmps17
    go_wp2_with (go_at_call 10; refine (Ho.out _).mono ?_; rintro e w' ⟨rfl, hb⟩)
    go_ret
    exact ⟨rb Hv.out.symm, ((Below.refl _ _).alloc (Nat.le_refl _) _).trans (hb.mono (by simp))⟩
theorem rvalid_yes {P M : Int} (h : vld P M = true) : Fn 17 #[A2 P M] (.bool true) := h ▸ rvalid_any P M
theorem rvalid_not {P M : Int} (h : vld P M = false) : Fn 17 #[A2 P M] (.bool false) := h ▸ rvalid_any P M

abbrev K4 (P M Q D : Int) : Value := .agg #[I P, I M, I Q, I D]
/-- the modulus in a kit -/
def mdl (M : Nat) : Nat := if M = 1 then 0 else modT M
/-- the kit of a valid field -/
abbrev KV (P M : Nat) : Value := K4 P M (fq P M : Nat) (mdl M : Nat)

set_option maxHeartbeats 400000 in
theorem is_yes (P M Q D a : Int) (h0 : 0 ≤ a) (h1 : a < Q) : Fn 26 #[K4 P M Q D, I a] (.bool true) := by
  intro w
  go_enter Try.func26, Try.ntmps26
  go_wp2
  go_ret
  exact ⟨rb (by simp), (Below.refl _ _).alloc (Nat.le_refl _) _⟩
set_option maxHeartbeats 400000 in
theorem is_no (P M Q D a : Int) (h : ¬ (0 ≤ a ∧ a < Q)) : Fn 26 #[K4 P M Q D, I a] (.bool false) := by
  intro w
  by_cases h0 : 0 ≤ a
  · have h1 : ¬ a < Q := fun h1 => h ⟨h0, h1⟩
    clear h
    go_enter Try.func26, Try.ntmps26
    go_wp2
    go_ret
    exact ⟨rb (by simp), (Below.refl _ _).alloc (Nat.le_refl _) _⟩
  · clear h
    go_enter Try.func26, Try.ntmps26
    go_wp2
    go_ret
    exact ⟨rfl, (Below.refl _ _).alloc (Nat.le_refl _) _⟩

set_option maxHeartbeats 400000 in
theorem kadd (P M Q D a b : Nat) (hp : 2 ≤ P) (hp2 : P ≤ 65536) (hM : 1 ≤ M) (ha : a ≤ 65536) (hb : b ≤ 65536) : Fn 27 #[K4 P M Q D, I a, I b] (I (fadd P M a b : Nat)) := by
  intro w
  by_cases h : M = 1
  · subst h
    have H := Lib.hid (show ((fadd P 1 a b : Nat) : Int) = ((a : Int) + b) % P by unfold fadd; rw [if_pos rfl]; simp)
    go_enter Try.func27, Try.ntmps27
    go_wp2
    go_ret
    exact ⟨ri H.out.symm, (Below.refl _ _).alloc (Nat.le_refl _) _⟩
  · have h2 : 1 < M := by omega
    have H := Lib.hid (show fadd P M a b = a ^^^ b by unfold fadd; rw [if_neg h])
    have Hx := Lib.hid (i64_xor a b (by omega) (by omega))
    clear h
    go_enter Try.func27, Try.ntmps27
    go_wp2
    go_ret
    exact ⟨ri (by rw [H.out]; exact Hx.out), (Below.refl _ _).alloc (Nat.le_refl _) _⟩
set_option maxHeartbeats 400000 in
theorem kneg (P M Q D a : Nat) (hp : 2 ≤ P) (hp2 : P ≤ 65536) (hM : 1 ≤ M) (ha : a ≤ 65536) (hap : M = 1 → a < P) : Fn 28 #[K4 P M Q D, I a] (I (fneg P M a : Nat)) := by
  intro w
  by_cases h : M = 1
  · subst h
    have hap' := hap rfl
    have H := Lib.hid (show ((fneg P 1 a : Nat) : Int) = ((P : Int) - a) % P by unfold fneg; rw [if_pos rfl, Int.natCast_emod, Int.natCast_sub (by omega)])
    go_enter Try.func28, Try.ntmps28
    go_wp2
    go_ret
    exact ⟨ri (by rw [H.out]; simp), (Below.refl _ _).alloc (Nat.le_refl _) _⟩
  · have h2 : 1 < M := by omega
    have H := Lib.hid (show fneg P M a = a by unfold fneg; rw [if_neg h])
    clear h
    go_enter Try.func28, Try.ntmps28
    go_wp2
    go_ret
    exact ⟨ri (by rw [H.out]), (Below.refl _ _).alloc (Nat.le_refl _) _⟩

theorem bit_yes {b i : Nat} (hb : b < 2 ^ 40) (h : b / 2 ^ i % 2 = 1) : (bits .and .i64 ((b : Int) / 2 ^ i) 1 == 1) = true := by
  have e : (b : Int) / 2 ^ i = ((b / 2 ^ i : Nat) : Int) := by rw [Int.natCast_ediv, Int.natCast_pow]; rfl
  rw [e]
  exact odd_yes (by have := Nat.div_le_self b (2 ^ i); omega) h
theorem bit_no {b i : Nat} (hb : b < 2 ^ 40) (h : ¬ b / 2 ^ i % 2 = 1) : (bits .and .i64 ((b : Int) / 2 ^ i) 1 == 1) = false := by
  have e : (b : Int) / 2 ^ i = ((b / 2 ^ i : Nat) : Int) := by rw [Int.natCast_ediv, Int.natCast_pow]; rfl
  rw [e]
  exact odd_no (by have := Nat.div_le_self b (2 ^ i); omega) h
theorem clA_lt {a b i : Nat} (ha : a < 2 ^ 16) (hi : i ≤ 16) : clA a b i < 2 ^ 32 ∧ a <<< i < 2 ^ 32 := by
  have h1 : ∀ i, i ≤ 16 → a <<< i < 2 ^ 32 := fun i hi => by
    rw [Nat.shiftLeft_eq]
    have h2 : 2 ^ i ≤ 2 ^ 16 := Nat.pow_le_pow_right (by omega) hi
    have h3 : a * 2 ^ i ≤ (2 ^ 16 - 1) * 2 ^ 16 := Nat.mul_le_mul (by omega) h2
    omega
  refine ⟨?_, h1 i hi⟩
  induction i with
  | zero => simp [clA]
  | succ i ih =>
    rw [clA]
    split
    · exact Nat.xor_lt_two_pow (ih (by omega)) (h1 i (by omega))
    · exact ih (by omega)
theorem clA_step {a b i : Nat} (ha : a < 2 ^ 16) (hi : i < 16) : bits .xor .i64 ((clA a b i : Nat) : Int) (wrap64 ((a : Int) * 2 ^ i)) = ((clA a b i ^^^ a <<< i : Nat) : Int) := by
  have h := shl_nat a i (by omega) (by omega)
  rw [h.1]
  have := clA_lt (b := b) ha (show i ≤ 16 by omega)
  exact i64_xor _ _ (by omega) (by omega)

set_option maxHeartbeats 1000000 in
theorem kmul (P M : Nat) (a b : Nat) (hv : FV P M) (ha : a < fq P M) (hb : b < fq P M) : Fn 29 #[KV P M, I a, I b] (I (fmul P M a b : Nat)) := by
  intro w
  have hs := hv.spec
  have hq := fq_cases hv
  have h1 := hs.1; have h2 := hs.2.1; have h4 := hs.2.2.2.1
  by_cases h : M = 1
  · subst h
    have H := Lib.hid (show ((fmul P 1 a b : Nat) : Int) = (a : Int) * b % P by unfold fmul; rw [if_pos rfl]; simp)
    have ha' : a < P := ha
    have hb' : b < P := hb
    have hm : (a : Int) * b ≤ 65536 * 65536 := Int.mul_le_mul (by omega) (by omega) (by omega) (by omega)
    have hm0 : 0 ≤ (a : Int) * b := Int.mul_nonneg (by omega) (by omega)
    clear hs hv
    generalize fmul P 1 a b = R at *
    generalize mdl 1 = D at *
    generalize fq P 1 = Q at *
    go_enter Try.func29, Try.ntmps29
    go_wp2
    go_ret
    exact ⟨ri H.out.symm, (Below.refl _ _).alloc (Nat.le_refl _) _⟩
  · have hM : 2 ≤ M := by omega
    have hd : ((M : Int) == 1) = false := by rw [beq_eq_false_iff_ne]; omega
    have ea : fq P M = 2 ^ M := by unfold fq; rw [if_neg h]
    have em : mdl M = modT M := by unfold mdl; rw [if_neg h]
    have Ht := Lib.hid (modT_top hM h4)
    have Htb := modT_bd hM h4
    have Hpos := top_sz Ht.out
    have hpow := pow2_bd h4
    rw [ea] at ha hb
    unfold KV
    rw [em]
    have H := Lib.hid (show fmul P M a b = rst (clA a b M) (modT M) by unfold fmul; rw [if_neg h, mul_ref Ht.out ha hb])
    have hkp : 0 < modT M := Nat.lt_of_lt_of_le (Nat.two_pow_pos M) Hpos.1
    clear hs hv ea em h Hpos
    have ha' : a < 2 ^ 16 := by omega
    have hb' : b < 2 ^ 40 := by omega
    clear ha hb hpow
    generalize fmul P M a b = R at *
    generalize modT M = D at *
    generalize fq P M = Q at *
    go_enter Try.func29, Try.ntmps29
    go_wp2
    go_loop [7, 8] (fun u v => ∃ i : Nat, i ≤ M ∧ u = I (clA a b i : Nat) ∧ v = I i) (fun _ v => M - (intOf v).toNat)
    case atStart => exact ⟨0, by omega, rfl, rfl⟩
    case round =>
      obtain ⟨i, hi, rfl, rfl⟩ := hrel
      have Hc := Lib.hid (clA_lt (a := a) (b := b) (i := i) ha' (by omega))
      by_cases hlt : i < M
      · have Hst := Lib.hid (clA_step (a := a) (b := b) (i := i) ha' (by omega))
        by_cases hbit : b / 2 ^ i % 2 = 1
        · have hy := bit_yes hb' hbit
          have Hn := Lib.hid (show clA a b (i + 1) = clA a b i ^^^ a <<< i by rw [clA, if_pos hbit])
          clear hbit
          go_wp2
          go_round
          case rel => exact ⟨i + 1, by omega, iv (by rw [Hn.out]; exact Hst.out), by go_num⟩
          case measure => simp [intOf]; omega
        · have hy := bit_no hb' hbit
          have Hn := Lib.hid (show clA a b (i + 1) = clA a b i by rw [clA, if_neg hbit])
          clear hbit
          go_wp2
          go_round
          case rel => exact ⟨i + 1, by omega, iv (by rw [Hn.out]), by go_num⟩
          case measure => simp [intOf]; omega
      · have hiM : i = M := by omega
        subst hiM
        have hlt2 := Hc.out.1
        have Hr := Lib.hid (rest_any (clA a b i) D (by omega) hkp (by omega))
        generalize clA a b i = c at *
        go_wp2_with (go_at_call 38; refine (Hr.out _).mono ?_; rintro e w' ⟨rfl, rfl⟩)
        go_ret
        exact ⟨ri (by rw [H.out]), (Below.refl _ _).alloc (Nat.le_refl _) _⟩

end Go.Proofs.Ytbddhccbmieokaa
