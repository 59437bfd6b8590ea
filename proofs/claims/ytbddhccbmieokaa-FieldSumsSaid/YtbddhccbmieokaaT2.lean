/- Walks through the functions of the field and of its reference: what each call returns; no memory that was there is changed. -/
import Derived.Test.YtbddhccbmieokaaT1
namespace Go.Proofs.Ytbddhccbmieokaa
open Go.RowKit FieldMath

abbrev MT : Value := .agg #[.int .i64 7, .int .i64 11, .int .i64 19, .int .i64 37, .int .i64 67, .int .i64 131, .int .i64 283, .int .i64 515, .int .i64 1033, .int .i64 2053, .int .i64 4105, .int .i64 8219, .int .i64 16417, .int .i64 32771, .int .i64 65579]
theorem mi0 (w : World) : (Instr.index 51 MT (I 0)).run Try.prog w = .ok (I 7) w := by kernel_rfl
theorem mi1 (w : World) : (Instr.index 51 MT (I 1)).run Try.prog w = .ok (I 11) w := by kernel_rfl
theorem mi2 (w : World) : (Instr.index 51 MT (I 2)).run Try.prog w = .ok (I 19) w := by kernel_rfl
theorem mi3 (w : World) : (Instr.index 51 MT (I 3)).run Try.prog w = .ok (I 37) w := by kernel_rfl
theorem mi4 (w : World) : (Instr.index 51 MT (I 4)).run Try.prog w = .ok (I 67) w := by kernel_rfl
theorem mi5 (w : World) : (Instr.index 51 MT (I 5)).run Try.prog w = .ok (I 131) w := by kernel_rfl
theorem mi6 (w : World) : (Instr.index 51 MT (I 6)).run Try.prog w = .ok (I 283) w := by kernel_rfl
theorem mi7 (w : World) : (Instr.index 51 MT (I 7)).run Try.prog w = .ok (I 515) w := by kernel_rfl
theorem mi8 (w : World) : (Instr.index 51 MT (I 8)).run Try.prog w = .ok (I 1033) w := by kernel_rfl
theorem mi9 (w : World) : (Instr.index 51 MT (I 9)).run Try.prog w = .ok (I 2053) w := by kernel_rfl
theorem mi10 (w : World) : (Instr.index 51 MT (I 10)).run Try.prog w = .ok (I 4105) w := by kernel_rfl
theorem mi11 (w : World) : (Instr.index 51 MT (I 11)).run Try.prog w = .ok (I 8219) w := by kernel_rfl
theorem mi12 (w : World) : (Instr.index 51 MT (I 12)).run Try.prog w = .ok (I 16417) w := by kernel_rfl
theorem mi13 (w : World) : (Instr.index 51 MT (I 13)).run Try.prog w = .ok (I 32771) w := by kernel_rfl
theorem mi14 (w : World) : (Instr.index 51 MT (I 14)).run Try.prog w = .ok (I 65579) w := by kernel_rfl
theorem modul_at (d : Nat) (h1 : 2 ≤ d) (h2 : d ≤ 16) (w : World) : (Instr.index 51 MT (.int .i64 ((d : Int) - 2))).run Try.prog w = .ok (I (modT d)) w := by
  have hd : d = 2 ∨ d = 3 ∨ d = 4 ∨ d = 5 ∨ d = 6 ∨ d = 7 ∨ d = 8 ∨ d = 9 ∨ d = 10 ∨ d = 11 ∨ d = 12 ∨ d = 13 ∨ d = 14 ∨ d = 15 ∨ d = 16 := by omega
  rcases hd with rfl | rfl | rfl | rfl | rfl | rfl | rfl | rfl | rfl | rfl | rfl | rfl | rfl | rfl | rfl
  · exact mi0 w
  · exact mi1 w
  · exact mi2 w
  · exact mi3 w
  · exact mi4 w
  · exact mi5 w
  · exact mi6 w
  · exact mi7 w
  · exact mi8 w
  · exact mi9 w
  · exact mi10 w
  · exact mi11 w
  · exact mi12 w
  · exact mi13 w
  · exact mi14 w

set_option maxHeartbeats 400000 in
theorem moduli_any (d : Nat) (h1 : 2 ≤ d) (h2 : d ≤ 16) : Fs 39 #[I d] (I (modT d)) := by
  intro w
  have hi := modul_at d h1 h2
  go_enter Try.func39, Try.ntmps39
  go_wp2
  go_ret
  exact ⟨rfl, rfl⟩

abbrev AR (p : Int) : Value := .agg #[I p]

set_option maxHeartbeats 400000 in
theorem radd (p a b : Int) (h0 : 0 ≤ a) (h1 : a ≤ 65536) (h2 : 0 ≤ b) (h3 : b ≤ 65536) (h4 : 0 < p) : Fn 59 #[AR p, I a, I b] (I ((a + b) % p)) := by
  intro w
  go_enter Try.func59, Try.ntmps59
  go_wp2
  go_ret
  exact ⟨rfl, (Below.refl _ _).alloc (Nat.le_refl _) _⟩
set_option maxHeartbeats 400000 in
theorem rmul (p a b : Int) (h0 : 0 ≤ a) (h1 : a ≤ 65536) (h2 : 0 ≤ b) (h3 : b ≤ 65536) (h4 : 0 < p) : Fn 60 #[AR p, I a, I b] (I (a * b % p)) := by
  intro w
  have hm : a * b ≤ 65536 * 65536 := Int.mul_le_mul h1 h3 h2 (by omega)
  have hm0 : 0 ≤ a * b := Int.mul_nonneg h0 h2
  go_enter Try.func60, Try.ntmps60
  go_wp2
  go_ret
  exact ⟨rfl, (Below.refl _ _).alloc (Nat.le_refl _) _⟩
set_option maxHeartbeats 400000 in
theorem rneg (p a : Int) (h0 : 0 ≤ a) (h1 : a ≤ 65536) (h2 : a ≤ p) (h3 : p ≤ 65536) (h4 : 0 < p) : Fn 61 #[AR p, I a] (I ((p - a) % p)) := by
  intro w
  go_enter Try.func61, Try.ntmps61
  go_wp2
  go_ret
  exact ⟨rfl, (Below.refl _ _).alloc (Nat.le_refl _) _⟩


theorem wr_i64 (n : Int) (h0 : 0 ≤ n) (h1 : n < 9223372036854775808) : IntKind.i64.wrap n = n := by rw [IntKind.wrap_i64]; omega
theorem i64_xor (a b : Nat) (ha : a < 2 ^ 62) (hb : b < 2 ^ 62) : bits .xor .i64 (a : Int) (b : Int) = ((a ^^^ b : Nat) : Int) := by
  have ha' : a % 2 ^ IntKind.i64.bits = a := Nat.mod_eq_of_lt (Nat.lt_of_lt_of_le ha (by decide))
  have hb' : b % 2 ^ IntKind.i64.bits = b := Nat.mod_eq_of_lt (Nat.lt_of_lt_of_le hb (by decide))
  simp only [bits, BitVec.ofInt_natCast, BitVec.toNat_xor, BitVec.toNat_ofNat, ha', hb']
  have := Nat.xor_lt_two_pow ha hb
  exact wr_i64 _ (Int.natCast_nonneg _) (by omega)
theorem i64_and1 (a : Nat) (ha : a < 2 ^ 63) : bits .and .i64 (a : Int) 1 = ((a % 2 : Nat) : Int) := by
  have ha' : a % 2 ^ IntKind.i64.bits = a := Nat.mod_eq_of_lt (Nat.lt_of_lt_of_le ha (by decide))
  have h1 : bits .and .i64 (a : Int) 1 = IntKind.i64.wrap ((a &&& 1 : Nat) : Int) := by
    have e : (1 : Int) = ((1 : Nat) : Int) := rfl
    rw [e]
    simp only [bits, BitVec.ofInt_natCast, BitVec.toNat_and, BitVec.toNat_ofNat, ha']
    rfl
  rw [h1, Nat.and_one_is_mod]
  exact wr_i64 _ (Int.natCast_nonneg _) (by omega)
theorem odd_yes {a : Nat} (ha : a < 2 ^ 63) (h : a % 2 = 1) : (bits .and .i64 (a : Int) 1 == 1) = true := by rw [i64_and1 a ha, h]; rfl
theorem odd_no {a : Nat} (ha : a < 2 ^ 63) (h : ¬ a % 2 = 1) : (bits .and .i64 (a : Int) 1 == 1) = false := by
  rw [i64_and1 a ha, show a % 2 = 0 by omega]; rfl

abbrev AB (m k : Int) : Value := .agg #[I m, I k]
set_option maxHeartbeats 400000 in
theorem badd (m k : Int) (a b : Nat) (h1 : a ≤ 65536) (h3 : b ≤ 65536) : Fn 62 #[AB m k, I a, I b] (I ((a ^^^ b : Nat))) := by
  intro w
  have hx := Lib.hid (i64_xor a b (by omega) (by omega))
  go_enter Try.func62, Try.ntmps62
  go_wp2
  go_ret
  exact ⟨ri hx.out, (Below.refl _ _).alloc (Nat.le_refl _) _⟩
set_option maxHeartbeats 400000 in
theorem bneg (m k a : Int) : Fn 64 #[AB m k, I a] (I a) := by
  intro w
  go_enter Try.func64, Try.ntmps64
  go_wp2
  go_ret
  exact ⟨rfl, (Below.refl _ _).alloc (Nat.le_refl _) _⟩

theorem top_yes {a m : Nat} (h : 2 * a / 2 ^ m = 1) : ((a : Int) * 2 / 2 ^ m == 1) = true := by
  have e : (a : Int) * 2 / 2 ^ m = ((2 * a / 2 ^ m : Nat) : Int) := by
    rw [Int.natCast_ediv, Int.natCast_pow, Int.natCast_mul, Int.mul_comm]; rfl
  rw [e, h]; rfl
theorem top_no {a m : Nat} (h : ¬ 2 * a / 2 ^ m = 1) : ((a : Int) * 2 / 2 ^ m == 1) = false := by
  have e : (a : Int) * 2 / 2 ^ m = ((2 * a / 2 ^ m : Nat) : Int) := by
    rw [Int.natCast_ediv, Int.natCast_pow, Int.natCast_mul, Int.mul_comm]; rfl
  rw [e, beq_eq_false_iff_ne]; exact_mod_cast h
theorem iv {k : IntKind} {a b : Int} (h : a = b) : Value.int k a = .int k b := by rw [h]
theorem xor_dbl {a k : Nat} (ha : a ≤ 65536) (hk : k < 131072) : bits .xor .i64 ((a : Int) * 2) (k : Int) = (((2 * a) ^^^ k : Nat) : Int) := by
  rw [show (a : Int) * 2 = ((2 * a : Nat) : Int) by omega]; exact i64_xor _ _ (by omega) (by omega)

set_option maxHeartbeats 1000000 in
theorem bmul (m k : Nat) (a b : Nat) (hm1 : 2 ≤ m) (hm : m ≤ 16) (hk1 : k / 2 ^ m = 1) (hkb : k < 131072) (h1 : a < 2 ^ m) (h3 : b < 2 ^ m) : Fn 63 #[AB m k, I a, I b] (I (pmul m k a b 0)) := by
  intro w
  have hp2 := pow2_bd hm
  have Hk := Lib.hid hk1
  clear hk1
  obtain ⟨R, HR⟩ : ∃ R, Hid (pmul m k a b 0 = R) := ⟨_, Lib.hid rfl⟩
  have HRR : I (pmul m k a b 0) = I R := by rw [HR.out]
  rw [HRR]
  clear HRR
  go_enter Try.func63, Try.ntmps63
  go_wp2
  go_loop [1,2,7] (fun u v x => ∃ a b c : Nat, a < 2 ^ m ∧ b ≤ 65536 ∧ c < 2 ^ m ∧ Hid (pmul m k a b c = R) ∧ u = .int .i64 a ∧ v = .int .i64 b ∧ x = .int .i64 c) (fun _ v _ => (intOf v).toNat)
  case atStart => exact ⟨a, b, 0, h1, by omega, Nat.two_pow_pos m, HR, rfl, rfl, rfl⟩
  case round =>
    clear h1 h3 HR
    obtain ⟨a, b, c, ha, hb, hc, H, rfl, rfl, rfl⟩ := hrel
    by_cases h : 0 < b
    · have Hd := Lib.hid (dbl_bd Hk.out ha)
      have Hx := Lib.hid (Nat.xor_lt_two_pow hc ha)
      have Hxx := Lib.hid (xor_dbl (a := a) (k := k) (by omega) hkb)
      have Hxy := Lib.hid (i64_xor c a (by omega) (by omega))
      have H' := Lib.hid (show pmul m k (if 2 * a / 2 ^ m = 1 then (2 * a) ^^^ k else 2 * a) (b / 2) (if b % 2 = 1 then c ^^^ a else c) = R by rw [← H.out]; conv => rhs; rw [pmul, if_pos h])
      clear H
      by_cases ho : b % 2 = 1
      · have ho' := odd_yes (a := b) (by omega) ho
        have Ho := Lib.hid ho
        clear ho
        by_cases ht : 2 * a / 2 ^ m = 1
        · have ht' := top_yes ht
          have Ht := Lib.hid ht
          clear ht
          go_wp2
          go_round
          case rel => exact ⟨_, b / 2, _, Hd.out, by omega, Hx.out, Lib.hid (by rw [← H'.out, if_pos Ho.out]), by rw [if_pos Ht.out]; exact iv Hxx.out, by go_num, iv Hxy.out⟩
          case measure => simp [intOf]; omega
        · have ht' := top_no ht
          have Ht := Lib.hid ht
          clear ht
          go_wp2
          go_round
          case rel => exact ⟨_, b / 2, _, Hd.out, by omega, Hx.out, Lib.hid (by rw [← H'.out, if_pos Ho.out]), by rw [if_neg Ht.out]; exact iv (by omega), by go_num, iv Hxy.out⟩
          case measure => simp [intOf]; omega
      · have ho' := odd_no (a := b) (by omega) ho
        have Ho := Lib.hid ho
        clear ho
        by_cases ht : 2 * a / 2 ^ m = 1
        · have ht' := top_yes ht
          have Ht := Lib.hid ht
          clear ht
          go_wp2
          go_round
          case rel => exact ⟨_, b / 2, _, Hd.out, by omega, hc, Lib.hid (by rw [← H'.out, if_neg Ho.out]), by rw [if_pos Ht.out]; exact iv Hxx.out, by go_num, rfl⟩
          case measure => simp [intOf]; omega
        · have ht' := top_no ht
          have Ht := Lib.hid ht
          clear ht
          go_wp2
          go_round
          case rel => exact ⟨_, b / 2, _, Hd.out, by omega, hc, Lib.hid (by rw [← H'.out, if_neg Ho.out]), by rw [if_neg Ht.out]; exact iv (by omega), by go_num, rfl⟩
          case measure => simp [intOf]; omega
    · have H' := Lib.hid (show c = R by rw [← H.out, pmul, if_neg h])
      clear H
      go_wp2
      go_ret
      exact ⟨ri (by rw [H'.out]), (Below.refl _ _).alloc (Nat.le_refl _) _⟩

end Go.Proofs.Ytbddhccbmieokaa
