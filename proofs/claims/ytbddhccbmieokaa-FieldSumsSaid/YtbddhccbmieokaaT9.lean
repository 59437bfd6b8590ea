/- Walks through the functions of the field and of its reference: what each call returns; no memory that was there is changed. -/
import Derived.Test.YtbddhccbmieokaaT8
namespace Go.Proofs.Ytbddhccbmieokaa
open Go.RowKit FieldMath

set_option maxHeartbeats 400000 in
theorem degree_any (a : Nat) (ha : a < 2 ^ 40) : Fs 37 #[I a] (I ((sz a : Nat) - 1)) := by
  intro w
  obtain ⟨R, HR⟩ : ∃ R : Int, Hid (((sz a : Nat) : Int) - 1 = R) := ⟨_, Lib.hid rfl⟩
  have Hs := Lib.hid (sz_lt ha)
  rw [show I (((sz a : Nat) : Int) - 1) = I R by rw [HR.out]]
  go_enter Try.func37, Try.ntmps37
  go_wp2
  go_loop [0, 3] (fun u v => ∃ (a : Nat) (n : Int), a < 2 ^ 40 ∧ -1 ≤ n ∧ n ≤ 40 ∧ Hid (n + sz a = R) ∧ Hid (sz a + n ≤ 39) ∧ u = I a ∧ v = I n) (fun u _ => (intOf u).toNat)
  case atStart => exact ⟨a, -1, ha, by omega, by omega, Lib.hid (by have := HR.out; omega), Lib.hid (by have := Hs.out; omega), rfl, rfl⟩
  case round =>
    clear ha HR Hs
    obtain ⟨a, n, ha, h1, h2, H, Hb, rfl, rfl⟩ := hrel
    by_cases h : 0 < a
    · have H' := Lib.hid (sz_half h)
      have hn : n ≤ 39 := by have := Hb.out; omega
      go_wp2
      go_round
      case rel => exact ⟨a / 2, n + 1, by omega, by omega, by omega, Lib.hid (by have := H.out; have := H'.out; omega), Lib.hid (by have := Hb.out; have := H'.out; omega), by go_num, rfl⟩
      case measure => simp [intOf]; omega
    · have H' := Lib.hid (show n = R by have := H.out; rw [show a = 0 by omega, sz_zero] at this; omega)
      go_wp2
      go_ret
      exact ⟨ri H'.out, rfl⟩

theorem shl_nat (b k : Nat) (hk : k ≤ 40) (hb : b < 2 ^ 20) : wrap64 ((b : Int) * 2 ^ k) = ((b <<< k : Nat) : Int) ∧ b <<< k < 2 ^ 60 := by
  have h2 : 2 ^ k ≤ 2 ^ 40 := Nat.pow_le_pow_right (by omega) hk
  have h3 : b * 2 ^ k ≤ (2 ^ 20 - 1) * 2 ^ 40 := Nat.mul_le_mul (by omega) h2
  rw [Nat.shiftLeft_eq]
  have e : (b : Int) * 2 ^ k = ((b * 2 ^ k : Nat) : Int) := by rw [Int.natCast_mul, Int.natCast_pow]; rfl
  rw [e]
  generalize b * 2 ^ k = x at *
  refine ⟨?_, by omega⟩
  unfold wrap64
  omega
theorem rest_val (a b : Nat) (ha : a < 2 ^ 40) (hb : b < 2 ^ 20) (h : sz b ≤ sz a) (hsa : sz a ≤ 40) (hsb : 0 < sz b) :
    bits .xor .i64 (a : Int) (wrap64 ((b : Int) * 2 ^ (((sz a : Nat) : Int) - 1 - (((sz b : Nat) : Int) - 1)).toNat)) = ((a ^^^ b <<< (sz a - sz b) : Nat) : Int) := by
  rw [show (((sz a : Nat) : Int) - 1 - (((sz b : Nat) : Int) - 1)).toNat = sz a - sz b by omega]
  have h1 := shl_nat b (sz a - sz b) (by omega) hb
  rw [h1.1]
  exact i64_xor _ _ (by omega) (by omega)
set_option maxHeartbeats 1000000 in
theorem rest_any (a b : Nat) (ha : a < 2 ^ 40) (hb0 : 0 < b) (hb : b < 2 ^ 20) : Fs 38 #[I a, I b] (I (rst a b)) := by
  intro w
  obtain ⟨R, HR⟩ : ∃ R : Nat, Hid (rst a b = R) := ⟨_, Lib.hid rfl⟩
  rw [show I (rst a b) = I R by rw [HR.out]]
  have Hdb := Lib.hid (degree_any b (by omega))
  have Hsb := Lib.hid (sz_lt hb)
  go_enter Try.func38, Try.ntmps38
  go_wp2
  go_loop [0] (fun u => ∃ (a : Nat), a < 2 ^ 40 ∧ Hid (rst a b = R) ∧ u = I a) (fun u => sz (intOf u).toNat)
  case atStart => exact ⟨a, ha, HR, rfl⟩
  case round =>
    clear ha HR
    obtain ⟨a, ha, H, rfl⟩ := hrel
    have Hda := Lib.hid (degree_any a ha)
    have Hsa := Lib.hid (sz_lt ha)
    by_cases h : sz b ≤ sz a
    · have H' := Lib.hid ((rst_step hb0 h).trans H.out)
      have Hdec := Lib.hid (rst_dec hb0 h)
      have hle : (((sz b : Nat) : Int) - 1 ≤ ((sz a : Nat) : Int) - 1) := by omega
      have hsa := Hsa.out
      have Hval := Lib.hid (rest_val a b ha hb h Hsa.out (sz_pos hb0))
      have Hlt := Lib.hid (Nat.lt_of_lt_of_le (lt_sz (a ^^^ b <<< (sz a - sz b))) (Nat.pow_le_pow_right (show 0 < 2 by omega) (show sz (a ^^^ b <<< (sz a - sz b)) ≤ 40 by have := Hdec.out; omega)))
      have hsb := Hsb.out
      have hdiff : (0 : Int) ≤ (sz a : Nat) - 1 - ((sz b : Nat) - 1) := by omega
      go_wp2_with (go_at_call 37; refine (degree_any _ (by omega) _).mono ?_; rintro e w' ⟨rfl, rfl⟩)
      go_round
      case rel => exact ⟨a ^^^ b <<< (sz a - sz b), Hlt.out, H', iv Hval.out⟩
      case measure => rw [Hval.out]; exact Hdec.out
    · have H' := Lib.hid ((rst_end h).symm.trans H.out)
      have hle : ¬ (((sz b : Nat) : Int) - 1 ≤ ((sz a : Nat) : Int) - 1) := by omega
      go_wp2_with (go_at_call 37; refine (degree_any _ (by omega) _).mono ?_; rintro e w' ⟨rfl, rfl⟩)
      go_ret
      exact ⟨ri (by rw [H'.out]), rfl⟩

end Go.Proofs.Ytbddhccbmieokaa
