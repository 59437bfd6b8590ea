/- How many bits a number needs, by the program and by the reference. -/
import Derived.Test.YtjahkdomofhfgaaTj
namespace Go.Proofs.Ytjahkdomofhfgaa
open Go.RowKit
set_option linter.unusedVariables false
set_option linter.unusedSimpArgs false

/-- b is the least number for which 2^b is at least n -/
def IsLb (n : Int) (b : Nat) : Prop := b ≤ 20 ∧ n ≤ 2 ^ b ∧ ∀ c, c < b → (2 : Int) ^ c < n

theorem w2 (c : Nat) (h : c ≤ 20) : wrap64 ((2 : Int) ^ c) = 2 ^ c := by
  have : ∀ c : Fin 21, wrap64 ((2 : Int) ^ c.val) = 2 ^ c.val := by decide +kernel
  exact this ⟨c, by omega⟩

set_option maxHeartbeats 2000000 in
theorem bits_any {n : Int} {b : Nat} (h : IsLb n b) (w : World) : Calls Try.prog 22 #[I n] w fun e w' => e = .returned (I b) ∧ w' = w := by
  obtain ⟨h1, h2, h3⟩ := h
  have H2 := Lib.hid h2
  have H3 := Lib.hid h3
  clear h2 h3
  go_enter Try.func22, Try.ntmps22
  go_wp2
  go_loop [3] (fun x => ∃ c : Nat, c ≤ b ∧ x = I c) (fun x => b - (intOf x).toNat)
  case atStart => exact ⟨0, by omega, rfl⟩
  case round =>
    obtain ⟨c, hc, rfl⟩ := hrel
    have hw := w2 c (by omega)
    by_cases hcb : c < b
    · have hp := H3.out c hcb
      rw [← hw] at hp
      clear hw
      go_wp2
      go_round
      case rel => exact ⟨c + 1, by omega, by go_num⟩
      case measure => simp [intOf]; omega
    · obtain rfl : c = b := by omega
      have hp := H2.out
      rw [← hw] at hp
      have hp' : ¬ wrap64 ((2 : Int) ^ c) < n := by omega
      clear H2 H3 hw
      go_wp2
      go_ret
      exact ⟨rfl, rfl⟩
set_option maxHeartbeats 2000000 in
theorem least_any {n : Int} {b : Nat} (h : IsLb n b) (w : World) : Calls Try.prog 24 #[I n] w fun e w' => e = .returned (I b) ∧ w' = w := by
  obtain ⟨h1, h2, h3⟩ := h
  have H2 := Lib.hid h2
  have H3 := Lib.hid h3
  clear h2 h3
  go_enter Try.func24, Try.ntmps24
  go_wp2
  go_loop [3] (fun x => ∃ c : Nat, c ≤ b ∧ x = I c) (fun x => b - (intOf x).toNat)
  case atStart => exact ⟨0, by omega, rfl⟩
  case round =>
    obtain ⟨c, hc, rfl⟩ := hrel
    have hw := w2 c (by omega)
    by_cases hcb : c < b
    · have hp := H3.out c hcb
      rw [← hw] at hp
      clear hw
      go_wp2
      go_round
      case rel => exact ⟨c + 1, by omega, by go_num⟩
      case measure => simp [intOf]; omega
    · obtain rfl : c = b := by omega
      have hp := H2.out
      rw [← hw] at hp
      have hp' : ¬ wrap64 ((2 : Int) ^ c) < n := by omega
      clear H2 H3 hw
      go_wp2
      go_ret
      exact ⟨rfl, rfl⟩

end Go.Proofs.Ytjahkdomofhfgaa
