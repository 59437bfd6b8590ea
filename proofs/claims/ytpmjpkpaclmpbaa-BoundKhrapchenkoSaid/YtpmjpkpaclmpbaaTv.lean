/- The law BoundKhrapchenko for every input. -/
import Derived.Test.YtpmjpkpaclmpbaaTu
namespace Go.Proofs.Ytpmjpkpaclmpbaa
open Go.RowKit
set_option linter.unusedVariables false
set_option linter.unusedSimpArgs false

set_option maxHeartbeats 4000000 in
set_option maxRecDepth 100000 in
theorem law_prod {w : World} {a b c : Option Addr} {len ka kb x y z : Nat} (h1 : len ≤ 5000) (h2 : ka ≤ 5000) (h3 : kb ≤ 5000) (h4 : 300000 < ka * kb) : Calls Try.prog 3 #[.slice a len x, .slice b ka y, .slice c kb z] w fun e w' => e = .returned (.bool true) ∧ Below w.heap.size w w' := by
  have HAW := Lib.hid awake_any
  have d1 : decide ((5000 : Int) < len) = false := decide_eq_false (by omega)
  have d2 : decide ((5000 : Int) < ka) = false := decide_eq_false (by omega)
  have d3 : decide ((5000 : Int) < kb) = false := decide_eq_false (by omega)
  have hb : ka * kb ≤ 25000000 := Nat.le_trans (Nat.mul_le_mul h2 h3) (by decide)
  have hw : IntKind.i64.wrap ((ka : Int) * (kb : Int)) = (ka : Int) * kb := prod_in ka kb _ hb (by decide)
  have e4 : (ka : Int) * kb = ((ka * kb : Nat) : Int) := by push_cast; rfl
  have d4 : decide ((300000 : Int) < (ka : Int) * kb) = true := decide_eq_true (by rw [e4]; omega)
  clear e4 hb h4
  go_enter Try.func3, Try.ntmps3
  go_wp2_with (go_at_call 8; refine (HAW.out _).mono ?_; rintro e w1 ⟨rfl, hb⟩; have HB := Lib.hid hb; clear hb)
  go_ret
  exact ⟨rfl, HB.out⟩
/-- THE STATEMENT -/
theorem khrapchenko_any {w : World} {a b c : Option Addr} {len ka kb x y z : Nat} {f : Nat → Bool} {Za Zb : Nat → Int} (ht : Bs w (.slice a len x) len f) (ha : Is w (.slice b ka y) ka Za) (hb : Is w (.slice c kb z) kb Zb) (n1 : a = none → x = 0) (n2 : b = none → y = 0) (n3 : c = none → z = 0) (l1 : len ≤ 2 ^ 50) (l2 : ka ≤ 2 ^ 50) (l3 : kb ≤ 2 ^ 50) :
    Calls Try.prog 3 #[.slice a len x, .slice b ka y, .slice c kb z] w fun e w' => e = .returned (.bool true) ∧ Below w.heap.size w w' := by
  by_cases h : 5000 < len ∨ 5000 < ka ∨ 5000 < kb
  · exact law_big l1 l2 l3 h
  · by_cases h4 : 300000 < ka * kb
    · exact law_prod (by omega) (by omega) (by omega) h4
    · by_cases hp : ∃ k, k ≤ 12 ∧ len = 2 ^ k
      · obtain ⟨k, hk, rfl⟩ := hp
        have hl : 2 ^ k ≤ 2 ^ 12 := Nat.pow_le_pow_right (by decide) hk
        by_cases hal : Al (2 ^ k) f Za false ka ∧ Al (2 ^ k) f Zb true kb
        · exact law_good ht ha hb n1 n2 n3 (by omega) (by omega) (by omega) (by omega) (inp_pow hk) (by omega) hal.1 hal.2
        · exact law_arg ht ha hb n1 n2 n3 (by omega) (by omega) (by omega) (by omega) (inp_pow hk) hal
      · refine law_form (n := (bl 13 len : Int) - 1) ht ha hb n1 n2 n3 (by omega) (by omega) (by omega) (by omega) ⟨rfl, ⟨(fun h => by cases h), fun h => ?_⟩⟩
        have := bl_le 13 len
        exact absurd ⟨_, by omega, h.2⟩ hp
end Go.Proofs.Ytpmjpkpaclmpbaa
