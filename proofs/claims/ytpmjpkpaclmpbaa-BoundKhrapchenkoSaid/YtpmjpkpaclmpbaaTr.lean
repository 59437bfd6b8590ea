/- The law BoundKhrapchenko for lists in memory: the case beyond the guards. -/
import Derived.Test.YtpmjpkpaclmpbaaTq
namespace Go.Proofs.Ytpmjpkpaclmpbaa
open Go.RowKit
set_option linter.unusedVariables false
set_option linter.unusedSimpArgs false

set_option maxHeartbeats 4000000 in
set_option maxRecDepth 100000 in
theorem law_big {w : World} {a b c : Option Addr} {len ka kb x y z : Nat} (h1 : len ≤ 2 ^ 50) (h2 : ka ≤ 2 ^ 50) (h3 : kb ≤ 2 ^ 50) (h : 5000 < len ∨ 5000 < ka ∨ 5000 < kb) : Calls Try.prog 3 #[.slice a len x, .slice b ka y, .slice c kb z] w fun e w' => e = .returned (.bool true) ∧ Below w.heap.size w w' := by
  have HAW := Lib.hid awake_any
  by_cases c1 : 5000 < len
  · have d1 : decide ((5000 : Int) < len) = true := decide_eq_true (by omega)
    go_enter Try.func3, Try.ntmps3
    go_wp2_with (go_at_call 8; refine (HAW.out _).mono ?_; rintro e w1 ⟨rfl, hb⟩; have HB := Lib.hid hb; clear hb)
    go_ret
    exact ⟨rfl, HB.out⟩
  · have d1 : decide ((5000 : Int) < len) = false := decide_eq_false (by omega)
    by_cases c2 : 5000 < ka
    · have d2 : decide ((5000 : Int) < ka) = true := decide_eq_true (by omega)
      go_enter Try.func3, Try.ntmps3
      go_wp2_with (go_at_call 8; refine (HAW.out _).mono ?_; rintro e w1 ⟨rfl, hb⟩; have HB := Lib.hid hb; clear hb)
      go_ret
      exact ⟨rfl, HB.out⟩
    · have d2 : decide ((5000 : Int) < ka) = false := decide_eq_false (by omega)
      have d3 : decide ((5000 : Int) < kb) = true := decide_eq_true (by omega)
      go_enter Try.func3, Try.ntmps3
      go_wp2_with (go_at_call 8; refine (HAW.out _).mono ?_; rintro e w1 ⟨rfl, hb⟩; have HB := Lib.hid hb; clear hb)
      go_ret
      exact ⟨rfl, HB.out⟩
end Go.Proofs.Ytpmjpkpaclmpbaa
