/- The law BoundKhrapchenko within the guards. -/
import Derived.Test.YtpmjpkpaclmpbaaTr
namespace Go.Proofs.Ytpmjpkpaclmpbaa
open Go.RowKit
set_option linter.unusedVariables false
set_option linter.unusedSimpArgs false

set_option maxHeartbeats 4000000 in
set_option maxRecDepth 100000 in
/-- no table -/
theorem law_form {w : World} {a b c : Option Addr} {len ka kb x y z : Nat} {f : Nat → Bool} {Za Zb : Nat → Int} (ht : Bs w (.slice a len x) len f) (ha : Is w (.slice b ka y) ka Za) (hb : Is w (.slice c kb z) kb Zb) (n1 : a = none → x = 0) (n2 : b = none → y = 0) (n3 : c = none → z = 0) (h1 : len ≤ 5000) (h2 : ka ≤ 5000) (h3 : kb ≤ 5000) (h4 : ka * kb ≤ 300000) {n : Int} (h : Inp len n false) :
    Calls Try.prog 3 #[.slice a len x, .slice b ka y, .slice c kb z] w fun e w' => e = .returned (.bool true) ∧ Below w.heap.size w w' := by
  have HAW := Lib.hid awake_any
  have HRI := Lib.hid (fun w : World => refInputs_any (w := w) (a := a) (cap := x) (by omega) h)
  have HKF := Lib.hid (fun (w : World) (a : Option Addr) (x : Nat) (va vb : Value) => khr_form (w := w) (a := a) (cap := x) va vb (by omega) h)
  have HC1 := Lib.hid (bools_any ht n1 (by omega))
  have HC2 := Lib.hid (fun (W : World) (hW : Below w.heap.size w W) => ints_any (ha.keep hW) n2 (by omega))
  have HC3 := Lib.hid (fun (W : World) (hW : Below w.heap.size w W) => ints_any (hb.keep hW) n3 (by omega))
  have d1 : decide ((5000 : Int) < len) = false := decide_eq_false (by omega)
  have d2 : decide ((5000 : Int) < ka) = false := decide_eq_false (by omega)
  have d3 : decide ((5000 : Int) < kb) = false := decide_eq_false (by omega)
  have hw : IntKind.i64.wrap ((ka : Int) * (kb : Int)) = (ka : Int) * kb := prod_in ka kb 300000 h4 (by decide)
  have e4 : (ka : Int) * kb = ((ka * kb : Nat) : Int) := by push_cast; rfl
  have d4 : decide ((300000 : Int) < (ka : Int) * kb) = false := decide_eq_false (by rw [e4]; omega)
  clear e4
  clear ht ha hb n1 n2 n3 h h4
  go_enter Try.func3, Try.ntmps3
  go_wp2_with (first
    | (go_at_call 9; refine (HRI.out _).mono ?_; rintro e w' ⟨rfl, rfl⟩)
    | (go_at_call 13; refine HC1.out.mono ?_; rintro e w1 ⟨v1, rfl, hv, hb⟩; obtain ⟨a1, x1, rfl⟩ := hv.shape; have B1 := Lib.hid hb; clear hb)
    | (go_at_call 14; refine (HC3.out _ B2.out).mono ?_; rintro e w3 ⟨v3, rfl, hv3, hb⟩; have B3 := Lib.hid (B2.out.trans (hb.mono B2.out.size)); clear hb)
    | (go_at_call 14; refine (HC2.out _ B1.out).mono ?_; rintro e w2 ⟨v2, rfl, hv2, hb⟩; have B2 := Lib.hid (B1.out.trans (hb.mono B1.out.size)); clear hb)
    | (go_at_call 12; refine (HKF.out _ _ _ _ _).mono ?_; rintro e w4 ⟨rfl, hb⟩; have B4 := Lib.hid (B3.out.trans (hb.mono B3.out.size)); clear hb)
    | (go_at_call 8; refine (HAW.out _).mono ?_; rintro e w5 ⟨rfl, hb⟩; have B5 := Lib.hid (B4.out.trans (hb.mono B4.out.size)); clear hb))
  go_ret
  exact ⟨rfl, B5.out⟩
end Go.Proofs.Ytpmjpkpaclmpbaa
