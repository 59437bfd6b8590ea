/- The law BoundKhrapchenko good lists. -/
import Derived.Test.YtpmjpkpaclmpbaaTt
namespace Go.Proofs.Ytpmjpkpaclmpbaa
open Go.RowKit
set_option linter.unusedVariables false
set_option linter.unusedSimpArgs false

set_option maxHeartbeats 4000000 in
set_option maxRecDepth 100000 in
/-- good lists -/
theorem law_good {w : World} {a b c : Option Addr} {len ka kb x y z : Nat} {f : Nat → Bool} {Za Zb : Nat → Int} (ht : Bs w (.slice a len x) len f) (ha : Is w (.slice b ka y) ka Za) (hb : Is w (.slice c kb z) kb Zb) (n1 : a = none → x = 0) (n2 : b = none → y = 0) (n3 : c = none → z = 0) (h1 : len ≤ 5000) (h2 : ka ≤ 5000) (h3 : kb ≤ 5000) (h4 : ka * kb ≤ 300000) {n : Int} (h : Inp len n true) (hl : len ≤ 4096) (hra : Al len f Za false ka) (hrb : Al len f Zb true kb) :
    Calls Try.prog 3 #[.slice a len x, .slice b ka y, .slice c kb z] w fun e w' => e = .returned (.bool true) ∧ Below w.heap.size w w' := by
  have HAW := Lib.hid awake_any
  have HRI := Lib.hid (fun w : World => refInputs_any (w := w) (a := a) (cap := x) (by omega) h)
  have hn0 : 0 ≤ n := (h.2.1 rfl).1
  have hdn : decide (n < 0) = false := decide_eq_false (by omega)
  have HKF := Lib.hid (fun (W : World) (tv va vb : Value) (q1 : Bs W tv len f) (q2 : Is W va ka Za) (q3 : Is W vb kb Zb) => khr_ok q1 q2 q3 hl h2 h3 h hra hrb)
  have QA := Lib.hid (set_any (r := true) ht ha (by omega) (by omega) false (by simp [hra]))
  have QB := Lib.hid (fun m => set_any (w := w.drewN m) (r := true) (ht.keep (below_drewN (Below.refl _ _) m)) (hb.keep (below_drewN (Below.refl _ _) m)) (by omega) (by omega) true (by simp [hrb]))
  have HIA : In Za ka := fun j hj => by have := hra.2 j hj; exact ⟨this.1, by have := this.2.1; omega⟩
  have HIB : In Zb kb := fun j hj => by have := hrb.2 j hj; exact ⟨this.1, by have := this.2.1; omega⟩
  have QE := Lib.hid (fun m => edges_any (w := w.drewN m) (ha.keep (below_drewN (Below.refl _ _) m)) (hb.keep (below_drewN (Below.refl _ _) m)) HIA HIB h2 h3)
  have hle2 : es Za Zb kb ka ≤ 300000 := Nat.le_trans (es_le Za Zb kb ka) h4
  have hs2 : es Za Zb kb ka * es Za Zb kb ka ≤ 300000 * 300000 := Nat.mul_le_mul hle2 hle2
  have hw1 : IntKind.i64.wrap ((es Za Zb kb ka : Int) * (es Za Zb kb ka : Int)) = (es Za Zb kb ka : Int) * es Za Zb kb ka := prod_in _ _ _ hs2 (by decide)
  have HC1 := Lib.hid (fun (W : World) (hW : Below w.heap.size w W) => bools_any (ht.keep hW) n1 (by omega))
  have HC2 := Lib.hid (fun (W : World) (hW : Below w.heap.size w W) => ints_any (ha.keep hW) n2 (by omega))
  have HC3 := Lib.hid (fun (W : World) (hW : Below w.heap.size w W) => ints_any (hb.keep hW) n3 (by omega))
  have d1 : decide ((5000 : Int) < len) = false := decide_eq_false (by omega)
  have d2 : decide ((5000 : Int) < ka) = false := decide_eq_false (by omega)
  have d3 : decide ((5000 : Int) < kb) = false := decide_eq_false (by omega)
  have hw : IntKind.i64.wrap ((ka : Int) * (kb : Int)) = (ka : Int) * kb := prod_in ka kb 300000 h4 (by decide)
  have e4 : (ka : Int) * kb = ((ka * kb : Nat) : Int) := by push_cast; rfl
  have d4 : decide ((300000 : Int) < (ka : Int) * kb) = false := decide_eq_false (by rw [e4]; omega)
  clear e4
  clear ht ha hb n1 n2 n3 h h4 hra hrb HIA HIB hle2 hs2
  generalize es Za Zb kb ka = S at *
  go_enter Try.func3, Try.ntmps3
  go_wp2_with (first
    | (go_at_call 9; refine (HRI.out _).mono ?_; rintro e w' ⟨rfl, rfl⟩)
    | (go_at_call 10; refine (QB.out m1).mono ?_; rintro e w' ⟨rfl, m2, rfl⟩)
    | (go_at_call 10; refine QA.out.mono ?_; rintro e w' ⟨rfl, m1, rfl⟩)
    | (go_at_call 11; refine (QE.out (m1 + m2 + m3)).mono ?_; rintro e w' ⟨rfl, m4, rfl⟩)
    | (go_at_call 11; refine (QE.out (m1 + m2)).mono ?_; rintro e w' ⟨rfl, m3, rfl⟩)
    | (go_at_call 13; refine (HC1.out _ (below_drewN (Below.refl _ _) (m1 + m2 + m3 + m4))).mono ?_; rintro e w1 ⟨v1, rfl, hv, hb⟩; have V1 := Lib.hid hv; obtain ⟨a1, x1, rfl⟩ := hv.shape; have B1 := Lib.hid ((below_drewN (Below.refl w.heap.size w) (m1 + m2 + m3 + m4)).trans hb); have BB1 := Lib.hid hb; clear hb hv)
    | (go_at_call 14; refine (HC3.out _ B2.out).mono ?_; rintro e w3 ⟨v3, rfl, hv3, hb⟩; have V3 := Lib.hid hv3; have W1 := Lib.hid (V1.out.keep (BB2.out)); have B3 := Lib.hid (B2.out.trans (hb.mono B2.out.size)); have W1' := Lib.hid (W1.out.keep hb); have W2' := Lib.hid (V2.out.keep hb); clear hb hv3)
    | (go_at_call 14; refine (HC2.out _ B1.out).mono ?_; rintro e w2 ⟨v2, rfl, hv2, hb⟩; have V2 := Lib.hid hv2; have B2 := Lib.hid (B1.out.trans (hb.mono B1.out.size)); have BB2 := Lib.hid hb; clear hb hv2)
    | (go_at_call 12; refine (HKF.out _ _ _ _ W1'.out W2'.out V3.out).mono ?_; rintro e w4 ⟨rfl, hb⟩; have B4 := Lib.hid (B3.out.trans (hb.mono B3.out.size)); clear hb)
    | (go_at_call 8; refine (HAW.out _).mono ?_; rintro e w5 ⟨rfl, hb⟩; have B5 := Lib.hid (B4.out.trans (hb.mono B4.out.size)); clear hb))
  go_ret
  exact ⟨rfl, B5.out⟩
end Go.Proofs.Ytpmjpkpaclmpbaa
