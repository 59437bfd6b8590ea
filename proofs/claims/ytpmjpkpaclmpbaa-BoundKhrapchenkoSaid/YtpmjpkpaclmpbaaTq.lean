/- Awake, whole. -/
import Derived.Test.YtpmjpkpaclmpbaaTp
namespace Go.Proofs.Ytpmjpkpaclmpbaa
open Go.RowKit
set_option linter.unusedVariables false
set_option linter.unusedSimpArgs false

set_option maxHeartbeats 4000000 in
set_option maxRecDepth 100000 in
theorem awake_any (w : World) : Calls Try.prog 8 #[] w fun e w' => e = .returned (.bool true) ∧ Below w.heap.size w w' := by
  obtain ⟨W3, hW, ht, ha, hb, hbl⟩ := three_worlds w
  have HT := Lib.hid ht
  have HBL := Lib.hid hbl
  have HK := Lib.hid (khr_ok ht ha hb (by decide) (by decide) (by decide) inp4 al_a al_b)
  rw [es4] at HK
  have HW := Lib.hid hW
  have H1 := Lib.hid (fun (W : World) (h : Below W3.heap.size W3 W) => leastSize_ok (n := 2) (by decide) (ht.keep h))
  have H2 := Lib.hid (fun (W : World) (h : Below W3.heap.size W3 W) => leastDepth_ok (n := 2) (by decide) (ht.keep h))
  have H3 := Lib.hid (fun (W : World) (h : Below W3.heap.size W3 W) => binary_ok (n := 2) (by decide) (ht.keep h))
  clear ht ha hb hbl
  go_enter Try.func8, Try.ntmps8
  rw [hW] at HK HBL H1 H2 H3
  clear hW HW HT
  go_wp2_with (first
    | (go_at_call 12; refine HK.out.mono ?_; rintro e w1 ⟨rfl, hb⟩; have B1 := Lib.hid hb; clear hb)
    | (go_at_call 22; refine (H1.out _ B1.out).mono ?_; rintro e w2 ⟨E, rfl, h1, h2, h3⟩; have c4 := par_size h1 h2; rw [tn6, c4]; have B2 := Lib.hid (B1.out.trans (h3.mono B1.out.size)); clear h1 h2 h3 c4)
    | (go_at_call 18; refine (H2.out _ B2.out).mono ?_; rintro e w3 ⟨E, rfl, h1, h2, h3⟩; have c4 := par_depth h1 h2; rw [tn6, c4]; have B3 := Lib.hid (B2.out.trans (h3.mono B2.out.size)); clear h1 h2 h3 c4)
    | (go_at_call 24; refine (H3.out _ B3.out).mono ?_; rintro e w4 ⟨E, rfl, h1, h2, h3⟩; have c4 := par_bin h1 h2; rw [tn6, c4]; have B4 := Lib.hid (B3.out.trans (h3.mono B3.out.size)); clear h1 h2 h3 c4))
  go_ret
  exact ⟨rfl, HBL.out.trans (B4.out.mono HBL.out.size)⟩
end Go.Proofs.Ytpmjpkpaclmpbaa
