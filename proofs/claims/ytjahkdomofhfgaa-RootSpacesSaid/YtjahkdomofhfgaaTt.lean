/- The law RootSpaces in a walk: it returns true. -/
import Derived.Test.YtjahkdomofhfgaaTs
import Derived.Test.YtjahkdomofhfgaaTr
import Derived.Test.YtjahkdomofhfgaaTg
import Derived.Deep.CutBlock
namespace Go.Proofs.Ytjahkdomofhfgaa
open Go.RowKit
set_option linter.unusedVariables false
set_option linter.unusedSimpArgs false

theorem lb_ex : ∀ (m : Nat) {n : Int}, n ≤ 2 ^ m → m ≤ 20 → ∃ b, IsLb n b
  | 0, n, h, _ => ⟨0, by omega, h, fun c hc => by omega⟩
  | m + 1, n, h, hm => by
    by_cases h1 : n ≤ 2 ^ m
    · exact lb_ex m h1 (by omega)
    · refine ⟨m + 1, by omega, h, fun c hc => ?_⟩
      have : (2 : Int) ^ c ≤ 2 ^ m := by
        have := Nat.pow_le_pow_right (n := 2) (by omega) (show c ≤ m by omega)
        exact_mod_cast this
      omega

theorem out_some (ok : Prop) (T k b : Int) (s y l : Nat) : ∃ o st e, SpOut ok T k b s y l o st e := by
  by_cases h : ok
  · by_cases h2 : b < 1 ∨ 1000 < b ∨ k < 0 ∨ 20000 < k
    · exact ⟨_, _, _, .inr (.inl ⟨h, h2, rfl, rfl, rfl⟩)⟩
    · exact ⟨_, _, _, .inr (.inr ⟨h, by omega, by omega, rfl, rfl, rfl⟩)⟩
  · exact ⟨_, _, _, .inl ⟨h, rfl, rfl, rfl⟩⟩

set_option maxHeartbeats 8000000 in
set_option maxRecDepth 100000 in
theorem spaces_any {w : World} {S Y T : Int} {v : Value} {n : Nat} {F G : Nat → Int} {A : Nat → Nat → Option Addr} {L C : Nat → Nat → Nat} {Z : Nat → Nat → Nat → Int} (hd : Mg w v n F G A L C Z) (k b : Int) : Calls Try.prog 4 #[M4 S Y T v, I k, I b] w fun e w' => e = .returned (.bool true) ∧ Below w.heap.size w w' := by
  obtain ⟨W, hW⟩ : ∃ W, W = w.alloc (Obj.cells #[I S, I Y, I T, v] 35) := ⟨_, rfl⟩
  have hbx := (box4 w S Y T v).1
  have hB0 := (box4 w S Y T v).2
  rw [← hW] at hbx hB0
  have HM := Lib.hid (hd.keep hB0)
  have HX := Lib.hid hbx
  have HB0 := Lib.hid hB0
  have HW := Lib.hid hW
  clear hd hbx hB0 hW
  by_cases hbig : bigM n L
  · have HW1 := Lib.hid (mwide_any (S := S) (Y := Y) (T := T) HM.out (b := true) (by simp [hbig]))
    clear hbig
    go_enter Try.func4, Try.ntmps4
    go_upto_region 1 with fail
    rw [← HW.out]
    have x0 := HX.out.c0
    have x1 := HX.out.c1
    have x2 := HX.out.c2
    have x3 := HX.out.c3
    go_wp2_with (first | (go_at_call 10; refine HW1.out.mono ?_; rintro e w1 ⟨rfl, hb1⟩) | (go_at_call 6; refine (awake_any _).mono ?_; rintro e w2 ⟨rfl, hb2⟩))
    go_ret
    exact ⟨rfl, (HB0.out.trans (hb1.mono HB0.out.size)).trans (hb2.mono (Nat.le_trans HB0.out.size hb1.size))⟩
  have HW1 := Lib.hid (mwide_any (S := S) (Y := Y) (T := T) HM.out (b := false) (by simp [hbig]))
  have hn : n ≤ 2000 := by
    apply Classical.byContradiction
    intro h
    exact hbig (.inl (by omega))
  have hLL : ∀ r, r < n → ∀ q, q < 3 → L r q ≤ 100 := fun r hr q hq => by
    apply Classical.byContradiction
    intro h
    refine hbig (.inr ⟨r, hr, ?_⟩)
    match q, hq with
    | 0, _ => omega
    | 1, _ => omega
    | 2, _ => omega
  have HLL := Lib.hid hLL
  clear hbig hLL
  obtain ⟨s, hs⟩ : ∃ s, okM S Y T n F G L Z → IsLb S s := by
    by_cases h : okM S Y T n F G L Z
    · obtain ⟨s, hs⟩ := lb_ex 7 (n := S) (by have := h.1; unfold okHead at this; omega) (by omega)
      exact ⟨s, fun _ => hs⟩
    · exact ⟨0, fun h' => absurd h' h⟩
  obtain ⟨y, hy⟩ : ∃ s, okM S Y T n F G L Z → IsLb Y s := by
    by_cases h : okM S Y T n F G L Z
    · obtain ⟨s, hs⟩ := lb_ex 7 (n := Y) (by have := h.1; unfold okHead at this; omega) (by omega)
      exact ⟨s, fun _ => hs⟩
    · exact ⟨0, fun h' => absurd h' h⟩
  obtain ⟨l, hl⟩ : ∃ s, okM S Y T n F G L Z → IsLb (1 + 3 * T + 1) s := by
    by_cases h : okM S Y T n F G L Z
    · obtain ⟨s, hs⟩ := lb_ex 7 (n := 1 + 3 * T + 1) (by have := h.1; unfold okHead at this; omega) (by omega)
      exact ⟨s, fun _ => hs⟩
    · exact ⟨0, fun h' => absurd h' h⟩
  have hT : okM S Y T n F G L Z → 1 ≤ T ∧ T ≤ 3 := fun h => by have := h.1; unfold okHead at this; omega
  obtain ⟨o, st, e0, ho⟩ := out_some (okM S Y T n F G L Z) T k b s y l
  have HSP := Lib.hid (fun (w1 : World) (v' : Value) (A' : Nat → Nat → Option Addr) (C' : Nat → Nat → Nat) (hm : Mg w1 v' n F G A' L C' Z) => rspace_any (S := S) (Y := Y) w1 (fun w' hb r hr => tvalid_any (hm.keep hb) hr) hT hs hy hl ho)
  have Ho := Lib.hid ho
  go_enter Try.func4, Try.ntmps4
  go_upto_region 1 with fail
  rw [← HW.out]
  have x0 := HX.out.c0
  have x1 := HX.out.c1
  have x2 := HX.out.c2
  have x3 := HX.out.c3
  go_upto_block 0 with (first | (go_at_call 10; refine HW1.out.mono ?_; rintro e w1 ⟨rfl, hb1⟩))
  clear x0 x1 x2 x3
  obtain ⟨W7, hW7⟩ : ∃ W7, W7 = w1.alloc (Obj.cells #[I 0, I 0, I 0] 38) := ⟨_, rfl⟩
  have hr7 : W7.heap[w1.heap.size]? = some (.cells #[I 0, I 0, I 0] 38 (0, 0)) := by rw [hW7]; exact Deep.blk_alloc_new _ _
  have HB7 : Hid (Below W.heap.size W W7) := Lib.hid (by rw [hW7]; exact hb1.alloc hb1.size _)
  have hN7 : Hid (W.heap.size ≤ w1.heap.size) := Lib.hid hb1.size
  rw [← hW7]
  clear hW7 hb1
  generalize w1.heap.size = N7 at *
  have HR7 := Lib.hid hr7
  clear hr7
  have y0 := (HX.out.keep HB7.out).c0
  have y1 := (HX.out.keep HB7.out).c1
  have y2 := (HX.out.keep HB7.out).c2
  have y3 := (HX.out.keep HB7.out).c3
  go_cut [8] from 9 (fun x wr => x = I e0 ∧ wr.heap[N7]? = some (.cells #[I o, I 0, I st] 38 (0, 0)) ∧ Below W.heap.size W wr)
  case first =>
    clear HSP Ho
    rcases ho with ⟨h1, rfl, rfl, rfl⟩ | ⟨h1, h2, rfl, rfl, rfl⟩ | ⟨h1, h2, h3, rfl, hst, rfl⟩
    · have HV := Lib.hid (fun (w1 : World) (hb : Below W.heap.size W w1) => mvalid_any (S := S) (Y := Y) (T := T) (HM.out.keep hb) (b := false) (by simp [h1]))
      clear h1 hs hy hl hT
      go_wp2_with (first | (go_at_call 11; refine (HV.out _ HB7.out).mono ?_; rintro e w5 ⟨rfl, hb5⟩; have HB5 := Lib.hid (HB7.out.trans (hb5.mono HB7.out.size)); have hr5 : Hid (w5.heap[N7]? = some (.cells #[I 0, I 0, I 0] 38 (0, 0))) := Lib.hid ((hb5.block _ (Array.getElem?_eq_some_iff.1 HR7.out).1).trans HR7.out); have z0 := (HX.out.keep HB5.out).c0; have z1 := (HX.out.keep HB5.out).c1; have z2 := (HX.out.keep HB5.out).c2; have z3 := (HX.out.keep HB5.out).c3; clear hb5))
      go_meet
      exact ⟨rfl, hr5.out, HB5.out⟩
    · have HV := Lib.hid (fun (w1 : World) (hb : Below W.heap.size W w1) => mvalid_any (S := S) (Y := Y) (T := T) (HM.out.keep hb) (b := true) (by simp [h1]))
      clear h1 hs hy hl hT
      by_cases q0 : b < 1
      · have d0 : decide (b < 1) = true := decide_eq_true q0
        go_wp2_with (first | (go_at_call 11; refine (HV.out _ HB7.out).mono ?_; rintro e w5 ⟨rfl, hb5⟩; have HB5 := Lib.hid (HB7.out.trans (hb5.mono HB7.out.size)); have hr5 : Hid (w5.heap[N7]? = some (.cells #[I 0, I 0, I 0] 38 (0, 0))) := Lib.hid ((hb5.block _ (Array.getElem?_eq_some_iff.1 HR7.out).1).trans HR7.out); have z0 := (HX.out.keep HB5.out).c0; have z1 := (HX.out.keep HB5.out).c1; have z2 := (HX.out.keep HB5.out).c2; have z3 := (HX.out.keep HB5.out).c3; clear hb5))
        go_meet
        exact ⟨rfl, hr5.out, HB5.out⟩
      · have d0 : decide (b < 1) = false := decide_eq_false q0
        by_cases q1 : 1000 < b
        · have d1 : decide (1000 < b) = true := decide_eq_true q1
          go_wp2_with (first | (go_at_call 11; refine (HV.out _ HB7.out).mono ?_; rintro e w5 ⟨rfl, hb5⟩; have HB5 := Lib.hid (HB7.out.trans (hb5.mono HB7.out.size)); have hr5 : Hid (w5.heap[N7]? = some (.cells #[I 0, I 0, I 0] 38 (0, 0))) := Lib.hid ((hb5.block _ (Array.getElem?_eq_some_iff.1 HR7.out).1).trans HR7.out); have z0 := (HX.out.keep HB5.out).c0; have z1 := (HX.out.keep HB5.out).c1; have z2 := (HX.out.keep HB5.out).c2; have z3 := (HX.out.keep HB5.out).c3; clear hb5))
          go_meet
          exact ⟨rfl, hr5.out, HB5.out⟩
        · have d1 : decide (1000 < b) = false := decide_eq_false q1
          by_cases q2 : k < 0
          · have d2 : decide (k < 0) = true := decide_eq_true q2
            go_wp2_with (first | (go_at_call 11; refine (HV.out _ HB7.out).mono ?_; rintro e w5 ⟨rfl, hb5⟩; have HB5 := Lib.hid (HB7.out.trans (hb5.mono HB7.out.size)); have hr5 : Hid (w5.heap[N7]? = some (.cells #[I 0, I 0, I 0] 38 (0, 0))) := Lib.hid ((hb5.block _ (Array.getElem?_eq_some_iff.1 HR7.out).1).trans HR7.out); have z0 := (HX.out.keep HB5.out).c0; have z1 := (HX.out.keep HB5.out).c1; have z2 := (HX.out.keep HB5.out).c2; have z3 := (HX.out.keep HB5.out).c3; clear hb5))
            go_meet
            exact ⟨rfl, hr5.out, HB5.out⟩
          · have d2 : decide (k < 0) = false := decide_eq_false q2
            have q3 : 20000 < k := by omega
            have d3 : decide (20000 < k) = true := decide_eq_true q3
            go_wp2_with (first | (go_at_call 11; refine (HV.out _ HB7.out).mono ?_; rintro e w5 ⟨rfl, hb5⟩; have HB5 := Lib.hid (HB7.out.trans (hb5.mono HB7.out.size)); have hr5 : Hid (w5.heap[N7]? = some (.cells #[I 0, I 0, I 0] 38 (0, 0))) := Lib.hid ((hb5.block _ (Array.getElem?_eq_some_iff.1 HR7.out).1).trans HR7.out); have z0 := (HX.out.keep HB5.out).c0; have z1 := (HX.out.keep HB5.out).c1; have z2 := (HX.out.keep HB5.out).c2; have z3 := (HX.out.keep HB5.out).c3; clear hb5))
            go_meet
            exact ⟨rfl, hr5.out, HB5.out⟩
    · obtain rfl := hst.symm
      have HV := Lib.hid (fun (w1 : World) (hb : Below W.heap.size W w1) => mvalid_any (S := S) (Y := Y) (T := T) (HM.out.keep hb) (b := true) (by simp [h1]))
      have HS := Lib.hid (fun w => space_any (v := v) (hs h1) (hy h1) (hT h1) (hl h1) h3 h2 w)
      clear h1 hs hy hl hT
      have d0 : decide (b < 1) = false := decide_eq_false (by omega)
      have d1 : decide (1000 < b) = false := decide_eq_false (by omega)
      have d2 : decide (k < 0) = false := decide_eq_false (by omega)
      have d3 : decide (20000 < k) = false := decide_eq_false (by omega)
      generalize hown : ownV T k b s y l = ow at *
      go_wp2_with (first | (go_at_call 11; refine (HV.out _ HB7.out).mono ?_; rintro e w5 ⟨rfl, hb5⟩; have HB5 := Lib.hid (HB7.out.trans (hb5.mono HB7.out.size)); have hr5 : Hid (w5.heap[N7]? = some (.cells #[I 0, I 0, I 0] 38 (0, 0))) := Lib.hid ((hb5.block _ (Array.getElem?_eq_some_iff.1 HR7.out).1).trans HR7.out); have z0 := (HX.out.keep HB5.out).c0; have z1 := (HX.out.keep HB5.out).c1; have z2 := (HX.out.keep HB5.out).c2; have z3 := (HX.out.keep HB5.out).c3; clear hb5) | (go_at_call 12; refine (HS.out _).mono ?_; rintro e w6 ⟨rfl, hb6⟩; have HB6 := Lib.hid (HB5.out.trans (hb6.mono HB5.out.size)); have hr6 : Hid (w6.heap[N7]? = some (.cells #[I 0, I 0, I 0] 38 (0, 0))) := Lib.hid ((hb6.block _ (Array.getElem?_eq_some_iff.1 hr5.out).1).trans hr5.out); obtain ⟨⟨s0, s1, s2⟩, f0, f1, f2⟩ := res38 hr6.out; clear hb6))
      go_meet
      exact ⟨rfl, res3 hr6.out ow 0 k, ((HB6.out.setCell (p := ⟨N7, 0, none⟩) hN7.out _).setCell (p := ⟨N7, 1, none⟩) hN7.out _).setCell (p := ⟨N7, 2, none⟩) hN7.out _⟩
  case rest =>
    clear ho hs hy hl hT y0 y1 y2 y3
    obtain ⟨rfl, hrc, hBc⟩ := hcut
    have HRc := Lib.hid hrc
    have HBc := Lib.hid hBc
    have HCP := Lib.hid (mcopy_any (S := S) (Y := Y) (T := T) (HM.out.keep hBc) hn HLL.out)
    have y0 := (HX.out.keep hBc).c0
    have y1 := (HX.out.keep hBc).c1
    have y2 := (HX.out.keep hBc).c2
    have y3 := (HX.out.keep hBc).c3
    clear hrc hBc
    go_wp2_with (first
      | (go_at_call 14; refine HCP.out.mono ?_; rintro e w5 ⟨v', A', C', rfl, hmg, hb5⟩; have HS5 := Lib.hid (HSP.out w5 v' A' C' hmg); have HB5 := Lib.hid (HBc.out.trans (hb5.mono HBc.out.size)); have hr5 : Hid (w5.heap[N7]? = some (.cells #[I o, I 0, I st] 38 (0, 0))) := Lib.hid ((hb5.block _ (Array.getElem?_eq_some_iff.1 HRc.out).1).trans HRc.out); clear hb5 hmg)
      | (go_at_call 13; refine HS5.out.mono ?_; rintro e w6 ⟨rfl, hb6⟩; have HB6 := Lib.hid (HB5.out.trans (hb6.mono HB5.out.size)); have hr6 : Hid (w6.heap[N7]? = some (.cells #[I o, I 0, I st] 38 (0, 0))) := Lib.hid ((hb6.block _ (Array.getElem?_eq_some_iff.1 hr5.out).1).trans hr5.out); have t0 := cell_alloc (show w6.cell? ⟨N7, 0, none⟩ = some (I o) by simp [World.cell?, hr6.out]) (.cells #[I o, I 0, I st] 38); have t1 := cell_alloc (show w6.cell? ⟨N7, 1, none⟩ = some (I 0) by simp [World.cell?, hr6.out]) (.cells #[I o, I 0, I st] 38); have t2 := cell_alloc (show w6.cell? ⟨N7, 2, none⟩ = some (I st) by simp [World.cell?, hr6.out]) (.cells #[I o, I 0, I st] 38); clear hb6)
      | (go_at_call 6; refine (awake_any _).mono ?_; rintro e w8 ⟨rfl, hb8⟩))
    go_ret
    have hA := HB0.out.trans ((HB6.out.alloc HB6.out.size (.cells #[I o, I 0, I st] 38)).mono HB0.out.size)
    exact ⟨rfl, hA.trans (hb8.mono hA.size)⟩

end Go.Proofs.Ytjahkdomofhfgaa
