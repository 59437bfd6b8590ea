/- The space of the simulation, by the program. -/
import Derived.Test.YtjahkdomofhfgaaTp
import Derived.Laws.ResultCell
namespace Go.Proofs.Ytjahkdomofhfgaa
open Go.RowKit
set_option linter.unusedVariables false
set_option linter.unusedSimpArgs false

/-- what Space answers -/
def SpOut (ok : Prop) (T k b : Int) (s y l : Nat) (o st e : Int) : Prop :=
  (¬ ok ∧ o = 0 ∧ st = 0 ∧ e = 1) ∨ (ok ∧ (b < 1 ∨ 1000 < b ∨ k < 0 ∨ 20000 < k) ∧ o = 0 ∧ st = 0 ∧ e = 2) ∨ (ok ∧ (1 ≤ b ∧ b ≤ 1000) ∧ (0 ≤ k ∧ k ≤ 20000) ∧ o = ownV T k b s y l ∧ st = k ∧ e = 0)

theorem res38 {w : World} {b : Nat} (h : w.heap[b]? = some (.cells #[I 0, I 0, I 0] 38 (0, 0))) : (w.cell? ⟨b, 0, none⟩ = some (I 0) ∧ w.cell? ⟨b, 1, none⟩ = some (I 0) ∧ w.cell? ⟨b, 2, none⟩ = some (I 0)) ∧ w.frozen? ⟨b, 0, none⟩ = false ∧ w.frozen? ⟨b, 1, none⟩ = false ∧ w.frozen? ⟨b, 2, none⟩ = false :=
  ⟨⟨by simp [World.cell?, h], by simp [World.cell?, h], by simp [World.cell?, h]⟩, by simp [World.frozen?, h], by simp [World.frozen?, h], by simp [World.frozen?, h]⟩

theorem St.putd {b : Nat} {W : World} (x y z : Value) : St b W (((W.setCell ⟨b, 0, none⟩ x).setCell ⟨b, 1, none⟩ y).setCell ⟨b, 2, none⟩ z).drew := ⟨W.drew, (Below.refl _ _).drew, .inr ⟨x, y, z, rfl⟩⟩
theorem res_ct {P : Program} {fn : Func} {p u : Tmp} {ty : TypeId} (h : fn.results = #[.cell p ty, .tmp u]) (tmps : Array Value) (w : World) (g : Nat) (t : TypeId) (cs : Array Value) (fr : Nat × Nat) (d : TypeDesc)
    (hp : tmps.getD p undef = .pointer (some ⟨g, 0, none⟩)) (hg : w.heap[g]? = some (.cells cs t fr)) (hu : P.underlying ty = some d) (hd : (match d with | .struct _ | .array _ _ => true | _ => false) = true) (hi : (P.info? ty).map (·.size) = some cs.size) :
    (results fn tmps).run P w = .ok (.tuple #[.agg cs, tmps.getD u undef]) w := by
  rw [results_cell_tmp h]
  have hp' : tmps[p]?.getD undef = .pointer (some ⟨g, 0, none⟩) := by simpa using hp
  simp [hp', asAddr, run_loadVar_row w g t ty cs fr d hg hu hd hi]

set_option maxHeartbeats 8000000 in
set_option maxRecDepth 100000 in
theorem rspace_any {S Y T k b : Int} {v : Value} {s y l : Nat} {ok : Prop} (w : World) (hv : ∀ w', Below w.heap.size w w' → ∀ r : Bool, (r = true ↔ ok) → Calls Try.prog 23 #[M4 S Y T v] w' fun e w'' => e = .returned (.bool r) ∧ Below w'.heap.size w' w'') (hT : ok → 1 ≤ T ∧ T ≤ 3) (hs : ok → IsLb S s) (hy : ok → IsLb Y y) (hl : ok → IsLb (1 + 3 * T + 1) l) {o st e0 : Int} (ho : SpOut ok T k b s y l o st e0) :
    Calls Try.prog 13 #[M4 S Y T v, I k, I b] w fun e w' => e = .returned (.tuple #[.agg #[I o, I 0, I st], I e0]) ∧ Below w.heap.size w w' := by
  have h15 : IsLb 20001 15 := ⟨by omega, by decide, by decide⟩
  have H15 := Lib.hid (fun w => least_any h15 w)
  clear h15
  obtain ⟨W, hW⟩ : ∃ W, W = ((w.alloc (Obj.cells #[I S, I Y, I T, v] 35)).alloc (Obj.cells #[I 0, I 0, I 0] 38)) := ⟨_, rfl⟩
  have hBW : Below w.heap.size w W := by rw [hW]; exact ((Below.refl _ _).alloc (Nat.le_refl _) _).alloc (by simp) _
  have hx : Bx w.heap.size W S Y T v := by rw [hW]; exact ⟨by simp [go_sem], by simp [go_sem], by simp [go_sem], by simp [go_sem]⟩
  have hr : W.heap[w.heap.size + 1]? = some (.cells #[I 0, I 0, I 0] 38 (0, 0)) := by
    rw [hW]
    have := Deep.blk_alloc_new (w.alloc (Obj.cells #[I S, I Y, I T, v] 35)) (Obj.cells #[I 0, I 0, I 0] 38)
    rwa [World.size_alloc] at this
  have HBW := Lib.hid hBW
  have HX := Lib.hid hx
  have HR := Lib.hid hr
  have HW := Lib.hid hW
  clear hBW hx hr hW
  rcases ho with ⟨h1, rfl, rfl, rfl⟩ | ⟨h1, h2, rfl, rfl, rfl⟩ | ⟨h1, h2, h3, rfl, hst, rfl⟩
  · have HV := Lib.hid (hv W HBW.out false (by simp [h1]))
    clear h1 hs hy hl hT hv
    go_enter Try.func13, Try.ntmps13
    go_upto_region 1 with fail
    rw [← HW.out]
    have x0 := HX.out.c0
    have x1 := HX.out.c1
    have x2 := HX.out.c2
    have x3 := HX.out.c3
    go_wp2_with (first | (go_at_call 23; refine HV.out.mono ?_; rintro e w1 ⟨rfl, hb⟩; have hr1 : Hid (w1.heap[w.heap.size + 1]? = some (.cells #[I 0, I 0, I 0] 38 (0, 0))) := Lib.hid ((hb.block _ (Array.getElem?_eq_some_iff.1 HR.out).1).trans HR.out); obtain ⟨⟨s0, s1, s2⟩, f0, f1, f2⟩ := res38 hr1.out; have HB1 := Lib.hid (HBW.out.trans (hb.mono HBW.out.size)); have HX1 := Lib.hid (HX.out.keep hb); have y0 := (HX.out.keep hb).c0; have y1 := (HX.out.keep hb).c1; have y2 := (HX.out.keep hb).c2; clear hb))
    refine bodyPost_ret (res_ct (by rfl) _ _ (w.heap.size + 1) 38 #[I 0, I 0, I 0] (0, 0) _ (by rfl) (res3 hr1.out 0 0 0) Try.underlying38 (by rfl) (by kernel_rfl)) rfl ?_
    exact ⟨rfl, ((HB1.out.setCell (p := ⟨w.heap.size + 1, 0, none⟩) (show w.heap.size ≤ w.heap.size + 1 by omega) _).setCell (p := ⟨w.heap.size + 1, 1, none⟩) (show w.heap.size ≤ w.heap.size + 1 by omega) _).setCell (p := ⟨w.heap.size + 1, 2, none⟩) (show w.heap.size ≤ w.heap.size + 1 by omega) _⟩
  · have HV := Lib.hid (hv W HBW.out true (by simp [h1]))
    clear h1 hs hy hl hT hv
    by_cases q0 : b < 1
    · have d0 : decide (b < 1) = true := decide_eq_true q0
      go_enter Try.func13, Try.ntmps13
      go_upto_region 1 with fail
      rw [← HW.out]
      have x0 := HX.out.c0
      have x1 := HX.out.c1
      have x2 := HX.out.c2
      have x3 := HX.out.c3
      go_wp2_with (first | (go_at_call 23; refine HV.out.mono ?_; rintro e w1 ⟨rfl, hb⟩; have hr1 : Hid (w1.heap[w.heap.size + 1]? = some (.cells #[I 0, I 0, I 0] 38 (0, 0))) := Lib.hid ((hb.block _ (Array.getElem?_eq_some_iff.1 HR.out).1).trans HR.out); obtain ⟨⟨s0, s1, s2⟩, f0, f1, f2⟩ := res38 hr1.out; have HB1 := Lib.hid (HBW.out.trans (hb.mono HBW.out.size)); have HX1 := Lib.hid (HX.out.keep hb); have y0 := (HX.out.keep hb).c0; have y1 := (HX.out.keep hb).c1; have y2 := (HX.out.keep hb).c2; clear hb))
      refine bodyPost_ret (res_ct (by rfl) _ _ (w.heap.size + 1) 38 #[I 0, I 0, I 0] (0, 0) _ (by rfl) (res3 hr1.out 0 0 0) Try.underlying38 (by rfl) (by kernel_rfl)) rfl ?_
      exact ⟨rfl, ((HB1.out.setCell (p := ⟨w.heap.size + 1, 0, none⟩) (show w.heap.size ≤ w.heap.size + 1 by omega) _).setCell (p := ⟨w.heap.size + 1, 1, none⟩) (show w.heap.size ≤ w.heap.size + 1 by omega) _).setCell (p := ⟨w.heap.size + 1, 2, none⟩) (show w.heap.size ≤ w.heap.size + 1 by omega) _⟩
    · have d0 : decide (b < 1) = false := decide_eq_false q0
      by_cases q1 : 1000 < b
      · have d1 : decide (1000 < b) = true := decide_eq_true q1
        go_enter Try.func13, Try.ntmps13
        go_upto_region 1 with fail
        rw [← HW.out]
        have x0 := HX.out.c0
        have x1 := HX.out.c1
        have x2 := HX.out.c2
        have x3 := HX.out.c3
        go_wp2_with (first | (go_at_call 23; refine HV.out.mono ?_; rintro e w1 ⟨rfl, hb⟩; have hr1 : Hid (w1.heap[w.heap.size + 1]? = some (.cells #[I 0, I 0, I 0] 38 (0, 0))) := Lib.hid ((hb.block _ (Array.getElem?_eq_some_iff.1 HR.out).1).trans HR.out); obtain ⟨⟨s0, s1, s2⟩, f0, f1, f2⟩ := res38 hr1.out; have HB1 := Lib.hid (HBW.out.trans (hb.mono HBW.out.size)); have HX1 := Lib.hid (HX.out.keep hb); have y0 := (HX.out.keep hb).c0; have y1 := (HX.out.keep hb).c1; have y2 := (HX.out.keep hb).c2; clear hb))
        refine bodyPost_ret (res_ct (by rfl) _ _ (w.heap.size + 1) 38 #[I 0, I 0, I 0] (0, 0) _ (by rfl) (res3 hr1.out 0 0 0) Try.underlying38 (by rfl) (by kernel_rfl)) rfl ?_
        exact ⟨rfl, ((HB1.out.setCell (p := ⟨w.heap.size + 1, 0, none⟩) (show w.heap.size ≤ w.heap.size + 1 by omega) _).setCell (p := ⟨w.heap.size + 1, 1, none⟩) (show w.heap.size ≤ w.heap.size + 1 by omega) _).setCell (p := ⟨w.heap.size + 1, 2, none⟩) (show w.heap.size ≤ w.heap.size + 1 by omega) _⟩
      · have d1 : decide (1000 < b) = false := decide_eq_false q1
        by_cases q2 : k < 0
        · have d2 : decide (k < 0) = true := decide_eq_true q2
          go_enter Try.func13, Try.ntmps13
          go_upto_region 1 with fail
          rw [← HW.out]
          have x0 := HX.out.c0
          have x1 := HX.out.c1
          have x2 := HX.out.c2
          have x3 := HX.out.c3
          go_wp2_with (first | (go_at_call 23; refine HV.out.mono ?_; rintro e w1 ⟨rfl, hb⟩; have hr1 : Hid (w1.heap[w.heap.size + 1]? = some (.cells #[I 0, I 0, I 0] 38 (0, 0))) := Lib.hid ((hb.block _ (Array.getElem?_eq_some_iff.1 HR.out).1).trans HR.out); obtain ⟨⟨s0, s1, s2⟩, f0, f1, f2⟩ := res38 hr1.out; have HB1 := Lib.hid (HBW.out.trans (hb.mono HBW.out.size)); have HX1 := Lib.hid (HX.out.keep hb); have y0 := (HX.out.keep hb).c0; have y1 := (HX.out.keep hb).c1; have y2 := (HX.out.keep hb).c2; clear hb))
          refine bodyPost_ret (res_ct (by rfl) _ _ (w.heap.size + 1) 38 #[I 0, I 0, I 0] (0, 0) _ (by rfl) (res3 hr1.out 0 0 0) Try.underlying38 (by rfl) (by kernel_rfl)) rfl ?_
          exact ⟨rfl, ((HB1.out.setCell (p := ⟨w.heap.size + 1, 0, none⟩) (show w.heap.size ≤ w.heap.size + 1 by omega) _).setCell (p := ⟨w.heap.size + 1, 1, none⟩) (show w.heap.size ≤ w.heap.size + 1 by omega) _).setCell (p := ⟨w.heap.size + 1, 2, none⟩) (show w.heap.size ≤ w.heap.size + 1 by omega) _⟩
        · have d2 : decide (k < 0) = false := decide_eq_false q2
          have q3 : 20000 < k := by omega
          have d3 : decide (20000 < k) = true := decide_eq_true q3
          go_enter Try.func13, Try.ntmps13
          go_upto_region 1 with fail
          rw [← HW.out]
          have x0 := HX.out.c0
          have x1 := HX.out.c1
          have x2 := HX.out.c2
          have x3 := HX.out.c3
          go_wp2_with (first | (go_at_call 23; refine HV.out.mono ?_; rintro e w1 ⟨rfl, hb⟩; have hr1 : Hid (w1.heap[w.heap.size + 1]? = some (.cells #[I 0, I 0, I 0] 38 (0, 0))) := Lib.hid ((hb.block _ (Array.getElem?_eq_some_iff.1 HR.out).1).trans HR.out); obtain ⟨⟨s0, s1, s2⟩, f0, f1, f2⟩ := res38 hr1.out; have HB1 := Lib.hid (HBW.out.trans (hb.mono HBW.out.size)); have HX1 := Lib.hid (HX.out.keep hb); have y0 := (HX.out.keep hb).c0; have y1 := (HX.out.keep hb).c1; have y2 := (HX.out.keep hb).c2; clear hb))
          refine bodyPost_ret (res_ct (by rfl) _ _ (w.heap.size + 1) 38 #[I 0, I 0, I 0] (0, 0) _ (by rfl) (res3 hr1.out 0 0 0) Try.underlying38 (by rfl) (by kernel_rfl)) rfl ?_
          exact ⟨rfl, ((HB1.out.setCell (p := ⟨w.heap.size + 1, 0, none⟩) (show w.heap.size ≤ w.heap.size + 1 by omega) _).setCell (p := ⟨w.heap.size + 1, 1, none⟩) (show w.heap.size ≤ w.heap.size + 1 by omega) _).setCell (p := ⟨w.heap.size + 1, 2, none⟩) (show w.heap.size ≤ w.heap.size + 1 by omega) _⟩
  · obtain rfl := hst.symm
    have HV := Lib.hid (hv W HBW.out true (by simp [h1]))
    have hT' := hT h1
    have hw5 : IntKind.i64.wrap (1 + 3 * T + 1) = 1 + 3 * T + 1 := by
      have : T = 1 ∨ T = 2 ∨ T = 3 := by omega
      rcases this with rfl | rfl | rfl <;> decide
    have Hw5 := Lib.hid hw5
    have HS := Lib.hid (fun w => least_any (hs h1) w)
    have HY := Lib.hid (fun w => least_any (hy h1) w)
    have HL := Lib.hid (fun w => least_any (hl h1) w)
    clear h1 hs hy hl hT hv hw5
    have d0 : decide (b < 1) = false := decide_eq_false (by omega)
    have d1 : decide (1000 < b) = false := decide_eq_false (by omega)
    have d2 : decide (k < 0) = false := decide_eq_false (by omega)
    have d3 : decide (20000 < k) = false := decide_eq_false (by omega)
    go_enter Try.func13, Try.ntmps13
    go_upto_region 1 with fail
    rw [← HW.out]
    have x0 := HX.out.c0
    have x1 := HX.out.c1
    have x2 := HX.out.c2
    have x3 := HX.out.c3
    go_wp2_with (first | (go_at_call 23; refine HV.out.mono ?_; rintro e w1 ⟨rfl, hb⟩; have hr1 : Hid (w1.heap[w.heap.size + 1]? = some (.cells #[I 0, I 0, I 0] 38 (0, 0))) := Lib.hid ((hb.block _ (Array.getElem?_eq_some_iff.1 HR.out).1).trans HR.out); obtain ⟨⟨s0, s1, s2⟩, f0, f1, f2⟩ := res38 hr1.out; have HB1 := Lib.hid (HBW.out.trans (hb.mono HBW.out.size)); have HX1 := Lib.hid (HX.out.keep hb); have y0 := (HX.out.keep hb).c0; have y1 := (HX.out.keep hb).c1; have y2 := (HX.out.keep hb).c2; clear hb))
    go_quiet (fail)
    go_upto_region 6 with fail
    obtain ⟨w2, hw2⟩ : ∃ w2, w2 = w1.drewN nq := ⟨_, rfl⟩
    have z0 : w2.cell? ⟨w.heap.size, 0, none⟩ = some (I S) := by rw [hw2]; exact y0
    have z1 : w2.cell? ⟨w.heap.size, 1, none⟩ = some (I Y) := by rw [hw2]; exact y1
    have z2 : w2.cell? ⟨w.heap.size, 2, none⟩ = some (I T) := by rw [hw2]; exact y2
    have HB2 : Hid (Below w.heap.size w w2) := Lib.hid (by rw [hw2]; exact below_drewN HB1.out _)
    have hr2 : Hid (w2.heap[w.heap.size + 1]? = some (.cells #[I 0, I 0, I 0] 38 (0, 0))) := Lib.hid (by rw [hw2]; exact hr1.out)
    rw [← hw2]
    clear hw2 y0 y1 y2 s0 s1 s2 f0 f1 f2 x0 x1 x2 x3 HX1 HB1 hr1
    go_quiet (first | (go_at_call 24; with_reducible exact Calls.quiet_of_same (HS.out _)) | (go_at_call 24; with_reducible exact Calls.quiet_of_same (H15.out _)) | (go_at_call 24; with_reducible exact Calls.quiet_of_same (HY.out _)))
    go_upto_region 7 with fail
    obtain ⟨w3, hw3⟩ : ∃ w3, w3 = w2.drewN nq := ⟨_, rfl⟩
    have e2 : ∀ w', St (w.heap.size + 1) w3 w' → w'.cell? ⟨w.heap.size, 2, none⟩ = some (I T) := fun w' h => h.cell (by show w.heap.size ≠ w.heap.size + 1; omega) (by rw [hw3]; exact z2)
    have HB3 : Hid (Below w.heap.size w w3) := Lib.hid (by rw [hw3]; exact below_drewN HB2.out _)
    have hr3 : Hid (w3.heap[w.heap.size + 1]? = some (.cells #[I 0, I 0, I 0] 38 (0, 0))) := Lib.hid (by rw [hw3]; exact hr2.out)
    rw [← hw3]
    clear hw3 z0 z1 z2 HB2 hr2
    obtain ⟨⟨s0, s1, s2⟩, f0, f1, f2⟩ := res38 hr3.out
    go_region_held3 (fun w' => St (w.heap.size + 1) w3 w')
      (first
        | (with_reducible exact St.of (Below.refl _ _).drew)
        | (with_reducible assumption)
        | (with_reducible exact St.of (by with_reducible assumption))
        | (with_reducible exact St.putd _ _ _))
      (first
        | (go_at_call 24; rw [Hw5.out]; (with_reducible refine (HL.out _).mono ?_); rintro e w' ⟨rfl, rfl⟩))
    have hfin := res3 (w := w3) hr3.out (ownV T k b s y l) 0 k
    have hbel : Below w.heap.size w (((w3.setCell ⟨w.heap.size + 1, 0, none⟩ (I (ownV T k b s y l))).setCell ⟨w.heap.size + 1, 1, none⟩ (I 0)).setCell ⟨w.heap.size + 1, 2, none⟩ (I k)).drew :=
      (((HB3.out.setCell (p := ⟨w.heap.size + 1, 0, none⟩) (show w.heap.size ≤ w.heap.size + 1 by omega) _).setCell (p := ⟨w.heap.size + 1, 1, none⟩) (show w.heap.size ≤ w.heap.size + 1 by omega) _).setCell (p := ⟨w.heap.size + 1, 2, none⟩) (show w.heap.size ≤ w.heap.size + 1 by omega) _).drew
    have Hfin : Hid ((((w3.setCell ⟨w.heap.size + 1, 0, none⟩ (I (ownV T k b s y l))).setCell ⟨w.heap.size + 1, 1, none⟩ (I 0)).setCell ⟨w.heap.size + 1, 2, none⟩ (I k)).drew.heap[w.heap.size + 1]? = some (.cells #[I (ownV T k b s y l), I 0, I k] 38 (0, 0))) := Lib.hid hfin
    have Hbel := Lib.hid hbel
    clear hfin hbel s0 s1 s2 f0 f1 f2 e2
    change Exit.then _ _ Exit.normal _ (((w3.setCell ⟨w.heap.size + 1, 0, none⟩ (I (ownV T k b s y l))).setCell ⟨w.heap.size + 1, 1, none⟩ (I 0)).setCell ⟨w.heap.size + 1, 2, none⟩ (I k)).drew
    generalize (((w3.setCell ⟨w.heap.size + 1, 0, none⟩ (I (ownV T k b s y l))).setCell ⟨w.heap.size + 1, 1, none⟩ (I 0)).setCell ⟨w.heap.size + 1, 2, none⟩ (I k)).drew = w9 at *
    go_wp2
    refine bodyPost_ret (res_ct (by rfl) _ _ (w.heap.size + 1) 38 #[I (ownV T k b s y l), I 0, I k] (0, 0) _ (by rfl) Hfin.out Try.underlying38 (by rfl) (by kernel_rfl)) rfl ?_
    exact ⟨rfl, Hbel.out⟩

end Go.Proofs.Ytjahkdomofhfgaa
