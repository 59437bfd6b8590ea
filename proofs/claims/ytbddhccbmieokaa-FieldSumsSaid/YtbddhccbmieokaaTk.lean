/- Walks through the helpers of the laws: element, add, mul. No memory that was there is changed. -/
import Derived.Test.YtbddhccbmieokaaTj
namespace Go.Proofs.Ytbddhccbmieokaa
open Go.RowKit FieldMath
set_option linter.unusedVariables false
set_option linter.unusedSimpArgs false

theorem chk_yes {P M : Int} {xs : List Int} {r : Int} (h : chk P M xs = r) (h0 : r = 0) : decide (chk P M xs = 0) = true := by rw [h, h0]; rfl
theorem chk_no {P M : Int} {xs : List Int} {r : Int} (h : chk P M xs = r) (h0 : r ≠ 0) : decide (chk P M xs = 0) = false := by rw [h]; exact decide_eq_false h0

set_option maxHeartbeats 2000000 in
theorem elem_any (P M : Int) (xs : List Int) (g c : Nat) (hl : xs.length ≤ 10) (w : World) (hg : g < w.heap.size) (hc : ∀ i, i < xs.length → w.cell? ⟨g, i, none⟩ = some (I (xs.getD i 0))) :
    Calls Try.prog 30 #[A2 P M, .slice (some ⟨g, 0, none⟩) xs.length c] w fun e w' => e = .returned (.bool (decide (chk P M xs = 0))) ∧ Below w.heap.size w w' := by
  have hgne : ¬ g = w.heap.size := by omega
  have Hc := Lib.hid hc
  clear hc
  by_cases hv : vld P M = true
  · have Hv := Lib.hid hv
    clear hv
    go_enter Try.func30, Try.ntmps30
    go_wp2_with (go_at_call 13; refine (valid_yes Hv.out _).mono ?_; rintro e w' ⟨rfl, hb⟩; obtain ⟨hcc, hf⟩ := bcell hb)
    go_loopw [5] (fun v wr => ∃ k : Nat, k ≤ xs.length ∧ Hid (∀ i, i < k → 0 ≤ xs.getD i 0 ∧ xs.getD i 0 < ord P M) ∧ v = I k ∧ Below (w.heap.size + 1) (w.alloc (Obj.cells #[I P, I M] 23)) wr) (fun v _ => 100 - (intOf v).toNat)
    case atStart => exact ⟨0, by omega, Lib.hid (fun i hi => by omega), rfl, by simpa using hb⟩
    case round =>
      clear hcc hf hb
      obtain ⟨k, hk, H, rfl, hB⟩ := hrel
      obtain ⟨hx0, hx1, hx2⟩ := box_cells hB
      have hbc := Lib.hid (bcell (W := w.alloc (Obj.cells #[I P, I M] 23)) (by simpa using hB))
      by_cases hlt : k < xs.length
      · have hx : wr.cell? ⟨g, k, none⟩ = some (I (xs.getD k 0)) := by rw [hbc.out.1 _ _ (by simp; omega), ← Hc.out k hlt]; exact World.cell?_alloc_lt w _ _ hg
        have hgr : g < wr.heap.size := by have := hB.size; simp at this; omega
        have hk0 : (0 : Int) ≤ k := by omega
        have hk1 : (k : Int) < xs.length := by omega
        have HB := Lib.hid hB
        clear hB
        by_cases hneg : xs.getD k 0 < 0
        · have Hr := Lib.hid (chk_no (chk_bad Hv.out hlt (by omega)) (by omega))
          have hd : decide (xs.getD k 0 < 0) = true := decide_eq_true hneg
          generalize xs.getD k 0 = x at *
          go_wp2
          have e2 : ∀ y : Ext wr, y.val.cell? ⟨g, k, none⟩ = some (I x) := fun y => (y.ok.cell (p := ⟨g, k, none⟩) hgr).trans hx
          clear hx hx0 hx1
          refine wp_region_ext (by kernel_rfl) (by kernel_rfl) ?_
          repeat (go_big_quiet_step (fail))
          refine wpQuiet_nil ?_
          rintro _ ⟨y, rfl⟩
          go_wp2
          go_ret
          exact ⟨rb Hr.out.symm, box4_end (HB.out.trans (y.ok.mono (by omega)))⟩
        · have hd : decide (xs.getD k 0 < 0) = false := decide_eq_false hneg
          have Ho := Lib.hid (order_any P M)
          by_cases hge : ord P M ≤ xs.getD k 0
          · have Hr := Lib.hid (chk_no (chk_bad Hv.out hlt (by omega)) (by omega))
            have hd2 : decide (ord P M ≤ xs.getD k 0) = true := decide_eq_true hge
            generalize xs.getD k 0 = x at *
            go_wp2
            have e0 : ∀ y : Ext wr, y.val.cell? ⟨w.heap.size, 0, none⟩ = some (I P) := fun y => (y.ok.cell (p := ⟨w.heap.size, 0, none⟩) hx2).trans hx0
            have e1 : ∀ y : Ext wr, y.val.cell? ⟨w.heap.size, 1, none⟩ = some (I M) := fun y => (y.ok.cell (p := ⟨w.heap.size, 1, none⟩) hx2).trans hx1
            have e2 : ∀ y : Ext wr, y.val.cell? ⟨g, k, none⟩ = some (I x) := fun y => (y.ok.cell (p := ⟨g, k, none⟩) hgr).trans hx
            clear hx hx0 hx1
            refine wp_region_ext (by kernel_rfl) (by kernel_rfl) ?_
            repeat (go_big_quiet_step ((go_at_call 14; exact Fn.ext Ho.out _ _)))
            refine wpQuiet_nil ?_
            rintro _ ⟨y, rfl⟩
            go_wp2
            go_ret
            exact ⟨rb Hr.out.symm, box4_end (HB.out.trans (y.ok.mono (by omega)))⟩
          · have Hs := Lib.hid (step_ok H.out (by omega) (by omega))
            have hd2 : decide (ord P M ≤ xs.getD k 0) = false := decide_eq_false hge
            generalize xs.getD k 0 = x at *
            go_wp2
            have e0 : ∀ y : Ext wr, y.val.cell? ⟨w.heap.size, 0, none⟩ = some (I P) := fun y => (y.ok.cell (p := ⟨w.heap.size, 0, none⟩) hx2).trans hx0
            have e1 : ∀ y : Ext wr, y.val.cell? ⟨w.heap.size, 1, none⟩ = some (I M) := fun y => (y.ok.cell (p := ⟨w.heap.size, 1, none⟩) hx2).trans hx1
            have e2 : ∀ y : Ext wr, y.val.cell? ⟨g, k, none⟩ = some (I x) := fun y => (y.ok.cell (p := ⟨g, k, none⟩) hgr).trans hx
            clear hx hx0 hx1
            refine wp_region_ext (by kernel_rfl) (by kernel_rfl) ?_
            repeat (go_big_quiet_step ((go_at_call 14; exact Fn.ext Ho.out _ _)))
            refine wpQuiet_nil ?_
            rintro _ ⟨y, rfl⟩
            go_wp2
            go_roundw
            case rel => exact ⟨k + 1, by omega, Hs, by go_num, HB.out.trans (y.ok.mono (by omega))⟩
            case measure => simp [intOf]; omega
      · have Hr := Lib.hid (chk_yes (chk_ok Hv.out (all_of (fun i hi => H.out i (by omega)))) rfl)
        go_wp2
        go_ret
        exact ⟨rb Hr.out.symm, box4_end hB⟩
  · have Hv := Lib.hid (Bool.eq_false_iff.2 hv)
    have Hr := Lib.hid (chk_no (chk_form (xs := xs) Hv.out) (by omega))
    clear hv
    go_enter Try.func30, Try.ntmps30
    go_wp2_with (go_at_call 13; refine (valid_not Hv.out _).mono ?_; rintro e w' ⟨rfl, hb⟩; obtain ⟨hcc, hf⟩ := bcell hb)
    go_ret
    exact ⟨rb Hr.out.symm, ((Below.refl _ _).alloc (Nat.le_refl _) _).trans (hb.mono (by simp))⟩

set_option maxHeartbeats 1000000 in
theorem ladd {P M a b : Nat} (hv : FV P M) (ha : a < fq P M) (hb : b < fq P M) : Fn 32 #[A2 P M, I a, I b] (I (fadd P M a b : Nat)) := by
  intro w
  have H1 := Lib.hid (addV hv ha hb)
  clear hv ha hb
  generalize fadd P M a b = r at *
  go_enter Try.func32, Try.ntmps32
  go_wp2_with (go_at_call 23; refine (H1.out _).mono ?_; rintro e w' ⟨rfl, hb⟩)
  go_ret
  exact ⟨rfl, ((Below.refl _ _).alloc (Nat.le_refl _) _).trans (hb.mono (by simp))⟩
set_option maxHeartbeats 1000000 in
theorem lmul {P M a b : Nat} (hv : FV P M) (ha : a < fq P M) (hb : b < fq P M) : Fn 33 #[A2 P M, I a, I b] (I (fmul P M a b : Nat)) := by
  intro w
  have H1 := Lib.hid (mulV hv ha hb)
  clear hv ha hb
  generalize fmul P M a b = r at *
  go_enter Try.func33, Try.ntmps33
  go_wp2_with (go_at_call 25; refine (H1.out _).mono ?_; rintro e w' ⟨rfl, hb⟩)
  go_ret
  exact ⟨rfl, ((Below.refl _ _).alloc (Nat.le_refl _) _).trans (hb.mono (by simp))⟩

end Go.Proofs.Ytbddhccbmieokaa
