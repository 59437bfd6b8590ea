/- Walks through the functions of the field and of its reference: what each call returns; no memory that was there is changed. -/
import Derived.Test.YtbddhccbmieokaaT3
namespace Go.Proofs.Ytbddhccbmieokaa
open Go.RowKit FieldMath

/-- what 'check' answers -/
def chk (P M : Int) (xs : List Int) : Int := if vld P M = true then (if ∀ x ∈ xs, 0 ≤ x ∧ x < ord P M then 0 else 2) else 1

theorem chk_form {P M : Int} {xs : List Int} (h : vld P M = false) : chk P M xs = 1 := by unfold chk; rw [h]; simp
theorem chk_ok {P M : Int} {xs : List Int} (h : vld P M = true) (hx : ∀ x ∈ xs, 0 ≤ x ∧ x < ord P M) : chk P M xs = 0 := by unfold chk; rw [if_pos h, if_pos hx]
theorem chk_bad {P M : Int} {xs : List Int} (h : vld P M = true) {i : Nat} (hi : i < xs.length) (hx : ¬ (0 ≤ xs.getD i 0 ∧ xs.getD i 0 < ord P M)) : chk P M xs = 2 := by
  unfold chk
  rw [if_pos h, if_neg]
  intro hall
  apply hx
  rw [List.getD_eq_getElem?_getD, List.getElem?_eq_getElem hi]
  exact hall _ (List.getElem_mem hi)
theorem all_of {P M : Int} {xs : List Int} (h : ∀ i, i < xs.length → 0 ≤ xs.getD i 0 ∧ xs.getD i 0 < ord P M) : ∀ x ∈ xs, 0 ≤ x ∧ x < ord P M := fun x hx => by
  obtain ⟨i, hi, rfl⟩ := List.getElem_of_mem hx
  have := h i hi
  rwa [List.getD_eq_getElem?_getD, List.getElem?_eq_getElem hi] at this

theorem step_ok {q : Int} {xs : List Int} {k : Nat} (H : ∀ i, i < k → 0 ≤ xs.getD i 0 ∧ xs.getD i 0 < q) (h0 : 0 ≤ xs.getD k 0) (h1 : xs.getD k 0 < q) : ∀ i, i < k + 1 → 0 ≤ xs.getD i 0 ∧ xs.getD i 0 < q := fun i hi => by
  rcases Nat.lt_or_ge i k with hl | hl
  · exact H i hl
  · obtain rfl : i = k := by omega
    exact ⟨h0, h1⟩
set_option maxHeartbeats 1000000 in
theorem check_any (P M : Int) (xs : List Int) (g c : Nat) (hl : xs.length ≤ 10) (w : World) (hg : g < w.heap.size) (hc : ∀ i, i < xs.length → w.cell? ⟨g, i, none⟩ = some (I (xs.getD i 0))) :
    Calls Try.prog 43 #[A2 P M, .slice (some ⟨g, 0, none⟩) xs.length c] w fun e w' => e = .returned (I (chk P M xs)) ∧ Below w.heap.size w w' := by
  have hgne : ¬ g = w.heap.size := by omega
  have Hc := Lib.hid hc
  clear hc
  by_cases hv : vld P M = true
  · have Hv := Lib.hid hv
    clear hv
    go_enter Try.func43, Try.ntmps43
    go_wp2_with (go_at_call 13; refine (valid_yes Hv.out _).mono ?_; rintro e w' ⟨rfl, hb⟩; obtain ⟨hcc, hf⟩ := bcell hb)
    go_loopw [6, 12] (fun _ v wr => ∃ k : Nat, k ≤ xs.length ∧ Hid (∀ i, i < k → 0 ≤ xs.getD i 0 ∧ xs.getD i 0 < ord P M) ∧ v = I k ∧ Below (w.heap.size + 1) (w.alloc (Obj.cells #[I P, I M] 23)) wr) (fun _ v _ => 100 - (intOf v).toNat)
    case atStart => exact ⟨0, by omega, Lib.hid (fun i hi => by omega), rfl, by simpa using hb⟩
    case round =>
      clear hcc hf hb
      obtain ⟨k, hk, H, rfl, hB⟩ := hrel
      have hbc := Lib.hid (bcell (W := w.alloc (Obj.cells #[I P, I M] 23)) (by simpa using hB))
      have hbx : wr.cell? ⟨w.heap.size, 0, none⟩ = some (I P) := by rw [hbc.out.1 _ _ (by simp)]; simp [go_sem]
      have hbx1 : wr.cell? ⟨w.heap.size, 1, none⟩ = some (I M) := by rw [hbc.out.1 _ _ (by simp)]; simp [go_sem]
      by_cases hlt : k < xs.length
      · have hx : wr.cell? ⟨g, k, none⟩ = some (I (xs.getD k 0)) := by rw [hbc.out.1 _ _ (by simp; omega), ← Hc.out k hlt]; exact World.cell?_alloc_lt w _ _ hg
        by_cases hneg : xs.getD k 0 < 0
        · have Hr := Lib.hid (chk_bad Hv.out hlt (by omega))
          generalize xs.getD k 0 = x at *
          go_wp2
          go_ret
          exact ⟨ri Hr.out.symm, ((Below.refl _ _).alloc (Nat.le_refl _) _).trans (hB.mono (by simp))⟩
        · by_cases hge : ord P M ≤ xs.getD k 0
          · have Hr := Lib.hid (chk_bad Hv.out hlt (by omega))
            generalize xs.getD k 0 = x at *
            go_wp2_with (go_at_call 14; refine (order_any _ _ _).mono ?_; rintro e w' ⟨rfl, hb⟩)
            go_ret
            exact ⟨ri Hr.out.symm, ((Below.refl _ _).alloc (Nat.le_refl _) _).trans ((hB.mono (by simp)).trans (hb.mono (by have := hB.size; simp at this; omega)))⟩
          · have Hs := Lib.hid (step_ok H.out (by omega) (by omega))
            generalize xs.getD k 0 = x at *
            go_wp2_with (go_at_call 14; refine (order_any _ _ _).mono ?_; rintro e w' ⟨rfl, hb⟩)
            go_roundw
            case rel => exact ⟨k + 1, by omega, Hs, by go_num, hB.trans (hb.mono (by have := hB.size; simp at this; omega))⟩
            case measure => simp [intOf]; omega
      · have Hr := Lib.hid (chk_ok Hv.out (all_of (fun i hi => H.out i (by omega))))
        go_wp2
        go_ret
        exact ⟨ri Hr.out.symm, ((Below.refl _ _).alloc (Nat.le_refl _) _).trans (hB.mono (by simp))⟩
  · have Hv := Lib.hid (Bool.eq_false_iff.2 hv)
    have Hr := Lib.hid (chk_form (xs := xs) Hv.out)
    clear hv
    go_enter Try.func43, Try.ntmps43
    go_wp2_with (go_at_call 13; refine (valid_not Hv.out _).mono ?_; rintro e w' ⟨rfl, hb⟩; obtain ⟨hcc, hf⟩ := bcell hb)
    go_ret
    exact ⟨ri Hr.out.symm, ((Below.refl _ _).alloc (Nat.le_refl _) _).trans (hb.mono (by simp))⟩

end Go.Proofs.Ytbddhccbmieokaa
