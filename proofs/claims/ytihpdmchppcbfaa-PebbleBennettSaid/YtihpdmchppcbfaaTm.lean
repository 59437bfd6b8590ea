/- The first example of the chapter. -/
import Derived.Test.YtihpdmchppcbfaaTl
namespace Go.Proofs.Ytihpdmchppcbfaa
open Go.RowKit
set_option linter.unusedVariables false
set_option linter.unusedSimpArgs false

theorem can_test (rev : Bool) (k : Int) : Can 4 (nds Lp Zp) rev k ↔ ∃ m, Rch (Ed 4 (nds Lp Zp) k rev) m 8 := Iff.rfl
/-- closed under moves with k pebbles -/
def closedB (k : Nat) (rev : Bool) (S : List Nat) : Bool := S.all fun s => (List.range 4).all fun v => let t := s ^^^ 2 ^ v; S.contains t || decide (k < pc t) || ((decide (s < t) || rev) && decide (s &&& nds Lp Zp v ≠ nds Lp Zp v))
theorem closed_no {k : Nat} {rev : Bool} {S : List Nat} (h0 : S.contains 0 = true) (h : closedB k rev S = true) : ∀ m x, Rch (Ed 4 (nds Lp Zp) (k : Int) rev) m x → x ∈ S
  | 0, x, hx => by
    have : x = 0 := hx
    rw [this]; simpa using h0
  | m + 1, x, ⟨s, hs, ⟨v, hv, ht, ha, hk⟩⟩ => by
    have hsS := closed_no h0 h m s hs
    have h1 := List.all_eq_true.1 h s hsS
    have h2 := List.all_eq_true.1 h1 v (List.mem_range.2 hv)
    simp only [Bool.or_eq_true, Bool.and_eq_true, decide_eq_true_eq] at h2
    rcases h2 with (h2 | h2) | ⟨h2, h3⟩
    · rw [ht]; simpa using h2
    · rw [ht] at hk; omega
    · rw [ht] at ha
      exact absurd (ha h2) h3
theorem step_can {k : Int} {rev : Bool} {m s t : Nat} (v : Nat) (h : Rch (Ed 4 (nds Lp Zp) k rev) m s) (hv : v < 4) (ht : t = s ^^^ 2 ^ v) (ha : (s < t ∨ rev = true) → s &&& nds Lp Zp v = nds Lp Zp v) (hk : (pc t : Int) ≤ k) : Rch (Ed 4 (nds Lp Zp) k rev) (m + 1) t := ⟨s, h, ⟨v, hv, ht, ha, hk⟩⟩
theorem can_black : Can 4 (nds Lp Zp) false 2 := by
  refine ⟨7, ?_⟩
  have h0 : Rch (Ed 4 (nds Lp Zp) 2 false) 0 0 := rfl
  have h1 := step_can (t := 1) 0 h0 (by decide) (by decide) (fun _ => by decide) (by decide)
  have h2 := step_can (t := 3) 1 h1 (by decide) (by decide) (fun _ => by decide) (by decide)
  have h3 := step_can (t := 2) 0 h2 (by decide) (by decide) (fun h => absurd h (by decide)) (by decide)
  have h4 := step_can (t := 6) 2 h3 (by decide) (by decide) (fun _ => by decide) (by decide)
  have h5 := step_can (t := 4) 1 h4 (by decide) (by decide) (fun h => absurd h (by decide)) (by decide)
  have h6 := step_can (t := 12) 3 h5 (by decide) (by decide) (fun _ => by decide) (by decide)
  exact step_can (t := 8) 2 h6 (by decide) (by decide) (fun h => absurd h (by decide)) (by decide)
theorem can_rev : Can 4 (nds Lp Zp) true 3 := by
  refine ⟨9, ?_⟩
  have h0 : Rch (Ed 4 (nds Lp Zp) 3 true) 0 0 := rfl
  have h1 := step_can (t := 1) 0 h0 (by decide) (by decide) (fun _ => by decide) (by decide)
  have h2 := step_can (t := 3) 1 h1 (by decide) (by decide) (fun _ => by decide) (by decide)
  have h3 := step_can (t := 2) 0 h2 (by decide) (by decide) (fun _ => by decide) (by decide)
  have h4 := step_can (t := 6) 2 h3 (by decide) (by decide) (fun _ => by decide) (by decide)
  have h5 := step_can (t := 14) 3 h4 (by decide) (by decide) (fun _ => by decide) (by decide)
  have h6 := step_can (t := 10) 2 h5 (by decide) (by decide) (fun _ => by decide) (by decide)
  have h7 := step_can (t := 11) 0 h6 (by decide) (by decide) (fun _ => by decide) (by decide)
  have h8 := step_can (t := 9) 1 h7 (by decide) (by decide) (fun _ => by decide) (by decide)
  exact step_can (t := 8) 0 h8 (by decide) (by decide) (fun _ => by decide) (by decide)
theorem least_black : IsLeast 4 (nds Lp Zp) false 2 := by
  refine ⟨by decide, by decide, fun k => ⟨fun h => ?_, fun h => can_black.mono false h⟩⟩
  apply Classical.byContradiction
  intro hk
  obtain ⟨m, hm⟩ := Can.mono (k' := ((1 : Nat) : Int)) false (by omega) h
  have := closed_no (S := [0, 1]) (by decide) (by decide) m _ hm
  simp at this
theorem least_rev : IsLeast 4 (nds Lp Zp) true 3 := by
  refine ⟨by decide, by decide, fun k => ⟨fun h => ?_, fun h => can_rev.mono true h⟩⟩
  apply Classical.byContradiction
  intro hk
  obtain ⟨m, hm⟩ := Can.mono (k' := ((2 : Nat) : Int)) true (by omega) h
  have := closed_no (S := [0, 1, 3, 2, 6]) (by decide) (by decide) m _ hm
  simp at this

set_option maxHeartbeats 2000000 in
theorem awake_any (w : World) : Calls Try.prog 10 #[] w fun e w' => e = .returned (.bool true) ∧ Below w.heap.size w w' := by
  go_enter Try.func10, Try.ntmps10
  go_wp2_with (first
    | (go_at_call 22; refine (path_any 4 (by decide) (by decide)).mono ?_; rintro e w1 ⟨v, A, C, rfl, hd, hb⟩; have HD := Lib.hid hd; have HB1 := Lib.hid hb; clear hd hb; have _t1 : True := trivial)
    | (go_at_call 14; refine (least_ok HD.out (path_ok 4 (by decide) (by decide)) (by decide) least_black).mono ?_; rintro e w2 ⟨rfl, hb⟩; have HB2 := Lib.hid hb; have HD2 := Lib.hid (HD.out.keep hb); clear hb HD)
    | (go_at_call 14; refine (least_ok HD2.out (path_ok 4 (by decide) (by decide)) (by decide) least_rev).mono ?_; rintro e w3 ⟨rfl, hb⟩; have HB3 := Lib.hid hb; clear hb))
  go_ret
  exact ⟨rfl, (HB1.out.trans (HB2.out.mono HB1.out.size)).trans (HB3.out.mono (Nat.le_trans HB1.out.size HB2.out.size))⟩
end Go.Proofs.Ytihpdmchppcbfaa
