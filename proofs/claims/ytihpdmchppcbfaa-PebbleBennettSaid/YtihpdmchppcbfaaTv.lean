/- Two graphs compared; the reference's path. -/
import Derived.Test.YtihpdmchppcbfaaTl
namespace Go.Proofs.Ytihpdmchppcbfaa
open Go.RowKit
set_option linter.unusedVariables false
set_option linter.unusedSimpArgs false

theorem Dg.shape {w : World} {v : Value} {n : Nat} {A : Nat → Option Addr} {L C : Nat → Nat} {Z : Nat → Nat → Int} (h : Dg w v n A L C Z) : ∃ a cap, v = .slice a n cap ∧ (0 < n → ∃ b, a = .some b) := by
  obtain ⟨a, cap, h1, h2, h3, h4, h5⟩ := h.top
  refine ⟨a, cap, h1, fun hn => ?_⟩
  cases a with
  | none => have := h4 rfl; omega
  | some b => exact ⟨b, rfl⟩
theorem Dg.none' (w : World) (A : Nat → Option Addr) (L C : Nat → Nat) (Z : Nat → Nat → Int) : Dg w (.slice none 0 0) 0 A L C Z :=
  ⟨⟨none, 0, rfl, Nat.le_refl _, by decide, fun _ => rfl, fun b hb => by cases hb⟩, by decide, fun r hr => by omega⟩
set_option maxHeartbeats 4000000 in
theorem same_any {w : World} {v v' : Value} {n : Nat} {A A' : Nat → Option Addr} {L C C' : Nat → Nat} {Z : Nat → Nat → Int} (hd : Dg w v n A L C Z) (hd' : Dg w v' n A' L C' Z) : Calls Try.prog 25 #[v, v'] w fun e w' => e = .returned (.bool true) ∧ Below w.heap.size w w' := by
  obtain ⟨a, cap, rfl, ha⟩ := hd.shape
  obtain ⟨a', cap', rfl, ha'⟩ := hd'.shape
  have Hd := Lib.hid hd
  have Hd' := Lib.hid hd'
  have HA := Lib.hid ha
  have HA' := Lib.hid ha'
  have hsm := hd.small
  clear hd hd' ha ha'
  have hne : (((n : Nat) : Int) != (n : Int)) = false := by simp
  go_enter Try.func25, Try.ntmps25
  go_wp2
  go_loopw [5, 6] (fun x _ wr => ∃ r : Nat, r ≤ n ∧ x = I r ∧ ∃ m, wr = w.drewN m) (fun x _ _ => n - (intOf x).toNat)
  case atStart => exact ⟨0, by omega, rfl, 0, rfl⟩
  case round =>
    obtain ⟨r, hr, rfl, m, rfl⟩ := hrel
    by_cases hrn : r < n
    · obtain ⟨b, rfl⟩ := HA.out (by omega)
      obtain ⟨b', rfl⟩ := HA'.out (by omega)
      have hck := Hd.out.outer hrn
      have hck' := Hd'.out.outer hrn
      have hl := (Hd.out.row r hrn).2.1
      have hne2 : (((L r : Nat) : Int) != (L r : Int)) = false := by simp
      have hr1 : (0 : Int) ≤ r := by omega
      have hr2 : (r : Int) < n := by omega
      go_upto_region 6 with fail
      go_quiet (fail)
      go_wp2
      go_loopw [6] (fun x wr => ∃ c : Nat, c ≤ L r ∧ x = I c ∧ ∃ m, wr = w.drewN m) (fun x _ => L r - (intOf x).toNat)
      case atStart => exact ⟨0, by omega, rfl, _, by first | rfl | rw [World.drewN_drewN]⟩
      case round =>
        obtain ⟨c, hc, rfl, m2, rfl⟩ := hrel
        by_cases hcl : c < L r
        · obtain ⟨e, hA⟩ := Hd.out.some hrn hcl
          obtain ⟨e', hA'⟩ := Hd'.out.some hrn hcl
          have hz := Hd.out.elem hrn hcl hA
          have hz' := Hd'.out.elem hrn hcl hA'
          have hk2 := hck
          have hk2' := hck'
          rw [hA] at hk2
          rw [hA'] at hk2'
          have hc1 : (0 : Int) ≤ c := by omega
          have hc2 : (c : Int) < L r := by omega
          generalize Z r c = z at *
          have hnz : (z != z) = false := by simp
          clear hck hck' hA hA'
          go_wp2
          go_quiet (fail)
          go_wp2
          go_roundw
          case rel => exact ⟨c + 1, by omega, by go_num, _, by first | rfl | rw [World.drewN_drewN]⟩
          case measure => simp [intOf]; omega
        · obtain rfl : c = L r := by omega
          go_wp2
          go_roundw
          case rel => exact ⟨r + 1, by omega, by go_num, _, rfl⟩
          case measure => simp [intOf]; omega
    · obtain rfl : r = n := by omega
      go_wp2
      go_ret
      exact ⟨rfl, below_drewN (Below.refl _ _) _⟩

/-- one of the rows of a graph set -/
theorem Cp.put {B k g cap : Nat} {wr : World} {V : Nat → Value} {L : Nat → Nat} {Z : Nat → Nat → Int} (h : Cp B wr (.slice (some ⟨g, 0, none⟩) k cap) k V L Z) {i : Nat} (hi : i < k) {u : Value} {L' : Nat → Nat} (hL : ∀ r, r < k → r ≠ i → L' r = L r) (hu : wr.ownsRow B 3 1 u (L' i) ((List.range (L' i)).map fun c => I (Z i c))) :
    Cp B (wr.setCell ⟨g, i, none⟩ u) (.slice (some ⟨g, 0, none⟩) k cap) k (fun r => if r = i then u else V r) L' Z := by
  obtain ⟨h1, hg⟩ := h.outer.stored i u
  have hk : ∀ {x : Value} {n : Nat} {xs : List Value}, wr.ownsRow B 3 1 x n xs → (wr.setCell ⟨g, i, none⟩ u).ownsRow B 3 1 x n xs := fun {x n xs} hx => by
    refine hx.kept hg ?_
    cases e1 : x.ownBlock with
    | none => exact .inl rfl
    | some a =>
      right
      intro e2
      exact own_kind hx h.outer (by decide) e1 (g' := g) rfl (by injection e2)
  refine ⟨?_, fun r hr => ?_⟩
  · have e : ((List.range k).map V).set i u = (List.range k).map fun r => if r = i then u else V r := by
      apply List.ext_getElem?
      intro j
      rw [List.getElem?_set]
      simp only [List.length_map, List.length_range, List.getElem?_map]
      by_cases e : i = j
      · subst e
        simp [hi]
      · have e' : ¬ j = i := fun h => e h.symm
        by_cases hj : j < k
        · simp [e, e', hj]
        · simp [e, hj]
    rw [e] at h1
    exact h1
  · by_cases e : r = i
    · subst e
      simp only [if_pos rfl]
      exact hk hu
    · simp only [if_neg e]
      rw [hL r hr e]
      exact hk (h.rows r hr)
end Go.Proofs.Ytihpdmchppcbfaa
