/- Walks through the two tests of a graph: each answers the same. -/
import Derived.Test.YtihpdmchppcbfaaTa
namespace Go.Proofs.Ytihpdmchppcbfaa
open Go.RowKit
set_option linter.unusedVariables false
set_option linter.unusedSimpArgs false

def okAt (Z : Nat → Nat → Int) (v i : Nat) : Prop := 0 ≤ Z v i ∧ Z v i < v ∧ (0 < i → Z v (i - 1) < Z v i)
def okDag (n : Nat) (L : Nat → Nat) (Z : Nat → Nat → Int) : Prop := 1 ≤ n ∧ n ≤ 1000 ∧ ∀ v, v < n → ∀ i, i < L v → okAt Z v i

theorem Dg.outer {w : World} {b : Addr} {n cap : Nat} {A : Nat → Option Addr} {L C : Nat → Nat} {Z : Nat → Nat → Int} (h : Dg w (.slice (some b) n cap) n A L C Z) {r : Nat} (hr : r < n) : w.cell? (b.add r) = some (.slice (A r) (L r) (C r)) := by
  obtain ⟨a, c, e, h2, h3, h4, h5⟩ := h.top
  cases e
  exact h5 b rfl r hr
theorem Dg.some {w : World} {v : Value} {n : Nat} {A : Nat → Option Addr} {L C : Nat → Nat} {Z : Nat → Nat → Int} (h : Dg w v n A L C Z) {r i : Nat} (hr : r < n) (hi : i < L r) : ∃ e, A r = .some e := by
  have h1 := (h.row r hr).1
  have := (h.row r hr).2.2.1
  cases hx : A r with
  | none => have := this hx; omega
  | some e => exact ⟨e, rfl⟩
theorem Dg.elem {w : World} {v : Value} {n : Nat} {A : Nat → Option Addr} {L C : Nat → Nat} {Z : Nat → Nat → Int} (h : Dg w v n A L C Z) {r i : Nat} (hr : r < n) (hi : i < L r) {e : Addr} (he : A r = .some e) : w.cell? (e.add i) = .some (I (Z r i)) := (h.row r hr).2.2.2 e he i hi

set_option maxHeartbeats 8000000 in
theorem dagValid_any {w : World} {v : Value} {n : Nat} {A : Nat → Option Addr} {L C : Nat → Nat} {Z : Nat → Nat → Int} (hd : Dg w v n A L C Z) {r : Bool} (hr : r = true ↔ okDag n L Z) : Calls Try.prog 11 #[v] w fun e w' => e = .returned (.bool r) ∧ Below w.heap.size w w' := by
  obtain ⟨a, cap, rfl, h2, h3, h4, h5⟩ := hd.top
  by_cases hn : 1 ≤ n ∧ n ≤ 1000
  · obtain ⟨hn1, hn2⟩ := hn
    rcases a with _ | b
    · have := h4 rfl; omega
    have Hr := Lib.hid hr
    have Hd := Lib.hid hd
    clear h4 h5 hd hr
    go_enter Try.func11, Try.ntmps11
    go_wp2
    go_loopw [3, 4] (fun u x wr => ∃ k : Nat, k ≤ n ∧ Hid (∀ v, v < k → ∀ i, i < L v → okAt Z v i) ∧ u = I k ∧ Below w.heap.size w wr) (fun u _ _ => n - (intOf u).toNat)
    case atStart => exact ⟨0, by omega, Lib.hid (fun v hv => by omega), rfl, Below.refl _ _⟩
    case round =>
      obtain ⟨k, hk, HK, rfl, hB⟩ := hrel
      by_cases h : k < n
      · have hd := Lib.hid (Hd.out.keep hB)
        have hck := hd.out.outer h
        have hl1 := (hd.out.row k h).1
        have hl2 := (hd.out.row k h).2.1
        go_wp2
        go_loopw [4] (fun x wr => ∃ i : Nat, i ≤ L k ∧ Hid (∀ j, j < i → okAt Z k j) ∧ x = I i ∧ Below w.heap.size w wr) (fun x _ => L k - (intOf x).toNat)
        case atStart => exact ⟨0, by omega, Lib.hid (fun v hv => by omega), rfl, hB⟩
        case round =>
          clear hck hd hB
          obtain ⟨i, hi, HI, rfl, hB⟩ := hrel
          have hd := Lib.hid (Hd.out.keep hB)
          have hck := hd.out.outer h
          by_cases hi' : i < L k
          · obtain ⟨e, hA⟩ := hd.out.some h hi'
            rw [hA] at hck
            have hz := hd.out.elem h hi' hA
            by_cases c1 : Z k i < 0
            · have hf : r = false := by
                cases r with
                | false => rfl
                | true => exact absurd ((Hr.out.1 rfl).2.2 k h i hi') (by unfold okAt; omega)
              subst hf
              clear Hr
              have hc1 : decide (Z k i < 0) = true := decide_eq_true c1
              go_wp2
              go_quiet (fail)
              go_wp2
              go_ret
              exact ⟨rfl, below_drewN hB _⟩
            · have hc1 : decide (Z k i < 0) = false := decide_eq_false c1
              by_cases c2 : (k : Int) ≤ Z k i
              · have hf : r = false := by
                  cases r with
                  | false => rfl
                  | true => exact absurd ((Hr.out.1 rfl).2.2 k h i hi') (by unfold okAt; omega)
                subst hf
                clear Hr
                have hc2 : decide (Z k i ≥ (k : Int)) = true := decide_eq_true c2
                go_wp2
                go_quiet (fail)
                go_wp2
                go_ret
                exact ⟨rfl, below_drewN hB _⟩
              · have hc2 : decide ((k : Int) ≤ Z k i) = false := decide_eq_false c2
                by_cases c3 : 0 < i
                · have hj : i - 1 < L k := by omega
                  have hz2 := hd.out.elem h hj hA
                  have hc3 : (0 : Int) < (i : Int) := by omega
                  by_cases c4 : Z k i ≤ Z k (i - 1)
                  · have hf : r = false := by
                      cases r with
                      | false => rfl
                      | true => exact absurd ((Hr.out.1 rfl).2.2 k h i hi').2.2 (by intro hh; have := hh c3; omega)
                    subst hf
                    clear Hr
                    have hc4 : decide (Z k i ≤ Z k (i - 1)) = true := decide_eq_true c4
                    go_wp2
                    go_quiet (fail)
                    go_wp2
                    go_ret
                    exact ⟨rfl, below_drewN hB _⟩
                  · have hc4 : decide (Z k i ≤ Z k (i - 1)) = false := decide_eq_false c4
                    go_wp2
                    go_quiet (fail)
                    go_wp2
                    go_roundw
                    case rel => exact ⟨i + 1, by omega, Lib.hid (fun v hv => by
                      rcases Nat.lt_or_ge v i with hl | hl
                      · exact HI.out v hl
                      · obtain rfl : v = i := by omega
                        exact ⟨by omega, by omega, fun _ => by omega⟩), by go_num, below_drewN hB _⟩
                    case measure => simp [intOf]; omega
                · have hi0 := Lib.hid (show i = 0 by omega)
                  have hc3 : decide ((0 : Int) < (i : Int)) = false := decide_eq_false (by omega)
                  go_wp2
                  go_quiet (fail)
                  go_wp2
                  go_roundw
                  case rel => exact ⟨i + 1, by omega, Lib.hid (fun v hv => by
                      obtain rfl : v = i := by have := hi0.out; omega
                      exact ⟨by omega, by omega, fun hh => by omega⟩), by go_num, below_drewN hB _⟩
                  case measure => simp [intOf]; omega
          · obtain rfl : i = L k := by omega
            go_wp2
            go_roundw
            case rel => exact ⟨k + 1, by omega, Lib.hid (fun v hv i hi => by
              rcases Nat.lt_or_ge v k with hl | hl
              · exact HK.out v hl i hi
              · obtain rfl : k = v := by omega
                exact HI.out i hi), by go_num, hB⟩
            case measure => simp [intOf]; omega
      · obtain rfl : k = n := by omega
        have hf : r = true := Hr.out.2 ⟨hn1, hn2, HK.out⟩
        subst hf
        go_wp2
        go_ret
        exact ⟨rfl, hB⟩
  · have hf : r = false := by
      cases r with
      | false => rfl
      | true => exact absurd ⟨(hr.1 rfl).1, (hr.1 rfl).2.1⟩ hn
    subst hf
    clear hr h4 h5 hd
    by_cases hn1 : 1 ≤ n
    · have hn2 : ¬ n ≤ 1000 := by omega
      go_enter Try.func11, Try.ntmps11
      go_wp2
      go_ret
      exact ⟨rfl, Below.refl _ _⟩
    · obtain rfl : n = 0 := by omega
      go_enter Try.func11, Try.ntmps11
      go_wp2
      go_ret
      exact ⟨rfl, Below.refl _ _⟩

end Go.Proofs.Ytihpdmchppcbfaa
