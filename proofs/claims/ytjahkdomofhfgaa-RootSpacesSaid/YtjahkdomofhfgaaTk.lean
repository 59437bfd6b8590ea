/- Lists of numbers: whether they lie between bounds; whether two are equal. -/
import Derived.Test.YtjahkdomofhfgaaTj
namespace Go.Proofs.Ytjahkdomofhfgaa
open Go.RowKit
set_option linter.unusedVariables false
set_option linter.unusedSimpArgs false

/-- A list of numbers in memory. -/
structure Sl (w : World) (a : Option Addr) (L : Nat) (Z : Nat → Int) : Prop where
  small : L ≤ 2 ^ 50
  ne : 0 < L → ∃ b, a = some b
  cell : ∀ b, a = some b → ∀ c, c < L → w.cell? (b.add c) = some (I (Z c))
theorem Sl.keep {w w' : World} {a : Option Addr} {L : Nat} {Z : Nat → Int} (h : Sl w a L Z) (hb : Below w.heap.size w w') : Sl w' a L Z := ⟨h.small, h.ne, fun b hab c hc => below_cell (B := 0) hb (h.cell b hab c hc)⟩
theorem Mg.sl {w : World} {v : Value} {n : Nat} {F G : Nat → Int} {A : Nat → Nat → Option Addr} {L C : Nat → Nat → Nat} {Z : Nat → Nat → Nat → Int} (h : Mg w v n F G A L C Z) {r : Nat} (hr : r < n) {q : Nat} (hq : q < 3) : Sl w (A r q) (L r q) (Z r q) := by
  obtain ⟨h1, h2, h3, h4⟩ := h.row r hr q hq
  refine ⟨h2, fun h0 => ?_, h4⟩
  cases hA : A r q with
  | none => have := h3 hA; omega
  | some b => exact ⟨b, rfl⟩

def inB (L : Nat) (Z : Nat → Int) (k lo hi : Int) : Prop := (L : Int) = k ∧ ∀ c, c < L → lo ≤ Z c ∧ Z c ≤ hi

set_option maxHeartbeats 2000000 in
theorem within_any {w : World} {a : Option Addr} {L C : Nat} {Z : Nat → Int} (h : Sl w a L Z) (k lo hi : Int) {b : Bool} (hb : b = true ↔ inB L Z k lo hi) : Calls Try.prog 18 #[.slice a L C, I k, I lo, I hi] w fun e w' => e = .returned (.bool b) ∧ w = w' := by
  have Hb := Lib.hid hb
  have H := Lib.hid h
  have hsm := h.small
  clear hb h
  go_enter Try.func18, Try.ntmps18
  go_wp2
  go_loop [9] (fun x => ∃ i : Nat, i ≤ L ∧ Hid (∀ c, c < i → lo ≤ Z c ∧ Z c ≤ hi) ∧ x = I i) (fun x => L - (intOf x).toNat)
  case atStart => exact ⟨0, by omega, Lib.hid (fun c hc => by omega), rfl⟩
  case round =>
    obtain ⟨i, hi', HI, rfl⟩ := hrel
    by_cases hl : i < L
    · obtain ⟨e, rfl⟩ := H.out.ne (by omega)
      have hc := H.out.cell e rfl i hl
      by_cases c1 : Z i < lo
      · have hf : b = false := by
          cases b with
          | false => rfl
          | true => have := ((Hb.out.1 rfl).2 i hl).1; omega
        subst hf
        have hd : decide (Z i < lo) = true := decide_eq_true c1
        go_wp2
        go_ret
        exact ⟨rfl, rfl⟩
      · have hd : decide (Z i < lo) = false := decide_eq_false c1
        by_cases c2 : hi < Z i
        · have hf : b = false := by
            cases b with
            | false => rfl
            | true => have := ((Hb.out.1 rfl).2 i hl).2; omega
          subst hf
          have hd2 : decide (hi < Z i) = true := decide_eq_true c2
          go_wp2
          go_ret
          exact ⟨rfl, rfl⟩
        · have hd2 : decide (hi < Z i) = false := decide_eq_false c2
          go_wp2
          go_round
          case rel => exact ⟨i + 1, by omega, Lib.hid (fun c hc' => by
            rcases Nat.lt_or_ge c i with hl | hl
            · exact HI.out c hl
            · obtain rfl : c = i := by omega
              exact ⟨by omega, by omega⟩), by go_num⟩
          case measure => simp [intOf]; omega
    · obtain rfl : i = L := by omega
      have hf : b = decide ((i : Int) = k) := by
        rw [Bool.eq_iff_iff, Hb.out, decide_eq_true_eq]
        exact ⟨fun h => h.1, fun h => ⟨h, HI.out⟩⟩
      clear Hb
      subst hf
      go_wp2
      go_ret
      exact ⟨rb (by rw [Bool.eq_iff_iff]; simp), rfl⟩

def eqL (L L' : Nat) (Z Z' : Nat → Int) : Prop := L = L' ∧ ∀ c, c < L → Z c = Z' c
set_option maxHeartbeats 2000000 in
theorem equal_any {w : World} {a a' : Option Addr} {L C L' C' : Nat} {Z Z' : Nat → Int} (h : Sl w a L Z) (h' : Sl w a' L' Z') {b : Bool} (hb : b = true ↔ eqL L L' Z Z') : Calls Try.prog 19 #[.slice a L C, .slice a' L' C'] w fun e w' => e = .returned (.bool b) ∧ ∃ m, w' = w.drewN m := by
  have Hb := Lib.hid hb
  have H := Lib.hid h
  have H' := Lib.hid h'
  have hsm := h.small
  have hsm' := h'.small
  clear hb h h'
  by_cases hl : L = L'
  · subst hl
    have hd : (((L : Nat) : Int) != (L : Int)) = false := by simp
    go_enter Try.func19, Try.ntmps19
    go_wp2
    go_loopw [5] (fun x wr => ∃ i : Nat, i ≤ L ∧ Hid (∀ c, c < i → Z c = Z' c) ∧ x = I i ∧ ∃ m, wr = w.drewN m) (fun x _ => L - (intOf x).toNat)
    case atStart => exact ⟨0, by omega, Lib.hid (fun c hc => by omega), rfl, 0, rfl⟩
    case round =>
      obtain ⟨i, hi', HI, rfl, m, rfl⟩ := hrel
      by_cases hl : i < L
      · obtain ⟨e, rfl⟩ := H.out.ne (by omega)
        obtain ⟨e', rfl⟩ := H'.out.ne (by omega)
        have hc := H.out.cell e rfl i hl
        have hc' := H'.out.cell e' rfl i hl
        by_cases c1 : Z i = Z' i
        · have hd1 : (Z i != Z' i) = false := by simp [c1]
          have C1 := Lib.hid c1
          clear c1
          go_wp2
          go_quiet (fail)
          go_wp2
          go_roundw
          case rel => exact ⟨i + 1, by omega, Lib.hid (fun c hc' => by
            rcases Nat.lt_or_ge c i with hl | hl
            · exact HI.out c hl
            · obtain rfl : c = i := by omega
              exact C1.out), by go_num, _, rfl⟩
          case measure => simp [intOf]; omega
        · have hd1 : (Z i != Z' i) = true := by simp [c1]
          have hf : b = false := by
            cases b with
            | false => rfl
            | true => exact absurd ((Hb.out.1 rfl).2 i hl) c1
          subst hf
          go_wp2
          go_quiet (fail)
          go_wp2
          go_ret
          exact ⟨rfl, _, by rw [World.drewN_drewN]⟩
      · obtain rfl : i = L := by omega
        have hf : b = true := Hb.out.2 ⟨rfl, HI.out⟩
        subst hf
        go_wp2
        go_ret
        exact ⟨rfl, _, rfl⟩
  · have hd : (((L : Nat) : Int) != (L' : Int)) = true := by simp; omega
    have hf : b = false := by
      cases b with
      | false => rfl
      | true => exact absurd (Hb.out.1 rfl).1 hl
    subst hf
    go_enter Try.func19, Try.ntmps19
    go_wp2
    go_ret
    exact ⟨rfl, 0, rfl⟩

end Go.Proofs.Ytjahkdomofhfgaa
