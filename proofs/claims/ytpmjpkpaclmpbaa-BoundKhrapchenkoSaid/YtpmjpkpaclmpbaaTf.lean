/- The joins; the number of a table. -/
import Derived.Test.YtpmjpkpaclmpbaaTc
namespace Go.Proofs.Ytpmjpkpaclmpbaa
open Go.RowKit
set_option linter.unusedVariables false
set_option linter.unusedSimpArgs false

theorem join55 (w : World) (a b : Int) (ha : 0 ≤ a) (hb : 0 ≤ b) (ha2 : a ≤ BIG) (hb2 : b ≤ BIG) : Calls Try.prog 55 #[I a, I b] w fun e w' => e = .returned (I ((fun a b => a + b) a b)) ∧ w = w' := by
  have hB : BIG = 1048576 := rfl
  rw [hB] at ha2 hb2
  go_enter Try.func55, Try.ntmps55
  go_wp2
  go_ret
  exact ⟨rfl, rfl⟩
theorem join50 (w : World) (a b : Int) (ha : 0 ≤ a) (hb : 0 ≤ b) (ha2 : a ≤ BIG) (hb2 : b ≤ BIG) : Calls Try.prog 50 #[I a, I b] w fun e w' => e = .returned (I ((fun a b => 1 + max a b) a b)) ∧ w = w' := by
  have hB : BIG = 1048576 := rfl
  rw [hB] at ha2 hb2
  by_cases h : a < b
  · have hm : max a b = b := by omega
    simp only [hm]
    have hd : decide (a < b) = true := decide_eq_true h
    go_enter Try.func50, Try.ntmps50
    go_wp2
    go_ret
    exact ⟨rfl, rfl⟩
  · have hm : max a b = a := by omega
    simp only [hm]
    have hd : decide (a < b) = false := decide_eq_false h
    go_enter Try.func50, Try.ntmps50
    go_wp2
    go_ret
    exact ⟨rfl, rfl⟩
/-- a list of bools in memory -/
structure Bs (w : World) (v : Value) (n : Nat) (f : Nat → Bool) : Prop where
  ex : ∃ (a : Option Addr) (cap : Nat), v = .slice a n cap ∧ n ≤ cap ∧ cap ≤ maxLen ∧ (0 < n → ∃ b, a = some b) ∧ ∀ b, a = some b → ∀ i, i < n → w.cell? (b.add i) = some (.bool (f i))
theorem Bs.shape {w : World} {v : Value} {n : Nat} {f : Nat → Bool} (h : Bs w v n f) : ∃ a c, v = .slice a n c := by
  obtain ⟨a, c, h1, _⟩ := h.ex
  exact ⟨a, c, h1⟩
theorem Bs.at' {w : World} {a : Option Addr} {n k c : Nat} {f : Nat → Bool} (h : Bs w (.slice a k c) n f) {i : Nat} (hi : i < n) : ∃ b, a = some b ∧ w.cell? (b.add i) = some (.bool (f i)) := by
  obtain ⟨a', c', h1, h2, h3, h4, h5⟩ := h.ex
  cases h1
  obtain ⟨b, rfl⟩ := h4 (by omega)
  exact ⟨b, rfl, h5 b rfl i hi⟩
theorem Bs.keep {w w' : World} {v : Value} {n : Nat} {f : Nat → Bool} (h : Bs w v n f) (hb : Below w.heap.size w w') : Bs w' v n f := by
  obtain ⟨a, c, h1, h2, h3, h4, h5⟩ := h.ex
  exact ⟨a, c, h1, h2, h3, h4, fun b hb' i hi => by have := h5 b hb' i hi; exact (hb.cell (World.block_lt_of_cell? _ _ this)).trans this⟩
/-- the number of a table -/
def tn (f : Nat → Bool) : Nat → Nat
  | 0 => 0
  | i + 1 => tn f i ||| (if f i = true then 2 ^ i else 0)
theorem tn_lt (f : Nat → Bool) : ∀ i, tn f i < 2 ^ i
  | 0 => by simp [tn]
  | i + 1 => by
    have := tn_lt f i
    have hp : 2 ^ (i + 1) = 2 ^ i * 2 := Nat.pow_succ ..
    simp only [tn]
    split
    · exact Nat.or_lt_two_pow (by omega) (by omega)
    · simp; omega
theorem or_bit : ∀ (j : Fin 8) (x : Fin 256), bits BinOp.or .i64 (x.val : Int) (wrap64 (2 ^ j.val)) = ((x.val ||| 2 ^ j.val : Nat) : Int) := by decide +kernel
set_option maxHeartbeats 2000000 in
theorem function_any {w : World} {v : Value} {n : Nat} {f : Nat → Bool} (h : Bs w v n f) (hn : n ≤ 8) : Calls Try.prog 51 #[v] w fun e w' => e = .returned (I (tn f n)) ∧ w = w' := by
  obtain ⟨a, c, rfl⟩ := h.shape
  have HB := Lib.hid h
  clear h
  go_enter Try.func51, Try.ntmps51
  go_wp2
  go_loop [3, 4, 5, 8] (fun x _ _ y => ∃ i : Nat, i ≤ n ∧ x = I (tn f i) ∧ y = I i) (fun _ _ _ y => n - (intOf y).toNat)
  case atStart => exact ⟨0, by omega, rfl, rfl⟩
  case round =>
    obtain ⟨i, hi, rfl, rfl⟩ := hrel
    by_cases hin : i < n
    · obtain ⟨b, rfl, cb⟩ := HB.out.at' hin
      have hlt := tn_lt f i
      have h256 : tn f i < 256 := by
        have : 2 ^ i ≤ 2 ^ 8 := Nat.pow_le_pow_right (by decide) (by omega)
        omega
      have hor := or_bit ⟨i, by omega⟩ ⟨tn f i, h256⟩
      simp only at hor
      have hst : Hid (tn f (i + 1) = tn f i ||| (if f i = true then 2 ^ i else 0)) := Lib.hid rfl
      generalize hL : (tn f i ||| 2 ^ i) = L1 at hor
      have HL := Lib.hid hL
      clear hL hlt h256
      have hi0 : (0 : Int) ≤ i := by omega
      generalize tn f i = L0 at *
      cases hfi : f i with
      | true =>
        rw [hfi] at cb
        have HF := Lib.hid hfi
        clear hfi
        go_wp2
        go_round
        case rel => exact ⟨i + 1, by omega, by rw [hst.out, if_pos HF.out, HL.out], by go_num⟩
        case measure => simp [intOf]; omega
      | false =>
        rw [hfi] at cb
        have HF := Lib.hid hfi
        clear hfi
        go_wp2
        go_round
        case rel => exact ⟨i + 1, by omega, by rw [hst.out, HF.out]; simp, by go_num⟩
        case measure => simp [intOf]; omega
    · obtain rfl : i = n := by omega
      go_wp2
      go_ret
      exact ⟨rfl, rfl⟩
end Go.Proofs.Ytpmjpkpaclmpbaa
