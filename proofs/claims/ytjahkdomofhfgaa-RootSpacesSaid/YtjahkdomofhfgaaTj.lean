/- A machine in memory; whether it is too large for the statement. -/
import Derived.Test.YtjahkdomofhfgaaTi
namespace Go.Proofs.Ytjahkdomofhfgaa
open Go.RowKit
set_option linter.unusedVariables false
set_option linter.unusedSimpArgs false

/-- The rules of a machine in memory: rule r goes from F r to G r; its three lists (q = 0, 1, 2) are slices at A r q of length L r q with the numbers Z r q c. -/
structure Mg (w : World) (v : Value) (n : Nat) (F G : Nat → Int) (A : Nat → Nat → Option Addr) (L C : Nat → Nat → Nat) (Z : Nat → Nat → Nat → Int) : Prop where
  len : ∃ (a : Option Addr) (cap : Nat), v = .slice a n cap
  top : 0 < n → ∃ B O cap, v = .slice (some ⟨B, O, none⟩) n cap ∧ ∀ r, r < n →
    w.cell? ⟨B, O + r * 5, none⟩ = some (I (F r)) ∧ w.cell? ⟨B, O + r * 5 + 1, none⟩ = some (.slice (A r 0) (L r 0) (C r 0)) ∧ w.cell? ⟨B, O + r * 5 + 2, none⟩ = some (I (G r)) ∧
    w.cell? ⟨B, O + r * 5 + 3, none⟩ = some (.slice (A r 1) (L r 1) (C r 1)) ∧ w.cell? ⟨B, O + r * 5 + 4, none⟩ = some (.slice (A r 2) (L r 2) (C r 2))
  small : n ≤ 2 ^ 50
  row : ∀ r, r < n → ∀ q, q < 3 → L r q ≤ C r q ∧ L r q ≤ 2 ^ 50 ∧ (A r q = none → C r q = 0) ∧ ∀ b, A r q = some b → ∀ c, c < L r q → w.cell? (b.add c) = some (I (Z r q c))

theorem below_cell {B : Nat} {w w' : World} (hb : Below w.heap.size w w') {a : Addr} {v : Value} (h : w.cell? a = some v) : w'.cell? a = some v := (hb.cell (World.block_lt_of_cell? _ _ h)).trans h
theorem Mg.keep {w w' : World} {v : Value} {n : Nat} {F G : Nat → Int} {A : Nat → Nat → Option Addr} {L C : Nat → Nat → Nat} {Z : Nat → Nat → Nat → Int} (h : Mg w v n F G A L C Z) (hb : Below w.heap.size w w') : Mg w' v n F G A L C Z where
  len := h.len
  top := fun hn => by
    obtain ⟨B, O, cap, h1, h3⟩ := h.top hn
    refine ⟨B, O, cap, h1, fun r hr => ?_⟩
    obtain ⟨c0, c1, c2, c3, c4⟩ := h3 r hr
    exact ⟨below_cell (B := 0) hb c0, below_cell (B := 0) hb c1, below_cell (B := 0) hb c2, below_cell (B := 0) hb c3, below_cell (B := 0) hb c4⟩
  small := h.small
  row := fun r hr q hq => by
    obtain ⟨h1, h2, h3, h4⟩ := h.row r hr q hq
    exact ⟨h1, h2, h3, fun b hab c hc => below_cell (B := 0) hb (h4 b hab c hc)⟩

theorem Mg.base {w : World} {a : Option Addr} {n cap : Nat} {F G : Nat → Int} {A : Nat → Nat → Option Addr} {L C : Nat → Nat → Nat} {Z : Nat → Nat → Nat → Int} (h : Mg w (.slice a n cap) n F G A L C Z) (hn : 0 < n) : ∃ B O, a = some ⟨B, O, none⟩ := by
  obtain ⟨B, O, c', e1, _⟩ := h.top hn
  cases e1
  exact ⟨B, O, rfl⟩
theorem Mg.rule {w : World} {B O : Nat} {n cap : Nat} {F G : Nat → Int} {A : Nat → Nat → Option Addr} {L C : Nat → Nat → Nat} {Z : Nat → Nat → Nat → Int} (h : Mg w (.slice (some ⟨B, O, none⟩) n cap) n F G A L C Z) {r : Nat} (hr : r < n) :
    w.cell? ⟨B, O + r * 5, none⟩ = some (I (F r)) ∧ w.cell? ⟨B, O + r * 5 + 1, none⟩ = some (.slice (A r 0) (L r 0) (C r 0)) ∧ w.cell? ⟨B, O + r * 5 + 2, none⟩ = some (I (G r)) ∧
    w.cell? ⟨B, O + r * 5 + 3, none⟩ = some (.slice (A r 1) (L r 1) (C r 1)) ∧ w.cell? ⟨B, O + r * 5 + 4, none⟩ = some (.slice (A r 2) (L r 2) (C r 2)) := by
  obtain ⟨B', O', c', e1, h3⟩ := h.top (by omega)
  cases e1
  exact h3 r hr

abbrev M4 (S Y T : Int) (v : Value) : Value := .agg #[I S, I Y, I T, v]
/-- the machine's box at block N -/
structure Bx (N : Nat) (W : World) (S Y T : Int) (v : Value) : Prop where
  c0 : W.cell? ⟨N, 0, none⟩ = some (I S)
  c1 : W.cell? ⟨N, 1, none⟩ = some (I Y)
  c2 : W.cell? ⟨N, 2, none⟩ = some (I T)
  c3 : W.cell? ⟨N, 3, none⟩ = some v
theorem Bx.keep {N : Nat} {W w' : World} {S Y T : Int} {v : Value} (h : Bx N W S Y T v) (hb : Below W.heap.size W w') : Bx N w' S Y T v := ⟨below_cell (B := 0) hb h.c0, below_cell (B := 0) hb h.c1, below_cell (B := 0) hb h.c2, below_cell (B := 0) hb h.c3⟩
theorem box4 (w : World) (S Y T : Int) (v : Value) : Bx w.heap.size (w.alloc (Obj.cells #[I S, I Y, I T, v] 35)) S Y T v ∧ Below w.heap.size w (w.alloc (Obj.cells #[I S, I Y, I T, v] 35)) :=
  ⟨⟨by simp [go_sem], by simp [go_sem], by simp [go_sem], by simp [go_sem]⟩, (Below.refl _ _).alloc (Nat.le_refl _) _⟩
def bigM (n : Nat) (L : Nat → Nat → Nat) : Prop := 2000 < n ∨ ∃ r, r < n ∧ 100 < L r 0 + L r 1 + L r 2

set_option maxHeartbeats 2000000 in
theorem mwide_any {w : World} {S Y T : Int} {v : Value} {n : Nat} {F G : Nat → Int} {A : Nat → Nat → Option Addr} {L C : Nat → Nat → Nat} {Z : Nat → Nat → Nat → Int} (hd : Mg w v n F G A L C Z) {b : Bool} (hb : b = true ↔ bigM n L) : Calls Try.prog 10 #[M4 S Y T v] w fun e w' => e = .returned (.bool b) ∧ Below w.heap.size w w' := by
  have Hb := Lib.hid hb
  have Hd := Lib.hid hd
  have hsm := hd.small
  obtain ⟨a, cap, rfl⟩ := hd.len
  clear hb hd
  by_cases h : 2000 < n
  · have hf : b = true := Hb.out.2 (.inl h)
    subst hf
    go_enter Try.func10, Try.ntmps10
    go_wp2
    go_ret
    exact ⟨rfl, (box4 w S Y T _).2⟩
  · go_enter Try.func10, Try.ntmps10
    go_wp2
    obtain ⟨W, hW⟩ : ∃ W, W = w.alloc (Obj.cells #[I S, I Y, I T, Value.slice a n cap] 35) := ⟨_, rfl⟩
    have hbx := (box4 w S Y T (Value.slice a n cap)).1
    have hB0 := (box4 w S Y T (Value.slice a n cap)).2
    rw [← hW] at hbx hB0 ⊢
    have HM := Lib.hid (Hd.out.keep hB0)
    have HX := Lib.hid hbx
    have HB0 := Lib.hid hB0
    clear hW hB0 hbx
    go_loopw [3] (fun x wr => ∃ k : Nat, k ≤ n ∧ Hid (∀ r, r < k → L r 0 + L r 1 + L r 2 ≤ 100) ∧ x = I k ∧ Below W.heap.size W wr) (fun x _ => n - (intOf x).toNat)
    case atStart => exact ⟨0, by omega, Lib.hid (fun r hr => by omega), rfl, Below.refl _ _⟩
    case round =>
      obtain ⟨k, hk, HK, rfl, hB⟩ := hrel
      have x3 := (HX.out.keep hB).c3
      by_cases hkn : k < n
      · have hM := Lib.hid (HM.out.keep hB)
        obtain ⟨B, O, rfl⟩ := hM.out.base (by omega)
        obtain ⟨c0, c1, c2, c3, c4⟩ := hM.out.rule hkn
        have l0 := hM.out.row k hkn 0 (by omega)
        have l1 := hM.out.row k hkn 1 (by omega)
        have l2 := hM.out.row k hkn 2 (by omega)
        have m0 := l0.2.1
        have m1 := l1.2.1
        have m2 := l2.2.1
        clear l0 l1 l2 c0 c2
        by_cases hs : 100 < L k 0 + L k 1 + L k 2
        · have hf : b = true := Hb.out.2 (.inr ⟨k, hkn, hs⟩)
          subst hf
          go_wp2
          go_quiet (fail)
          go_wp2
          go_ret
          exact ⟨rfl, HB0.out.trans (below_drewN (hB.mono HB0.out.size) _)⟩
        · go_wp2
          go_quiet (fail)
          go_wp2
          go_roundw
          case rel => exact ⟨k + 1, by omega, Lib.hid (fun r hr => by
            rcases Nat.lt_or_ge r k with hl | hl
            · exact HK.out r hl
            · obtain rfl : r = k := by omega
              omega), by go_num, below_drewN hB _⟩
          case measure => simp [intOf]; omega
      · obtain rfl : k = n := by omega
        have hf : b = false := by
          cases b with
          | false => rfl
          | true => exact absurd (Hb.out.1 rfl) (by
              rintro (h1 | ⟨r, hr, h1⟩)
              · omega
              · have := HK.out r hr; omega)
        subst hf
        go_wp2
        go_ret
        exact ⟨rfl, HB0.out.trans (hB.mono HB0.out.size)⟩

end Go.Proofs.Ytjahkdomofhfgaa
