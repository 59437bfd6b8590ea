/- Graphs made of rows: the words for them; the reference's path. -/
import Derived.Test.YtihpdmchppcbfaaTv
namespace Go.Proofs.Ytihpdmchppcbfaa
open Go.RowKit
set_option linter.unusedVariables false
set_option linter.unusedSimpArgs false

theorem made_list (z : Value) (n : Nat) : (madeCells #[z] n).toList = (List.range n).map fun _ => z := by
  rw [toList_madeCells_one]
  rw [List.map_const', List.length_range]
theorem Cp.made {w : World} {n : Nat} (hn : n ≤ maxLen) (L : Nat → Nat) (hL : ∀ r, r < n → L r = 0) (Z : Nat → Nat → Int) : Cp w.heap.size (w.alloc (.cells (madeCells #[.slice none 0 0] n) 56)) (.slice (some ⟨w.heap.size, 0, none⟩) n n) n (fun _ => .slice none 0 0) L Z := by
  refine ⟨?_, fun r hr => ?_⟩
  · have h := World.ownsRow_lit (base := w.heap.size) (e := 56) (size := 1) w (madeCells #[.slice none 0 0] n) n (Nat.le_refl _) hn (by simp [size_madeCells])
    rw [made_list] at h
    exact h
  · rw [hL r hr]
    exact World.ownsRow_nil _ _ _ _
theorem Cp.congr {B k : Nat} {wr : World} {v : Value} {V : Nat → Value} {L L' : Nat → Nat} {Z Z' : Nat → Nat → Int} (h : Cp B wr v k V L Z) (hL : ∀ r, r < k → L r = L' r) (hZ : ∀ r, r < k → ∀ c, c < L r → Z r c = Z' r c) : Cp B wr v k V L' Z' := by
  refine ⟨h.outer, fun r hr => ?_⟩
  have h1 := h.rows r hr
  have e : (List.range (L' r)).map (fun c => I (Z' r c)) = (List.range (L r)).map (fun c => I (Z r c)) := by
    rw [← hL r hr]
    exact List.map_congr_left fun c hc => by rw [hZ r hr c (List.mem_range.1 hc)]
  rw [e, ← hL r hr]
  exact h1
theorem Cp.keep {B k : Nat} {wr w' : World} {v : Value} {V : Nat → Value} {L : Nat → Nat} {Z : Nat → Nat → Int} (h : Cp B wr v k V L Z) (hb : Below wr.heap.size wr w') : Cp B w' v k V L Z := by
  have hk : ∀ {e n : Nat} {x : Value} {xs : List Value}, wr.ownsRow B e 1 x n xs → w'.ownsRow B e 1 x n xs := fun {e n x xs} hx => by
    refine ⟨hx.1, ?_⟩
    rcases hx.2 with h1 | ⟨g, cap, cur, h1, h2, h3, h4⟩
    · exact .inl h1
    · exact .inr ⟨g, cap, cur, h1, h2, (hb.block g (Array.getElem?_eq_some_iff.1 h3).1).trans h3, h4⟩
  exact ⟨hk h.outer, fun r hr => hk (h.rows r hr)⟩

/-- a new graph on rows of the call's own -/
def Cps (w : World) (n : Nat) (L : Nat → Nat) (Z : Nat → Nat → Int) (e : Ending) (w' : World) : Prop := ∃ v V, e = .returned v ∧ Cp w.heap.size w' v n V L Z ∧ Below w.heap.size w w'
set_option maxHeartbeats 4000000 in
theorem refPathC_any {w : World} (n : Nat) (h1 : 1 ≤ n) (h2 : n ≤ 1000) : Calls Try.prog 19 #[I n] w (Cps w n Lp Zp) := by
  have hmk := run_make_row' (P := Try.prog) 23 56 (.slice none 0 0) 24 Try.underlying23 Try.info56 rfl .i64 .i64 n (by omega) (by omega)
  have hcp0 := Cp.made (w := w) (n := n) (by unfold maxLen; omega) (fun r => if r < 1 then Lp r else 0) (fun r _ => by by_cases e : r < 1 <;> simp [e, Lp]; omega) Zp
  have HCP := Lib.hid hcp0
  have HB0 : Hid (Below w.heap.size w (w.alloc (.cells (madeCells #[.slice none 0 0] n) 56))) := Lib.hid ((Below.refl _ _).alloc (Nat.le_refl _) _)
  clear hcp0
  go_enter Try.func19, Try.ntmps19
  go_wp2
  go_loopw [4] (fun x wr => ∃ k : Nat, 1 ≤ k ∧ k ≤ n ∧ (∃ V, Hid (Cp w.heap.size wr (.slice (some ⟨w.heap.size, 0, none⟩) n n) n V (fun r => if r < k then Lp r else 0) Zp)) ∧ x = I k ∧ Hid (Below w.heap.size w wr)) (fun x _ => n - (intOf x).toNat)
  case atStart => exact ⟨1, by omega, h1, ⟨_, HCP⟩, rfl, HB0⟩
  case round =>
    clear HCP HB0
    obtain ⟨k, hk1, hk, ⟨V, hcp⟩, rfl, hB⟩ := hrel
    by_cases h : k < n
    · have hBs := hB.out.size
      have c1 : (wr.alloc (.cells #[I ((k : Int) - 1)] 3)).cell? ⟨w.heap.size, k, none⟩ = some (V k) := by
        have := (hcp.out.alloc (.cells #[I ((k : Int) - 1)] 3)).outer.cellAt k (by simpa using h)
        rw [this]
        simp [h]
      have f1 : (wr.alloc (.cells #[I ((k : Int) - 1)] 3)).frozen? ⟨w.heap.size, k, none⟩ = false := (hcp.out.alloc (.cells #[I ((k : Int) - 1)] 3)).outer.frozenAt k
      have hn1 : (wr.alloc (.cells #[I ((k : Int) - 1)] 3)).ownsRow w.heap.size 3 1 (.slice (some ⟨wr.heap.size, 0, none⟩) 1 1) (Lp k) ((List.range (Lp k)).map fun c => I (Zp k c)) := by
        have : Lp k = 1 := by unfold Lp; rw [if_neg (by omega)]
        rw [this]
        exact World.ownsRow_lit (base := w.heap.size) (e := 3) (size := 1) wr #[I ((k : Int) - 1)] 1 hBs (by decide) rfl
      have hc2 := Lib.hid ((hcp.out.alloc (.cells #[I ((k : Int) - 1)] 3)).put h (u := .slice (some ⟨wr.heap.size, 0, none⟩) 1 1) (L' := fun r => if r < k + 1 then Lp r else 0) (fun r hr hne => by
        by_cases e : r < k
        · simp [e, show r < k + 1 by omega]
        · simp [e, show ¬ r < k + 1 by omega]) (by simpa using hn1))
      have hB2 := Lib.hid ((hB.out.alloc hBs (.cells #[I ((k : Int) - 1)] 3)).setCell (p := ⟨w.heap.size, k, none⟩) (Nat.le_refl _) (.slice (some ⟨wr.heap.size, 0, none⟩) 1 1))
      clear hn1
      go_wp2
      go_roundw
      case rel => exact ⟨k + 1, by omega, by omega, ⟨_, hc2⟩, by go_num, hB2⟩
      case measure => simp [intOf]; omega
    · obtain rfl : k = n := by omega
      have hcp2 := hcp.out.congr (L' := Lp) (Z' := Zp) (fun r hr => by simp [hr]) (fun r hr c hc => rfl)
      have HCP2 := Lib.hid hcp2
      clear hcp hcp2
      go_wp2
      go_ret
      exact ⟨_, V, rfl, HCP2.out, hB.out⟩
theorem refPath_any {w : World} (n : Nat) (h1 : 1 ≤ n) (h2 : n ≤ 1000) : Calls Try.prog 19 #[I n] w (Dgs w n Lp Zp) := by
  refine (refPathC_any n h1 h2).mono ?_
  rintro e w' ⟨v, V, rfl, hc, hb⟩
  obtain ⟨A, C, hd⟩ := hc.dg (by omega) (fun r hr => by unfold Lp; split <;> omega)
  exact ⟨v, A, C, rfl, hd, hb⟩
end Go.Proofs.Ytihpdmchppcbfaa
