/- Moves in memory, and their list turned round in place. -/
import Derived.Test.YtihpdmchppcbfaaTd
import Derived.Test.YtihpdmchppcbfaaFb
import Derived.Deep.LoopGhost
import Derived.Deep.OwnRows
import Derived.BigRegion
import Derived.OwnWalk
import Derived.Deep.Cut
import Derived.Deep.CutRange
import Derived.Deep.CutBlock
import Derived.Outline
namespace Go.Proofs.Ytihpdmchppcbfaa
open Go.RowKit
set_option linter.unusedVariables false
set_option linter.unusedSimpArgs false

/-- the first n moves of a block -/
structure Mv (w : World) (g n : Nat) (f : Nat → Bool × Int) : Prop where
  ex : ∃ cur, w.heap[g]? = some (.cells cur 49 (0, 0)) ∧ 2 * n ≤ cur.size ∧ ∀ i, i < n → cur[2 * i]? = some (.bool (f i).1) ∧ cur[2 * i + 1]? = some (I (f i).2)
namespace Mv
variable {w w' : World} {g n : Nat} {f f' : Nat → Bool × Int}
theorem cell0 (h : Mv w g n f) {i : Nat} (hi : i < n) : w.cell? ⟨g, i * 2, none⟩ = some (.bool (f i).1) := by
  obtain ⟨cur, h1, h2, h3⟩ := h.ex
  have := (h3 i hi).1
  simp only [World.cell?, h1, Nat.mul_comm i 2]
  exact this
theorem cell1 (h : Mv w g n f) {i : Nat} (hi : i < n) : w.cell? ⟨g, i * 2 + 1, none⟩ = some (I (f i).2) := by
  obtain ⟨cur, h1, h2, h3⟩ := h.ex
  have := (h3 i hi).2
  simp only [World.cell?, h1, Nat.mul_comm i 2]
  exact this
theorem frozen (h : Mv w g n f) (j : Nat) : w.frozen? ⟨g, j, none⟩ = false := by
  obtain ⟨cur, h1, h2, h3⟩ := h.ex
  simp [World.frozen?, h1]
theorem congr (h : Mv w g n f) (e : ∀ i, i < n → f i = f' i) : Mv w g n f' := by
  obtain ⟨cur, h1, h2, h3⟩ := h.ex
  exact ⟨cur, h1, h2, fun i hi => by rw [← e i hi]; exact h3 i hi⟩
theorem of_block (h : Mv w g n f) (e : w'.heap[g]? = w.heap[g]?) : Mv w' g n f := by
  obtain ⟨cur, h1, h2, h3⟩ := h.ex
  exact ⟨cur, e.trans h1, h2, h3⟩
theorem set2 (h : Mv w g n f) (i : Nat) (x : Bool × Int) : Mv ((w.setCell ⟨g, i * 2, none⟩ (.bool x.1)).setCell ⟨g, i * 2 + 1, none⟩ (I x.2)) g n (fun u => if u = i then x else f u) := by
  obtain ⟨cur, h1, h2, h3⟩ := h.ex
  have e : ((w.setCell ⟨g, i * 2, none⟩ (.bool x.1)).setCell ⟨g, i * 2 + 1, none⟩ (I x.2)).heap[g]? = some (.cells ((cur.setIfInBounds (i * 2) (.bool x.1)).setIfInBounds (i * 2 + 1) (I x.2)) 49 (0, 0)) := by
    simp [World.setCell, Array.getElem?_modify, h1]
  refine ⟨_, e, by simpa using h2, fun u hu => ?_⟩
  by_cases hui : u = i
  · subst hui
    have s1 : u * 2 < cur.size := by omega
    have s2 : u * 2 + 1 < cur.size := by omega
    simp [Array.getElem?_setIfInBounds, Nat.mul_comm 2 u, s1, s2]
  · have := h3 u hu
    simp only [Array.getElem?_setIfInBounds, if_neg (show ¬ i * 2 + 1 = 2 * u by omega), if_neg (show ¬ i * 2 = 2 * u by omega), if_neg (show ¬ i * 2 + 1 = 2 * u + 1 by omega), if_neg (show ¬ i * 2 = 2 * u + 1 by omega), if_neg hui]
    exact this
theorem drew (h : Mv w g n f) : Mv w.drew g n f := ⟨h.ex⟩
end Mv

set_option maxHeartbeats 2000000 in
theorem rev_any {w : World} {g n cap : Nat} {f : Nat → Bool × Int} (hm : Mv w g n f) (h1 : 1 ≤ n) (hn : n ≤ 2 ^ 40) : Calls Try.prog 43 #[.slice (some ⟨g, 0, none⟩) n cap] w fun e w' => e = .returned (.tuple #[]) ∧ Mv w' g n (fun i => f (n - 1 - i)) ∧ Below g w w' := by
  have HM := Lib.hid hm
  clear hm
  go_enter Try.func43, Try.ntmps43
  go_wp2
  go_loopw [2, 3] (fun x y wr => ∃ i j : Nat, i + j + 1 = n ∧ i ≤ j + 2 ∧ x = I i ∧ y = I j ∧ Hid (Mv wr g n (fun u => if u < i ∨ n ≤ u + i then f (n - 1 - u) else f u)) ∧ Hid (Below g w wr)) (fun x y _ => (intOf y + 2 - intOf x).toNat)
  case atStart => exact ⟨0, n - 1, by omega, by omega, rfl, by congr 1; omega, Lib.hid (HM.out.congr fun u hu => by simp; omega), Lib.hid (Below.refl _ _)⟩
  case round =>
    clear HM
    obtain ⟨i, j, hij, hle, rfl, rfl, hm, hB⟩ := hrel
    by_cases hlt : i < j
    · have ci0 := hm.out.cell0 (i := i) (by omega)
      have ci1 := hm.out.cell1 (i := i) (by omega)
      have cj0 := hm.out.cell0 (i := j) (by omega)
      have cj1 := hm.out.cell1 (i := j) (by omega)
      have fi0 := hm.out.frozen (i * 2)
      have fi1 := hm.out.frozen (i * 2 + 1)
      have fj0 := hm.out.frozen (j * 2)
      have fj1 := hm.out.frozen (j * 2 + 1)
      simp only [show ¬ (i < i ∨ n ≤ i + i) by omega, if_false] at ci0 ci1
      simp only [show ¬ (j < i ∨ n ≤ j + i) by omega, if_false] at cj0 cj1
      obtain ⟨a, ha⟩ : ∃ a, a = f i := ⟨_, rfl⟩
      obtain ⟨b, hb⟩ : ∃ b, b = f j := ⟨_, rfl⟩
      rw [← ha] at ci0 ci1
      rw [← hb] at cj0 cj1
      have HA := Lib.hid ha
      have HB := Lib.hid hb
      clear ha hb
      have hz1 : (0 : Int) ≤ i := by omega
      have hz2 : (i : Int) < n := by omega
      have hz3 : (0 : Int) ≤ j := by omega
      have hz4 : (j : Int) < n := by omega
      go_upto_region 3 with fail
      go_region
      have NM := Lib.hid (((hm.out.set2 i b).set2 j a).drew)
      have NB := Lib.hid ((((((hB.out.setCell (p := ⟨g, i * 2, none⟩) (Nat.le_refl _) (.bool b.1)).setCell (p := ⟨g, i * 2 + 1, none⟩) (Nat.le_refl _) (I b.2)).setCell (p := ⟨g, j * 2, none⟩) (Nat.le_refl _) (.bool a.1)).setCell (p := ⟨g, j * 2 + 1, none⟩) (Nat.le_refl _) (I a.2)).drew))
      clear ci0 ci1 cj0 cj1 fi0 fi1 fj0 fj1
      generalize (((((wr.setCell ⟨g, i * 2, none⟩ (.bool b.1)).setCell ⟨g, i * 2 + 1, none⟩ (I b.2)).setCell ⟨g, j * 2, none⟩ (.bool a.1)).setCell ⟨g, j * 2 + 1, none⟩ (I a.2)).drew) = w9 at *
      obtain ⟨j', rfl⟩ : ∃ j', j = j' + 1 := ⟨j - 1, by omega⟩
      go_wp2
      go_roundw
      case rel => exact ⟨i + 1, j', by omega, by omega, by go_num, by first | rfl | (congr 1; omega), Lib.hid (NM.out.congr fun u hu => by
        by_cases c1 : u = j' + 1
        · rw [if_pos c1, if_pos (by omega), HA.out]; congr 1; omega
        · rw [if_neg c1]
          by_cases c2 : u = i
          · rw [if_pos c2, if_pos (by omega), HB.out]; congr 1; omega
          · rw [if_neg c2]
            by_cases c3 : u < i ∨ n ≤ u + i
            · rw [if_pos c3, if_pos (by omega)]
            · rw [if_neg c3, if_neg (by omega)]), NB⟩
      case measure => simp [intOf]; omega
    · go_wp2
      go_end0
      exact ⟨rfl, hm.out.congr fun u hu => by
        by_cases c3 : u < i ∨ n ≤ u + i
        · rw [if_pos c3]
        · rw [if_neg c3]; congr 1; omega, hB.out⟩
end Go.Proofs.Ytihpdmchppcbfaa
