/- Copies of lists of bools and of numbers. -/
import Derived.Test.YtpmjpkpaclmpbaaTj
import Derived.OwnWalk
import Derived.ArgAppend
namespace Go.Proofs.Ytpmjpkpaclmpbaa
open Go.RowKit
set_option linter.unusedVariables false
set_option linter.unusedSimpArgs false

theorem Try.info4 : (Try.prog.info? 4).map (fun i => (i.zero, i.size, i.bytes)) = some (some (.bool false), 1, 1) := by kernel_rfl
theorem Try.info3 : (Try.prog.info? 3).map (fun i => (i.zero, i.size, i.bytes)) = some (some (.int .i64 0), 1, 8) := by kernel_rfl
theorem own_bs {w : World} {B n : Nat} {v : Value} {f : Nat → Bool} (h : w.ownsRow B 4 1 v n ((List.range n).map fun i => .bool (f i))) : Bs w v n f := by
  rcases h.2 with ⟨h1, h0⟩ | ⟨g, cap, cur, h1, h2, h3, h4, h5, h6, h7⟩
  · exact ⟨none, 0, by rw [h1, h0], by omega, by decide, fun h => by omega, fun b hb => by cases hb⟩
  · refine ⟨some ⟨g, 0, none⟩, cap, h1, h4, h5, fun _ => ⟨_, rfl⟩, fun b hb i hi => ?_⟩
    cases hb
    exact h.cells (g := g) (by rw [h1]; rfl) i _ (by simp [hi])
theorem own_is {w : World} {B n : Nat} {v : Value} {Z : Nat → Int} (h : w.ownsRow B 3 1 v n ((List.range n).map fun i => I (Z i))) : Is w v n Z := by
  rcases h.2 with ⟨h1, h0⟩ | ⟨g, cap, cur, h1, h2, h3, h4, h5, h6, h7⟩
  · exact ⟨none, 0, by rw [h1, h0], by omega, by decide, fun h => by omega, fun b hb => by cases hb⟩
  · refine ⟨some ⟨g, 0, none⟩, cap, h1, h4, h5, fun _ => ⟨_, rfl⟩, fun b hb i hi => ?_⟩
    cases hb
    exact h.cells (g := g) (by rw [h1]; rfl) i _ (by simp [hi])
theorem bools_some {w : World} {b : Addr} {n cap : Nat} {f : Nat → Bool} (h : Bs w (.slice (some b) n cap) n f) (hn : n ≤ 8192) : Calls Try.prog 13 #[.slice (some b) n cap] w fun e w' => ∃ v, e = .returned v ∧ Bs w' v n f ∧ Below w.heap.size w w' := by
  obtain ⟨i0, hi, hz0, hz1, hz2⟩ := info_parts Try.info4
  have hcell : ∀ j u, ((List.range n).map fun i => Value.bool (f i))[j]? = some u → w.cell? (b.add j) = some u := fun j u hj => by
    have hjn : j < n := by have := (List.getElem?_eq_some_iff.1 hj).1; simpa using this
    simp [hjn] at hj
    subst hj
    obtain ⟨b', e, c⟩ := h.at' hjn
    cases e
    exact c
  have HC := Lib.hid (fun j u hj => cell_alloc (hcell j u hj) (.cells #[] 4))
  have hB : Hid (Below w.heap.size w (w.alloc (.cells #[] 4))) := Lib.hid ((Below.refl _ _).alloc (Nat.le_refl _) _)
  have HOW := Lib.hid (World.ownsRow_made (base := w.heap.size) (e := 4) (size := 1) w #[] 0 (Nat.le_refl _) (by decide) rfl)
  clear h hcell
  go_enter Try.func13, Try.ntmps13
  go_wp2_with (at_builtin; refine wpList_append_own _ rfl (.tmp 3) (.tmp 4) 22 rfl w.heap.size 4 i0 _ 1 1 Try.underlying22 hi hz0 hz1 hz2 rfl (by decide) _ 0 [] rfl HOW.out b n cap ((List.range n).map fun i => Value.bool (f i)) rfl (by simp) HC.out (fun u hu => by simp at hu; obtain ⟨i, _, rfl⟩ := hu; rfl) (by unfold maxLen; omega) (by omega) (by simp) ?_; intro v' w' ho hgr _; have HO := Lib.hid ho; have HG := Lib.hid (hB.out.grown hgr (by simp) (fun x hx => by cases hx; exact Nat.le_refl _)); clear ho hgr)
  go_ret
  exact ⟨_, rfl, own_bs (by simpa using HO.out), HG.out⟩
theorem ints_some {w : World} {b : Addr} {n cap : Nat} {Z : Nat → Int} (h : Is w (.slice (some b) n cap) n Z) (hn : n ≤ 8192) : Calls Try.prog 14 #[.slice (some b) n cap] w fun e w' => ∃ v, e = .returned v ∧ Is w' v n Z ∧ Below w.heap.size w w' := by
  obtain ⟨i0, hi, hz0, hz1, hz2⟩ := info_parts Try.info3
  have hcell : ∀ j u, ((List.range n).map fun i => I (Z i))[j]? = some u → w.cell? (b.add j) = some u := fun j u hj => by
    have hjn : j < n := by have := (List.getElem?_eq_some_iff.1 hj).1; simpa using this
    simp [hjn] at hj
    subst hj
    obtain ⟨b', e, c⟩ := h.at' hjn
    cases e
    exact c
  have HC := Lib.hid (fun j u hj => cell_alloc (hcell j u hj) (.cells #[] 3))
  have hB : Hid (Below w.heap.size w (w.alloc (.cells #[] 3))) := Lib.hid ((Below.refl _ _).alloc (Nat.le_refl _) _)
  have HOW := Lib.hid (World.ownsRow_made (base := w.heap.size) (e := 3) (size := 1) w #[] 0 (Nat.le_refl _) (by decide) rfl)
  clear h hcell
  go_enter Try.func14, Try.ntmps14
  go_wp2_with (at_builtin; refine wpList_append_own _ rfl (.tmp 3) (.tmp 4) 23 rfl w.heap.size 3 i0 _ 1 8 Try.underlying23 hi hz0 hz1 hz2 rfl (by decide) _ 0 [] rfl HOW.out b n cap ((List.range n).map fun i => I (Z i)) rfl (by simp) HC.out (fun u hu => by simp at hu; obtain ⟨i, _, rfl⟩ := hu; rfl) (by unfold maxLen; omega) (by omega) (by simp) ?_; intro v' w' ho hgr _; have HO := Lib.hid ho; have HG := Lib.hid (hB.out.grown hgr (by simp) (fun x hx => by cases hx; exact Nat.le_refl _)); clear ho hgr)
  go_ret
  exact ⟨_, rfl, own_is (by simpa using HO.out), HG.out⟩
theorem bools_none {w : World} {f : Nat → Bool} : Calls Try.prog 13 #[.slice none 0 0] w fun e w' => ∃ v, e = .returned v ∧ Bs w' v 0 f ∧ Below w.heap.size w w' := by
  obtain ⟨i0, hi, hz0, hz1, hz2⟩ := info_parts Try.info4
  have hB : Hid (Below w.heap.size w (w.alloc (.cells #[] 4))) := Lib.hid ((Below.refl _ _).alloc (Nat.le_refl _) _)
  have HOW := Lib.hid (World.ownsRow_made (base := w.heap.size) (e := 4) (size := 1) w #[] 0 (Nat.le_refl _) (by decide) rfl)
  go_enter Try.func13, Try.ntmps13
  go_wp2_with (at_builtin; refine wpList_append_own_none rfl (.tmp 3) (.tmp 4) 22 rfl w.heap.size 4 i0 1 Try.underlying22 hi _ 0 [] rfl HOW.out rfl ?_)
  go_ret
  exact ⟨_, rfl, own_bs (by simpa using HOW.out), hB.out⟩
theorem bools_any {w : World} {a : Option Addr} {n cap : Nat} {f : Nat → Bool} (h : Bs w (.slice a n cap) n f) (hnil : a = none → cap = 0) (hn : n ≤ 8192) : Calls Try.prog 13 #[.slice a n cap] w fun e w' => ∃ v, e = .returned v ∧ Bs w' v n f ∧ Below w.heap.size w w' := by
  cases a with
  | some b => exact bools_some h hn
  | none =>
    obtain rfl := hnil rfl
    obtain ⟨a', c', h1, h2, h3, h4, h5⟩ := h.ex
    cases h1
    have h0 : n = 0 := by omega
    subst h0
    exact bools_none
theorem ints_none {w : World} {Z : Nat → Int} : Calls Try.prog 14 #[.slice none 0 0] w fun e w' => ∃ v, e = .returned v ∧ Is w' v 0 Z ∧ Below w.heap.size w w' := by
  obtain ⟨i0, hi, hz0, hz1, hz2⟩ := info_parts Try.info3
  have hB : Hid (Below w.heap.size w (w.alloc (.cells #[] 3))) := Lib.hid ((Below.refl _ _).alloc (Nat.le_refl _) _)
  have HOW := Lib.hid (World.ownsRow_made (base := w.heap.size) (e := 3) (size := 1) w #[] 0 (Nat.le_refl _) (by decide) rfl)
  go_enter Try.func14, Try.ntmps14
  go_wp2_with (at_builtin; refine wpList_append_own_none rfl (.tmp 3) (.tmp 4) 23 rfl w.heap.size 3 i0 1 Try.underlying23 hi _ 0 [] rfl HOW.out rfl ?_)
  go_ret
  exact ⟨_, rfl, own_is (by simpa using HOW.out), hB.out⟩
theorem ints_any {w : World} {a : Option Addr} {n cap : Nat} {Z : Nat → Int} (h : Is w (.slice a n cap) n Z) (hnil : a = none → cap = 0) (hn : n ≤ 8192) : Calls Try.prog 14 #[.slice a n cap] w fun e w' => ∃ v, e = .returned v ∧ Is w' v n Z ∧ Below w.heap.size w w' := by
  cases a with
  | some b => exact ints_some h hn
  | none =>
    obtain rfl := hnil rfl
    obtain ⟨a', c', h1, h2, h3, h4, h5⟩ := h.ex
    cases h1
    have h0 : n = 0 := by omega
    subst h0
    exact ints_none
end Go.Proofs.Ytpmjpkpaclmpbaa
