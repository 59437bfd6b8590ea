/- A graph copied; the path that the program returns. -/
import Derived.Test.YtihpdmchppcbfaaTg
import Derived.Laws.AppendOwnNone
namespace Go.Proofs.Ytihpdmchppcbfaa
open Go.RowKit
set_option linter.unusedVariables false
set_option linter.unusedSimpArgs false

theorem Try.info56 : (Try.prog.info? 56).map (fun i => (i.zero, i.size, i.bytes)) = some (some (.slice none 0 0), 1, 24) := by kernel_rfl

/-- what has been copied of a graph: k rows -/
structure Cp (B : Nat) (wr : World) (v : Value) (k : Nat) (V : Nat → Value) (L : Nat → Nat) (Z : Nat → Nat → Int) : Prop where
  outer : wr.ownsRow B 56 1 v k ((List.range k).map V)
  rows : ∀ r, r < k → wr.ownsRow B 3 1 (V r) (L r) ((List.range (L r)).map fun c => I (Z r c))

theorem own_shape {w : World} {B e n : Nat} {v : Value} {xs : List Value} (h : w.ownsRow B e 1 v n xs) : ∃ a c, v = .slice a n c := by
  rcases h.2 with ⟨rfl, rfl⟩ | ⟨g, cap, cur, rfl, _⟩
  · exact ⟨_, _, rfl⟩
  · exact ⟨_, _, rfl⟩
theorem own_kind {w : World} {B e e' n n' g g' : Nat} {v v' : Value} {xs xs' : List Value} (h : w.ownsRow B e 1 v n xs) (h' : w.ownsRow B e' 1 v' n' xs') (hne : e ≠ e') (hg : v.ownBlock = some g) (hg' : v'.ownBlock = some g') : g ≠ g' := by
  rcases h.2 with ⟨rfl, rfl⟩ | ⟨b, cap, cur, rfl, _, hb, _⟩
  · simp [Value.ownBlock] at hg
  rcases h'.2 with ⟨rfl, rfl⟩ | ⟨b', cap', cur', rfl, _, hb', _⟩
  · simp [Value.ownBlock] at hg'
  simp [Value.ownBlock] at hg hg'
  subst hg hg'
  intro e0
  subst e0
  rw [hb] at hb'
  simp at hb'
  exact hne hb'.2
theorem cell_alloc {w : World} {a : Addr} {v : Value} (h : w.cell? a = some v) (o : Obj) : (w.alloc o).cell? a = some v := by
  rw [← h]; exact World.cell?_of_block (Deep.blk_alloc_lt _ _ _ (World.block_lt_of_cell? _ _ h))
theorem ones_one (a : Option Addr) (n c : Nat) : ∀ x ∈ [Value.slice a n c], x.oneCell' = true := by
  intro x hx
  simp at hx
  subst hx
  rfl
namespace Cp
variable {B k : Nat} {wr w1 : World} {v : Value} {V : Nat → Value} {L : Nat → Nat} {Z : Nat → Nat → Int}
theorem alloc (h : Cp B wr v k V L Z) (o : Obj) : Cp B (wr.alloc o) v k V L Z := ⟨h.outer.alloc o, fun r hr => (h.rows r hr).alloc o⟩
/-- behind the growth of a row that lies above all -/
theorem above (h : Cp B wr v k V L Z) {b : Option Nat} (hg : wr.grownBy w1 b) (hb : ∀ x, b = some x → (∀ y, v.ownBlock = some y → x ≠ y) ∧ ∀ r, r < k → ∀ y, (V r).ownBlock = some y → x ≠ y) : Cp B w1 v k V L Z := by
  refine ⟨h.outer.kept hg ?_, fun r hr => (h.rows r hr).kept hg ?_⟩
  · cases hv : v.ownBlock with
    | none => exact .inl rfl
    | some y => right; intro e; exact (hb y e.symm).1 y hv rfl
  · cases hv : (V r).ownBlock with
    | none => exact .inl rfl
    | some y => right; intro e; exact (hb y e.symm).2 r hr y hv rfl
theorem fresh (h : Cp B wr v k V L Z) (o : Obj) {b : Option Nat} {w1 : World} (hg : (wr.alloc o).grownBy w1 b) (hb : b = some wr.heap.size) : Cp B w1 v k V L Z := by
  refine (h.alloc o).above hg fun x hx => ?_
  rw [hb] at hx
  cases hx
  exact ⟨fun y hy => by have := (h.outer.lt y hy).2; omega, fun r hr y hy => by have := ((h.rows r hr).lt y hy).2; omega⟩
theorem step (h : Cp B wr v k V L Z) {v' u : Value} (hu : wr.ownsRow B 3 1 u (L k) ((List.range (L k)).map fun c => I (Z k c))) (ho : w1.ownsRow B 56 1 v' (k + 1) ((List.range k).map V ++ [u])) (hg : wr.grownBy w1 v.ownBlock) : Cp B w1 v' (k + 1) (fun r => if r = k then u else V r) L Z := by
  have hk : ∀ {x : Value} {n : Nat} {xs : List Value}, wr.ownsRow B 3 1 x n xs → w1.ownsRow B 3 1 x n xs := fun {x n xs} hx => by
    refine hx.kept hg ?_
    cases e1 : x.ownBlock with
    | none => exact .inl rfl
    | some a =>
      right
      intro e2
      exact own_kind hx h.outer (by decide) e1 e2.symm rfl
  refine ⟨?_, fun r hr => ?_⟩
  · rw [List.range_succ, List.map_append]
    simp only [List.map_cons, List.map_nil, if_pos rfl]
    rw [List.map_congr_left (g := V) (fun r hr => by rw [if_neg (by have := List.mem_range.1 hr; omega)])]
    exact ho
  · by_cases e : r = k
    · subst e
      simp only [if_pos rfl]
      exact hk hu
    · simp only [if_neg e]
      exact hk (h.rows r (by omega))
theorem zero (B : Nat) (wr : World) (V : Nat → Value) (L : Nat → Nat) (Z : Nat → Nat → Int) : Cp B wr (.slice none 0 0) 0 V L Z := ⟨World.ownsRow_nil _ _ _ _, fun r hr => by omega⟩

theorem dg (h : Cp B wr v k V L Z) (hk : k ≤ 2 ^ 50) (hL : ∀ r, r < k → L r ≤ 2 ^ 50) : ∃ A C, Dg wr v k A L C Z := by
  have each : ∀ r, ∃ y : Option Addr × Nat, r < k → V r = .slice y.1 (L r) y.2 ∧ L r ≤ y.2 ∧ (y.1 = none → y.2 = 0) ∧ ∀ b, y.1 = some b → ∀ c, c < L r → wr.cell? (b.add c) = some (I (Z r c)) := by
    intro r
    by_cases hr : r < k
    · have hrow := h.rows r hr
      rcases hrow.2 with ⟨e, hl⟩ | ⟨g, cap, cur, e, hb, hh, hn, hc, hs, ht⟩
      · exact ⟨(none, 0), fun _ => ⟨by rw [e, hl], by omega, fun _ => rfl, fun b hb => by cases hb⟩⟩
      · refine ⟨(some ⟨g, 0, none⟩, cap), fun _ => ⟨e, hn, by simp, fun b hb => ?_⟩⟩
        cases hb
        intro c hc
        exact hrow.cells (g := g) (by rw [e]; rfl) c _ (by simp [hc])
    · exact ⟨(none, 0), fun h => absurd h hr⟩
  refine ⟨fun r => (Classical.choose (each r)).1, fun r => (Classical.choose (each r)).2, ⟨?_, hk, fun r hr => ?_⟩⟩
  · rcases h.outer.2 with ⟨rfl, rfl⟩ | ⟨g, cap, cur, e, hb, hh, hn, hc, hs, ht⟩
    · exact ⟨none, 0, rfl, by omega, by decide, by simp, fun b hb => by cases hb⟩
    · refine ⟨some ⟨g, 0, none⟩, cap, e, hn, hc, by simp, fun b hb => ?_⟩
      cases hb
      intro r hr
      rw [← (Classical.choose_spec (each r) hr).1]
      exact h.outer.cells (g := g) (by rw [e]; rfl) r _ (by simp [hr])
  · have H := Classical.choose_spec (each r) hr
    exact ⟨H.2.1, hL r hr, H.2.2.1, H.2.2.2⟩
end Cp

def Dgs (w : World) (n : Nat) (L : Nat → Nat) (Z : Nat → Nat → Int) (e : Ending) (w' : World) : Prop := ∃ v A C, e = .returned v ∧ Dg w' v n A L C Z ∧ Below w.heap.size w w'
set_option maxHeartbeats 8000000 in
set_option maxRecDepth 100000 in
theorem copy_any {w : World} {v : Value} {n : Nat} {A : Nat → Option Addr} {L C : Nat → Nat} {Z : Nat → Nat → Int} (hd : Dg w v n A L C Z) (hn : n ≤ 20000) (hL : ∀ r, r < n → L r ≤ 20000) : Calls Try.prog 15 #[v] w (Dgs w n L Z) := by
  have Hd := Lib.hid hd
  have hsm := hd.small
  obtain ⟨a, cap, rfl⟩ : ∃ a cap, v = .slice a n cap := by
    obtain ⟨a, cap, h, _⟩ := hd.top
    exact ⟨a, cap, h⟩
  have hts := Lib.hid hL
  clear hd hL
  have hB : Below w.heap.size w w := Below.refl _ _
  obtain ⟨i0, hi, hz0, hz1, hz2⟩ := info_parts Try.info3
  obtain ⟨j0, ji, jz0, jz1, jz2⟩ := info_parts Try.info56
  go_enter Try.func15, Try.ntmps15
  go_wp2
  go_loopw [3, 4] (fun v x wr => ∃ k : Nat, k ≤ n ∧ (∃ V, Hid (Cp w.heap.size wr v k V L Z)) ∧ x = I k ∧ Below w.heap.size w wr) (fun _ x _ => n - (intOf x).toNat)
  case atStart => exact ⟨0, by omega, ⟨fun _ => undef, Lib.hid (Cp.zero _ _ _ _ _)⟩, rfl, hB⟩
  case round =>
    clear hB
    obtain ⟨k, hk, ⟨V, hcp⟩, rfl, hB⟩ := hrel
    obtain ⟨va, vc, rfl⟩ := own_shape hcp.out.outer
    by_cases h : k < n
    · have hd := Lib.hid (Hd.out.keep hB)
      obtain ⟨b, rfl⟩ : ∃ b, a = some b := by
        obtain ⟨a', c', e1, _, _, e4, _⟩ := hd.out.top
        cases e1
        cases a with
        | none => have := e4 rfl; omega
        | some b => exact ⟨b, rfl⟩
      have hck := hd.out.outer h
      have hl1 := (hd.out.row k h).1
      have hl2 := hts.out k h
      have hBs := hB.size
      cases hA : A k with
      | none =>
        have hC0 := (hd.out.row k h).2.2.1 hA
        have hL0 : L k = 0 := by omega
        rw [hA, hL0, hC0] at hck
        have hck := cell_alloc hck (.cells #[] 3)
        have hown1 : Hid ((wr.alloc (.cells #[] 3)).ownsRow w.heap.size 3 1 (.slice (some ⟨wr.heap.size, 0, none⟩) 0 0) (L k) ((List.range (L k)).map fun c => I (Z k c))) := Lib.hid (by
          rw [hL0]
          exact World.ownsRow_made wr #[] 0 hBs (by decide) rfl)
        have hB1 := Lib.hid (hB.alloc hBs (.cells #[] 3))
        have hc1 := Lib.hid (hcp.out.alloc (.cells #[] 3))
        have HL0 := Lib.hid hL0
        clear hL0 hC0 hl1 hl2
        go_wp2_with (first
          | (at_builtin; refine wpList_append_own_none rfl (.tmp 12) (.tmp 16) 56 rfl w.heap.size 3 i0 1 Try.underlying56 hi _ 0 [] rfl (World.ownsRow_made wr #[] 0 hBs (by decide) rfl) rfl ?_)
          | (at_builtin; refine wpList_append_own _ rfl (.tmp 11) (.tmp 18) 23 rfl w.heap.size 56 j0 (.slice none 0 0) 1 24 Try.underlying23 ji jz0 jz1 jz2 rfl (by decide) _ _ _ rfl (hc1.out.alloc _).outer ⟨wr.heap.size + 1, 0, none⟩ 1 1 [.slice (some ⟨wr.heap.size, 0, none⟩) 0 0] rfl rfl (by have := cells_one (wr.alloc (.cells #[] 3)) (.slice (some ⟨wr.heap.size, 0, none⟩) 0 0) 56; simp only [World.size_alloc] at this; exact this) (ones_one _ _ _) (by unfold maxLen; omega) (by omega) (by have := hB1.out.size; simp; omega) ?_; intro v2 w2 hown2 hgrow2 _; have hc2 := Lib.hid ((hc1.out.alloc _).step (hown1.out.alloc _) hown2 hgrow2); have hB2 := Lib.hid ((hB1.out.alloc hB1.out.size (.cells #[.slice (some ⟨wr.heap.size, 0, none⟩) 0 0] 56)).grown hgrow2 (by have := hB1.out.size; simp; omega) (fun x hx => ((hc1.out.outer.lt x hx).1))); clear hown2 hgrow2))
        go_roundw
        case rel => exact ⟨k + 1, by omega, ⟨_, hc2⟩, by go_num, hB2.out⟩
        case measure => simp [intOf]; omega
      | some e =>
        rw [hA] at hck
        have hck := cell_alloc hck (.cells #[] 3)
        have hnews : ∀ j u, ((List.range (L k)).map fun c => I (Z k c))[j]? = some u → (wr.alloc (.cells #[] 3)).cell? (e.add j) = some u := by
          intro j u hj
          have hjl : j < L k := by
            have := (List.getElem?_eq_some_iff.1 hj).1
            simpa using this
          have hu : u = I (Z k j) := by simpa [hjl] using hj.symm
          have h1 := hd.out.elem h hjl hA
          rw [hu]
          exact cell_alloc h1 _
        have hone : ∀ u ∈ (List.range (L k)).map (fun c => I (Z k c)), u.oneCell' = true := by
          intro u hu
          obtain ⟨c, _, rfl⟩ := List.mem_map.1 hu
          rfl
        have Hnews := Lib.hid hnews
        have Hone := Lib.hid hone
        clear hnews hone
        go_wp2_with (first
          | (at_builtin; refine wpList_append_own _ rfl (.tmp 12) (.tmp 16) 56 rfl w.heap.size 3 i0 (.int .i64 0) 1 8 Try.underlying56 hi hz0 hz1 hz2 rfl (by decide) _ _ _ rfl (World.ownsRow_made wr #[] 0 hBs (by decide) rfl) e (L k) (C k) ((List.range (L k)).map fun c => I (Z k c)) rfl (by simp) Hnews.out Hone.out (by unfold maxLen; omega) (by omega) (by simp; omega) ?_; intro u w1 hown1 hgrow1 _; simp only [Nat.zero_add, List.nil_append] at hown1; obtain ⟨ua, uc, rfl⟩ := own_shape hown1; have hc1 := Lib.hid (hcp.out.fresh _ hgrow1 rfl); have hown1 := Lib.hid hown1; have hs1 := hgrow1.size; have hB1 := Lib.hid ((hB.alloc hBs (.cells #[] 3)).grown hgrow1 (by simp; omega) (fun x hx => by cases hx; exact hBs)); clear hgrow1)
          | (at_builtin; refine wpList_append_own _ rfl (.tmp 11) (.tmp 18) 23 rfl w.heap.size 56 j0 (.slice none 0 0) 1 24 Try.underlying23 ji jz0 jz1 jz2 rfl (by decide) _ _ _ rfl (hc1.out.alloc _).outer ⟨w1.heap.size, 0, none⟩ 1 1 [.slice ua (L k) uc] rfl rfl (cells_one _ _ _) (ones_one _ _ _) (by unfold maxLen; omega) (by omega) (by have := hB1.out.size; simp; omega) ?_; intro v2 w2 hown2 hgrow2 _; have hc2 := Lib.hid ((hc1.out.alloc _).step (hown1.out.alloc _) hown2 hgrow2); have hB2 := Lib.hid ((hB1.out.alloc hB1.out.size (.cells #[.slice ua (L k) uc] 56)).grown hgrow2 (by have := hB1.out.size; simp; omega) (fun x hx => ((hc1.out.outer.lt x hx).1))); clear hown2 hgrow2))
        go_roundw
        case rel => exact ⟨k + 1, by omega, ⟨_, hc2⟩, by go_num, hB2.out⟩
        case measure => simp [intOf]; omega
    · obtain rfl : k = n := by omega
      obtain ⟨A', C', hd'⟩ := hcp.out.dg (by omega) (fun r hr => by have := hts.out r hr; omega)
      have hd' := Lib.hid hd'
      clear hcp
      go_wp2
      go_ret
      exact ⟨_, A', C', rfl, hd'.out, hB⟩
end Go.Proofs.Ytihpdmchppcbfaa
