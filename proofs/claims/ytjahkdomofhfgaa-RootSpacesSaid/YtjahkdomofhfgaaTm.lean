/- A copy of a machine: new memory, the same rules. -/
import Derived.Test.YtjahkdomofhfgaaTk
import Derived.NoCompiler
namespace Go.Proofs.Ytjahkdomofhfgaa
open Go.RowKit
set_option linter.unusedVariables false
set_option linter.unusedSimpArgs false

abbrev nums (L : Nat) (Z : Nat → Int) : List Value := (List.range L).map fun c => I (Z c)
theorem nums_one (L : Nat) (Z : Nat → Int) : ∀ u ∈ nums L Z, u.oneCell' = true := by
  intro u hu
  obtain ⟨c, _, rfl⟩ := List.mem_map.1 hu
  rfl
theorem Sl.nums {w : World} {b : Addr} {L : Nat} {Z : Nat → Int} (h : Sl w (some b) L Z) : ∀ j u, (nums L Z)[j]? = some u → w.cell? (b.add j) = some u := by
  intro j u hj
  have hjl : j < L := by
    have := (List.getElem?_eq_some_iff.1 hj).1
    simpa using this
  have hu : u = I (Z j) := by simpa [nums, hjl] using hj.symm
  rw [hu]
  exact h.cell b rfl j hjl

/-- 'append([]int{}, l...)': a new list, nothing that was there is turned. -/
theorem append_fresh {P : Program} {t e : TypeId} {i : TypeInfo} (ht : P.underlying t = some (.slice e)) (hi : P.info? e = some i) (hz : i.zero = some (I 0)) (hsz : i.size = 1) (hby : i.bytes = 8) (w : World) (ty : TypeId) {B g : Nat} (hg : w.heap[g]? = some (.cells #[] e (0, 0))) (hB : B ≤ g)
    {a : Option Addr} {m c : Nat} {Z : Nat → Int} (hs : Sl w a m Z) (hn : a = none → m = 0 ∧ c = 0) (hm : m ≤ 2 ^ 40) :
    ∃ v' w', (Builtin.append_ #[t, t] ty #[.slice (some ⟨g, 0, none⟩) 0 0, .slice a m c]).run P w = .ok v' w' ∧ w'.ownsRow B e 1 v' m (nums m Z) ∧ Below w.heap.size w w' := by
  have hgl : g < w.heap.size := (Array.getElem?_eq_some_iff.1 hg).1
  have hown : w.ownsRow B e 1 (.slice (some ⟨g, 0, none⟩) 0 0) 0 [] := ⟨by simp, .inr ⟨g, 0, #[], rfl, hB, hg, Nat.le_refl _, by decide, by simp, by simp⟩⟩
  cases a with
  | none =>
    obtain ⟨rfl, rfl⟩ := hn rfl
    exact ⟨_, _, run_append_owned_none (P := P) (w := w) B t ty e i 1 ht hi _ 0 [] hown, by simpa [nums] using hown, Below.refl _ _⟩
  | some b =>
    obtain ⟨v', w', hrun, ho, hgr, _⟩ := run_append_own (P := P) w B t ty e i (I 0) 1 8 ht hi hz hsz hby rfl (by decide) _ 0 [] hown b m c (nums m Z) (by simp) hs.nums (nums_one _ _) (by unfold maxLen; omega) (by omega) (by omega)
    refine ⟨v', w', hrun, by simpa using ho, ?_⟩
    by_cases h0 : m = 0
    · subst h0
      have hr := run_append_room (P := P) w t ty e i ht hi g 0 0 #[] hg b 0 c [] (by simp) (by simp) (by simp) (by omega) (by simp)
      have e1 : (nums 0 Z) = [] := rfl
      rw [hrun] at hr
      simp only [Result.ok.injEq] at hr
      obtain ⟨_, rfl⟩ := hr
      refine ⟨rfl, rfl, rfl, by simp, fun k hk => ?_⟩
      by_cases e2 : k = g
      · subst e2
        rw [setRow_heap w k #[] _ e (0, 0) hg, hg]
        simp
      · exact setRow_other w g k _ e2
    · have hr := run_append_grow (P := P) w t ty e i (I 0) ht hi hz ⟨g, 0, none⟩ 0 0 [] (by simp) (by simp) b m c (nums m Z) (by simp [hsz]) hs.nums (by omega) (by omega) (growslice_fits (by omega) (by rw [hby]; omega))
      rw [hrun] at hr
      simp only [Result.ok.injEq] at hr
      obtain ⟨_, rfl⟩ := hr
      exact ⟨rfl, rfl, rfl, by simp, fun k hk => Deep.blk_alloc_lt w.drew _ k hk⟩

/-- the cells of the copied rules -/
def flat (F G : Nat → Int) (V : Nat → Nat → Value) (k : Nat) : List Value := (List.range k).flatMap fun r => [I (F r), V r 0, I (G r), V r 1, V r 2]
theorem flat_len (F G : Nat → Int) (V : Nat → Nat → Value) : ∀ k, (flat F G V k).length = k * 5
  | 0 => rfl
  | k + 1 => by
    have := flat_len F G V k
    simp only [flat, List.range_succ, List.flatMap_append, List.length_append] at this ⊢
    rw [this]
    simp
    omega
theorem flat_succ (F G : Nat → Int) (V : Nat → Nat → Value) (k : Nat) : flat F G V (k + 1) = flat F G V k ++ [I (F k), V k 0, I (G k), V k 1, V k 2] := by
  simp [flat, List.range_succ, List.flatMap_append]
theorem flat_congr {F G : Nat → Int} {V V' : Nat → Nat → Value} : ∀ {k : Nat}, (∀ r, r < k → V r = V' r) → flat F G V k = flat F G V' k
  | 0, _ => rfl
  | k + 1, h => by rw [flat_succ, flat_succ, flat_congr (fun r hr => h r (by omega)), h k (by omega)]
theorem flat_get (F G : Nat → Int) (V : Nat → Nat → Value) : ∀ k r, r < k → (flat F G V k)[r * 5]? = some (I (F r)) ∧ (flat F G V k)[r * 5 + 1]? = some (V r 0) ∧ (flat F G V k)[r * 5 + 2]? = some (I (G r)) ∧ (flat F G V k)[r * 5 + 3]? = some (V r 1) ∧ (flat F G V k)[r * 5 + 4]? = some (V r 2)
  | 0, r, h => by omega
  | k + 1, r, h => by
    rw [flat_succ]
    have hl := flat_len F G V k
    by_cases e : r = k
    · subst e
      refine ⟨?_, ?_, ?_, ?_, ?_⟩ <;> rw [List.getElem?_append_right (by omega)] <;> simp [hl]
    · obtain ⟨h0, h1, h2, h3, h4⟩ := flat_get F G V k r (by omega)
      refine ⟨?_, ?_, ?_, ?_, ?_⟩ <;> rw [List.getElem?_append_left (by omega)] <;> assumption

/-- what has been copied of a machine: k rules -/
structure Cm (B : Nat) (wr : World) (v : Value) (k : Nat) (F G : Nat → Int) (V : Nat → Nat → Value) (L : Nat → Nat → Nat) (Z : Nat → Nat → Nat → Int) : Prop where
  outer : wr.ownsRow B 48 5 v k (flat F G V k)
  rows : ∀ r, r < k → ∀ q, q < 3 → wr.ownsRow B 3 1 (V r q) (L r q) (nums (L r q) (Z r q))
theorem own_lt {w : World} {B e s n : Nat} {v : Value} {xs : List Value} (h : w.ownsRow B e s v n xs) : ∀ x, v.ownBlock = some x → x < w.heap.size := fun x hx => (h.lt x hx).2
theorem own_below {w w' : World} {B e s n : Nat} {v : Value} {xs : List Value} (h : w.ownsRow B e s v n xs) (hb : Below w.heap.size w w') : w'.ownsRow B e s v n xs :=
  h.kept (row := none) ⟨hb.os, hb.tape, hb.output, hb.size, fun k hk _ => hb.block k hk⟩ (by cases hv : v.ownBlock <;> simp)
theorem Cm.keep {B : Nat} {wr w' : World} {v : Value} {k : Nat} {F G : Nat → Int} {V : Nat → Nat → Value} {L : Nat → Nat → Nat} {Z : Nat → Nat → Nat → Int} (h : Cm B wr v k F G V L Z) (hb : Below wr.heap.size wr w') : Cm B w' v k F G V L Z :=
  ⟨own_below h.outer hb, fun r hr q hq => own_below (h.rows r hr q hq) hb⟩
theorem own_shape5 {w : World} {B e s n : Nat} {v : Value} {xs : List Value} (h : w.ownsRow B e s v n xs) : ∃ a c, v = .slice a n c := by
  rcases h.2 with ⟨rfl, rfl⟩ | ⟨g, cap, cur, rfl, _⟩
  · exact ⟨_, _, rfl⟩
  · exact ⟨_, _, rfl⟩
theorem own_kind5 {w : World} {B e e' s s' n n' g g' : Nat} {v v' : Value} {xs xs' : List Value} (h : w.ownsRow B e s v n xs) (h' : w.ownsRow B e' s' v' n' xs') (hne : e ≠ e') (hg : v.ownBlock = some g) (hg' : v'.ownBlock = some g') : g ≠ g' := by
  rcases h.2 with ⟨rfl, rfl⟩ | ⟨b, cap, cur, rfl, _, hb, _⟩
  · simp [Value.ownBlock] at hg
  rcases h'.2 with ⟨rfl, rfl⟩ | ⟨b', cap', cur', rfl, _, hb', _⟩
  · simp [Value.ownBlock] at hg'
  simp [Value.ownBlock] at hg hg'
  subst hg hg'
  intro e0
  subst e0
  rw [hb] at hb'
  simp at hb'
  exact hne hb'.2
theorem Cm.step {B : Nat} {w w1 : World} {v v' u0 u1 u2 : Value} {k : Nat} {F G : Nat → Int} {V : Nat → Nat → Value} {L : Nat → Nat → Nat} {Z : Nat → Nat → Nat → Int} (h : Cm B w v k F G V L Z) (h0 : w.ownsRow B 3 1 u0 (L k 0) (nums (L k 0) (Z k 0))) (h1 : w.ownsRow B 3 1 u1 (L k 1) (nums (L k 1) (Z k 1))) (h2 : w.ownsRow B 3 1 u2 (L k 2) (nums (L k 2) (Z k 2)))
    (ho : w1.ownsRow B 48 5 v' (k + 1) (flat F G V k ++ [I (F k), u0, I (G k), u1, u2])) (hg : w.grownBy w1 v.ownBlock) :
    Cm B w1 v' (k + 1) F G (fun r q => if r = k then (if q = 0 then u0 else if q = 1 then u1 else u2) else V r q) L Z := by
  have hk : ∀ {x : Value} {n : Nat} {xs : List Value}, w.ownsRow B 3 1 x n xs → w1.ownsRow B 3 1 x n xs := fun {x n xs} hx => by
    refine hx.kept hg ?_
    cases e1 : x.ownBlock with
    | none => exact .inl rfl
    | some a =>
      right
      intro e2
      exact own_kind5 hx h.outer (by decide) e1 e2.symm rfl
  refine ⟨?_, fun r hr q hq => ?_⟩
  · rw [flat_succ]
    simp only [if_pos rfl]
    rw [flat_congr (V' := V) (fun r hr => by funext q; rw [if_neg (by omega)])]
    exact ho
  · by_cases e : r = k
    · subst e
      simp only [if_pos rfl]
      match q, hq with
      | 0, _ => exact hk h0
      | 1, _ => exact hk h1
      | 2, _ => exact hk h2
    · simp only [if_neg e]
      exact hk (h.rows r (by omega) q hq)
theorem Cm.zero (B : Nat) (wr : World) (F G : Nat → Int) (V : Nat → Nat → Value) (L : Nat → Nat → Nat) (Z : Nat → Nat → Nat → Int) : Cm B wr (.slice none 0 0) 0 F G V L Z := ⟨World.ownsRow_nil _ _ _ _, fun r hr => by omega⟩
theorem Cm.mg {B : Nat} {wr : World} {v : Value} {k : Nat} {F G : Nat → Int} {V : Nat → Nat → Value} {L : Nat → Nat → Nat} {Z : Nat → Nat → Nat → Int} (h : Cm B wr v k F G V L Z) (hk : k ≤ 2 ^ 50) (hL : ∀ r, r < k → ∀ q, q < 3 → L r q ≤ 2 ^ 50) : ∃ A C, Mg wr v k F G A L C Z := by
  have each : ∀ r q, ∃ y : Option Addr × Nat, r < k → q < 3 → V r q = .slice y.1 (L r q) y.2 ∧ L r q ≤ y.2 ∧ (y.1 = none → y.2 = 0) ∧ ∀ b, y.1 = some b → ∀ c, c < L r q → wr.cell? (b.add c) = some (I (Z r q c)) := by
    intro r q
    by_cases hr : r < k ∧ q < 3
    · have hrow := h.rows r hr.1 q hr.2
      rcases hrow.2 with ⟨e, hl⟩ | ⟨g, cap, cur, e, hb, hh, hn, hc, hs, ht⟩
      · exact ⟨(none, 0), fun _ _ => ⟨by rw [e, hl], by omega, fun _ => rfl, fun b hb => by cases hb⟩⟩
      · refine ⟨(some ⟨g, 0, none⟩, cap), fun _ _ => ⟨e, hn, by simp, fun b hb => ?_⟩⟩
        cases hb
        intro c hc
        exact hrow.cells (g := g) (by rw [e]; rfl) c _ (by simp [hc])
    · exact ⟨(none, 0), fun h h' => absurd ⟨h, h'⟩ hr⟩
  refine ⟨fun r q => (Classical.choose (each r q)).1, fun r q => (Classical.choose (each r q)).2, ⟨own_shape5 h.outer, fun hk0 => ?_, hk, fun r hr q hq => ?_⟩⟩
  · rcases h.outer.2 with ⟨rfl, rfl⟩ | ⟨g, cap, cur, e, hb, hh, hn, hc, hs, ht⟩
    · omega
    · refine ⟨g, 0, cap, e, fun r hr => ?_⟩
      have hcell := h.outer.cells (g := g) (by rw [e]; rfl)
      obtain ⟨h0, h1, h2, h3, h4⟩ := flat_get F G V k r hr
      have c0 := hcell _ _ h0
      have c1 := hcell _ _ h1
      have c2 := hcell _ _ h2
      have c3 := hcell _ _ h3
      have c4 := hcell _ _ h4
      rw [(Classical.choose_spec (each r 0) hr (by omega)).1] at c1
      rw [(Classical.choose_spec (each r 1) hr (by omega)).1] at c3
      rw [(Classical.choose_spec (each r 2) hr (by omega)).1] at c4
      simp only [Addr.add_lit, Nat.zero_add] at c0 c1 c2 c3 c4 ⊢
      exact ⟨c0, c1, c2, c3, c4⟩
  · have H := Classical.choose_spec (each r q) hr hq
    exact ⟨H.2.1, hL r hr q hq, H.2.2.1, H.2.2.2⟩

end Go.Proofs.Ytjahkdomofhfgaa
