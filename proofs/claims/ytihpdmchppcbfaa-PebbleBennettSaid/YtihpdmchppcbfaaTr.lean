/- Count of whatever play; a play copied. -/
import Derived.Test.YtihpdmchppcbfaaTq
namespace Go.Proofs.Ytihpdmchppcbfaa
open Go.RowKit
set_option linter.unusedVariables false
set_option linter.unusedSimpArgs false

set_option maxHeartbeats 8000000 in
theorem count_any {w : World} {v pv : Value} {n : Nat} {A : Nat → Option Addr} {L C : Nat → Nat} {Z : Nat → Nat → Int} (hd : Dg w v n A L C Z) {ms : List (Bool × Int)} (hp : Pl w pv ms) (hl : ms.length ≤ 2 ^ 50) (rev : Bool) {N E : Int} (hres : CNT n L Z rev ms = (N, E)) :
    Calls Try.prog 27 #[v, pv, .bool rev] w fun e w' => e = .returned (.tuple #[I N, I E]) ∧ Below w.heap.size w w' := by
  by_cases hr : okDag n L Z
  · by_cases hmv : MV n ms
    · exact count_ok hd hr hp hmv rev (by rw [← hres, CNT, if_pos hr, if_pos hmv])
    · have he : N = 0 ∧ E = 2 := by
        rw [CNT, if_pos hr, if_neg hmv] at hres
        simp at hres
        exact ⟨hres.1.symm, hres.2.symm⟩
      obtain ⟨rfl, rfl⟩ := he
      clear hres
      have hn1000 := hr.2.1
      obtain ⟨a, cap, rfl⟩ : ∃ a cap, v = .slice a n cap := by
        obtain ⟨a, cap, h, _⟩ := hd.top
        exact ⟨a, cap, h⟩
      obtain ⟨pa, pc, rfl⟩ := hp.shape
      have HP := Lib.hid hp
      have hB0 : Below w.heap.size w (w.alloc (.cells #[.slice a n cap] 23)) := (Below.refl _ _).alloc (Nat.le_refl _) _
      have HV := Lib.hid (valid_any (hd.keep hB0) (r := true) (by simp [hr]))
      have HB0 := Lib.hid hB0
      have hc0 : Hid (∀ w1, Below (w.alloc (.cells #[.slice a n cap] 23)).heap.size (w.alloc (.cells #[.slice a n cap] 23)) w1 → w1.cell? ⟨w.heap.size, 0, none⟩ = some (.slice a n cap)) := Lib.hid (fun w1 hb => (hb.cell (p := ⟨w.heap.size, 0, none⟩) (by simp)).trans (by simp [go_sem]))
      by_cases hlen : ms.length ≤ 200000
      · have hex : ∃ i, i < ms.length ∧ ¬ okM n (ms.getD i dm) := by
          apply Classical.byContradiction
          intro hn
          exact hmv ⟨hlen, fun i hi => Classical.byContradiction fun h => hn ⟨i, hi, h⟩⟩
        have hgt : ¬ (200000 : Int) < ms.length := by omega
        have HC := Lib.hid (fun (w1 : World) (hb : Below (w.alloc (.cells #[.slice a n cap] 23)).heap.size (w.alloc (.cells #[.slice a n cap] 23)) w1) => cont35 (r := true) (Nat.lt_of_lt_of_le (by simp) hb.size) (hc0.out w1 hb) (by omega) (HP.out.keep (hB0.trans (hb.mono hB0.size))) (by omega) ⟨fun _ => hex, fun _ => rfl⟩)
        clear hex hmv hr hd hp hB0 hlen
        generalize ms.length = k at *
        go_enter Try.func27, Try.ntmps27
        go_wp2_with (first | (go_at_call 26; refine HV.out.mono ?_; rintro e w1 ⟨rfl, hb1⟩; have HB1 := Lib.hid hb1; clear hb1) | (go_at_call 35; refine (HC.out _ HB1.out).mono ?_; rintro e w2 ⟨rfl, hb2⟩; have HB2 := Lib.hid (HB1.out.trans (hb2.mono HB1.out.size)); clear hb2))
        go_ret2
        exact ⟨rfl, HB0.out.trans (HB2.out.mono HB0.out.size)⟩
      · have hgt : (200000 : Int) < ms.length := by omega
        clear hmv hr hd hp hB0 hlen
        generalize ms.length = k at *
        go_enter Try.func27, Try.ntmps27
        go_wp2_with (go_at_call 26; refine HV.out.mono ?_; rintro e w1 ⟨rfl, hb1⟩; have HB1 := Lib.hid hb1; clear hb1)
        go_ret2
        exact ⟨rfl, HB0.out.trans (HB1.out.mono HB0.out.size)⟩
  · have he : N = 0 ∧ E = 1 := by
      rw [CNT, if_neg hr] at hres
      simp at hres
      exact ⟨hres.1.symm, hres.2.symm⟩
    obtain ⟨rfl, rfl⟩ := he
    have hB0 : Below w.heap.size w (w.alloc (.cells #[v] 23)) := (Below.refl _ _).alloc (Nat.le_refl _) _
    have HV := Lib.hid (valid_any (hd.keep hB0) (r := false) (by simp [hr]))
    obtain ⟨a, cap, rfl⟩ : ∃ a cap, v = .slice a n cap := by
      obtain ⟨a, cap, h, _⟩ := hd.top
      exact ⟨a, cap, h⟩
    have HB0 := Lib.hid hB0
    clear hres hr hd hp hB0
    go_enter Try.func27, Try.ntmps27
    go_wp2_with (go_at_call 26; refine HV.out.mono ?_; rintro e w1 ⟨rfl, hb1⟩; have HB1 := Lib.hid hb1; clear hb1)
    go_ret2
    exact ⟨rfl, HB0.out.trans (HB1.out.mono HB0.out.size)⟩

theorem own_pl {w : World} {B n : Nat} {v : Value} {l : List (Bool × Int)} (h : w.ownsRow B 49 2 v n (mc l)) (hn : n = l.length) : Pl w v l := by
  subst hn
  rcases h.2 with ⟨h1, h0⟩ | ⟨g, cap, cur, h1, h2⟩
  · obtain rfl : l = [] := List.eq_nil_of_length_eq_zero h0
    rw [h1]
    exact Pl.nil w
  · rw [h1] at h
    obtain ⟨q1, q2, q3, q4, q5⟩ := own_mv h
    rw [h1]
    exact mv_pl q5 q3 q4
theorem add_one (b : Addr) (j : Nat) : b.add (j + 1) = ⟨(b.add j).block, (b.add j).off + 1, none⟩ := by
  unfold Addr.add
  by_cases h : j = 0
  · subst h; simp
  · simp [h, Nat.add_assoc]
theorem Pl.cells {w : World} {b : Addr} {c k : Nat} {l : List (Bool × Int)} (h : Pl w (.slice (some b) k c) l) : ∀ j u, (mc l)[j]? = some u → w.cell? (b.add j) = some u := by
  intro j u hj
  have hlt : j < l.length * 2 := by
    have := (List.getElem?_eq_some_iff.1 hj).1
    rwa [mc_len] at this
  have hi : j / 2 < l.length := by omega
  have hm := mc_get l (j / 2) hi
  obtain ⟨b', e, c0, c1⟩ := h.at' hi
  cases e
  rcases Nat.mod_two_eq_zero_or_one j with h2 | h2
  · have e : j = 2 * (j / 2) := by omega
    have e' : j / 2 * 2 = j := by omega
    rw [e'] at c0
    rw [← e] at hm
    rw [hm.1] at hj
    cases hj
    exact c0
  · have e : j = 2 * (j / 2) + 1 := by omega
    have e' : j / 2 * 2 + 1 = j := by omega
    rw [← add_one, e'] at c1
    rw [← e] at hm
    rw [hm.2] at hj
    cases hj
    exact c1
theorem mc_one : ∀ l, ∀ u ∈ mc l, u.oneCell' = true
  | [], u, h => by simp [mc] at h
  | m :: l, u, h => by
    simp only [mc, List.mem_cons] at h
    rcases h with rfl | rfl | h
    · rfl
    · rfl
    · exact mc_one l u h
/-- append([]Move{}, play...) -/
theorem wpList_copy_mv {w : World} {ops : Array Oper} {rest : List Oper} {o : Oper} {a : Act} {Q : Exit → Act → World → Prop} (hg : o.guard = none) (s x : Operand) (hop : o.op = Op.call { callee := Callee.builtin Builtin.append, args := #[s, x], argTypes := #[32, 32] })
    {pa : Option Addr} {k pc : Nat} {l : List (Bool × Int)} (hs : a.eval s = .slice (some ⟨w.heap.size, 0, none⟩) 0 0) (hx : a.eval x = .slice pa k pc) (hp : Pl w (.slice pa k pc) l) (hnil : pa = none → pc = 0) (hn : l.length * 16 ≤ 140737488355328)
    (hK : ∀ v' w', Pl w' v' l → Below w.heap.size w w' → wpList Try.prog ops Q rest (a.put o.dst v') w') : wpList Try.prog ops Q (o :: rest) a (w.alloc (.cells #[] 49)) := by
  obtain ⟨i0, hi, hz0, hz1, hz2⟩ := info_parts Try.info49
  obtain ⟨a', c', e1, _⟩ := hp.ex
  have hk : k = l.length := by cases e1; rfl
  subst hk
  have hB : Below w.heap.size w (w.alloc (.cells #[] 49)) := (Below.refl _ _).alloc (Nat.le_refl _) _
  cases pa with
  | none =>
    obtain rfl := hnil rfl
    have hl : l = [] := by
      obtain ⟨a', c', e1, _, _, e4, _⟩ := hp.ex
      cases e1
      exact e4 rfl
    subst hl
    refine wpList_append_own_none hg s x 32 hop w.heap.size 49 i0 2 Try.underlying32 hi _ 0 [] hs (World.ownsRow_made w #[] 0 (Nat.le_refl _) (by decide) rfl) hx ?_
    have h0 := World.ownsRow_made (base := w.heap.size) (e := 49) (size := 2) w #[] 0 (Nat.le_refl _) (by decide) rfl
    exact hK _ _ (own_pl (l := []) h0 rfl) hB
  | some b =>
    refine wpList_append_own _ hg s x 32 hop w.heap.size 49 i0 _ 2 16 Try.underlying32 hi hz0 hz1 hz2 rfl (by decide) _ 0 [] hs (World.ownsRow_made w #[] 0 (Nat.le_refl _) (by decide) rfl) b l.length pc (mc l) hx (mc_len l) (fun j u hj => cell_alloc (hp.cells j u hj) _) (mc_one l) (by unfold maxLen; omega) (by omega) (by simp) (fun v' w' ho hgr _ => ?_)
    refine hK v' w' (own_pl (by simpa using ho) (by simp)) (hB.grown hgr (by simp) (fun x hx => by cases hx; exact Nat.le_refl _))
end Go.Proofs.Ytihpdmchppcbfaa
