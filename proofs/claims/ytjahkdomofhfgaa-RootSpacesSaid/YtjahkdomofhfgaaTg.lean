/- The path with four nodes, as the law's own function makes it; the examples hold. -/
import Derived.Test.YtjahkdomofhfgaaTf
import Derived.LoopN
namespace Go.Proofs.Ytjahkdomofhfgaa
open Go.RowKit
set_option linter.unusedVariables false
set_option linter.unusedSimpArgs false

theorem Try.info27 : (Try.prog.info? 27).map (fun i => (i.zero, i.size, i.bytes)) = some (some (.slice none 0 0), 1, 24) := by kernel_rfl

def L1 (r : Nat) : Nat := if r = 0 then 0 else 1
def Z1 (r c : Nat) : Int := r - 1
set_option maxHeartbeats 8000000 in
theorem path_any (w : World) : Calls Try.prog 15 #[I 4] w fun e w' => ∃ v A C, e = .returned v ∧ Dg w' v 4 A L1 C Z1 ∧ Below w.heap.size w w' := by
  have hmk : ∀ w : World, (Instr.makeSlice 23 (.int .i64 4) (.int .i64 4)).run Try.prog w = .ok (.slice (some ⟨w.heap.size, 0, none⟩) 4 4) (w.alloc (.cells #[.slice none 0 0, .slice none 0 0, .slice none 0 0, .slice none 0 0] 27)) := by
    have h : madeCells #[Value.slice none 0 0] 4 = #[.slice none 0 0, .slice none 0 0, .slice none 0 0, .slice none 0 0] := by
      apply Array.ext'
      simp only [madeCells, Array.toList_map, Array.toList_range]
      rfl
    rw [← h]
    exact run_make_row' (P := Try.prog) 23 27 (.slice none 0 0) 24 Try.underlying23 Try.info27 rfl .i64 .i64 4 (by omega) (by omega)
  go_enter Try.func15, Try.ntmps15
  go_wp2
  refine wp_loop_rounds 4 ?_
  rw [rounds_succ]; go_wp2
  rw [rounds_succ]; go_wp2
  rw [rounds_succ]; go_wp2
  rw [rounds_succ]; go_wp2
  go_ret
  refine ⟨_, fun r => if r = 0 then none else some ⟨w.heap.size + r, 0, none⟩, fun r => if r = 0 then 0 else 1, rfl, ⟨⟨_, 4, rfl, by omega, by decide, by simp, ?_⟩, by omega, ?_⟩, ?_⟩
  · intro b hb
    cases hb
    intro r hr
    match r, hr with
    | 0, _ => simp [go_sem, Addr.add, L1, Z1]
    | 1, _ => simp [go_sem, Addr.add, L1, Z1]
    | 2, _ => simp [go_sem, Addr.add, L1, Z1]
    | 3, _ => simp [go_sem, Addr.add, L1, Z1]
  · intro r hr
    refine ⟨by simp [L1], by unfold L1; split <;> omega, by simp, fun b hb => ?_⟩
    match r, hr with
    | 0, _ => simp at hb
    | 1, _ =>
      simp at hb
      subst hb
      intro c hc
      obtain rfl : c = 0 := by simpa [L1] using hc
      simp [go_sem, Addr.add, L1, Z1]
    | 2, _ =>
      simp at hb
      subst hb
      intro c hc
      obtain rfl : c = 0 := by simpa [L1] using hc
      simp [go_sem, Addr.add, L1, Z1]
    | 3, _ =>
      simp at hb
      subst hb
      intro c hc
      obtain rfl : c = 0 := by simpa [L1] using hc
      simp [go_sem, Addr.add, L1, Z1]
  · exact (((((Below.refl _ _).alloc (Nat.le_refl _) _).alloc (by simp) _).alloc (by simp; omega) _).alloc (by simp; omega) _)

theorem out1 : Out 4 L1 Z1 3 4 4 0 := by
  refine .inr (.inr (.inr ⟨⟨by omega, by omega, fun v hv i hi => ?_⟩, 3, by omega, rfl, by decide +kernel, by decide +kernel, by decide +kernel, rfl⟩))
  have : i = 0 ∧ v ≠ 0 := by
    unfold L1 at hi
    split at hi <;> omega
  unfold okAt Z1
  exact ⟨by omega, by omega, fun h => by omega⟩

def L2 (r : Nat) : Nat := if r < 3 then 0 else 2
def Z2 (r c : Nat) : Int := if r = 3 then c else if r = 4 then c + 1 else c + 3
theorem out2 : Out 6 L2 Z2 5 7 3 0 := by
  refine .inr (.inr (.inr ⟨⟨by omega, by omega, fun v hv i hi => ?_⟩, 5, by omega, rfl, by decide +kernel, by decide +kernel, by decide +kernel, rfl⟩))
  unfold L2 at hi
  unfold okAt Z2
  (repeat' split at hi) <;> (repeat' split) <;> omega

set_option maxHeartbeats 2000000 in
theorem lit_any (w : World) : Dg (((((((w.alloc (Obj.cells #[] 3)).alloc (Obj.cells #[] 3)).alloc (Obj.cells #[] 3)).alloc (Obj.cells #[I 0, I 1] 3)).alloc (Obj.cells #[I 1, I 2] 3)).alloc (Obj.cells #[I 3, I 4] 3)).alloc (Obj.cells #[Value.slice (some { block := w.heap.size, off := 0 }) 0 0, Value.slice (some { block := w.heap.size + 1, off := 0 }) 0 0, Value.slice (some { block := w.heap.size + 1 + 1, off := 0 }) 0 0, Value.slice (some { block := w.heap.size + 1 + 1 + 1, off := 0 }) 2 2, Value.slice (some { block := w.heap.size + 1 + 1 + 1 + 1, off := 0 }) 2 2, Value.slice (some { block := w.heap.size + 1 + 1 + 1 + 1 + 1, off := 0 }) 2 2] 27)) (.slice (some ⟨w.heap.size + 1 + 1 + 1 + 1 + 1 + 1, 0, none⟩) 6 6) 6 (fun r => some ⟨w.heap.size + r, 0, none⟩) L2 L2 Z2 ∧ Below w.heap.size w (((((((w.alloc (Obj.cells #[] 3)).alloc (Obj.cells #[] 3)).alloc (Obj.cells #[] 3)).alloc (Obj.cells #[I 0, I 1] 3)).alloc (Obj.cells #[I 1, I 2] 3)).alloc (Obj.cells #[I 3, I 4] 3)).alloc (Obj.cells #[Value.slice (some { block := w.heap.size, off := 0 }) 0 0, Value.slice (some { block := w.heap.size + 1, off := 0 }) 0 0, Value.slice (some { block := w.heap.size + 1 + 1, off := 0 }) 0 0, Value.slice (some { block := w.heap.size + 1 + 1 + 1, off := 0 }) 2 2, Value.slice (some { block := w.heap.size + 1 + 1 + 1 + 1, off := 0 }) 2 2, Value.slice (some { block := w.heap.size + 1 + 1 + 1 + 1 + 1, off := 0 }) 2 2] 27)) := by
  refine ⟨⟨⟨_, 6, rfl, by omega, by decide, by simp, ?_⟩, by omega, ?_⟩, ?_⟩
  · intro b hb
    cases hb
    intro r hr
    match r, hr with
    | 0, _ => simp [go_sem, Addr.add, L2]
    | 1, _ => simp [go_sem, Addr.add, L2]
    | 2, _ => simp [go_sem, Addr.add, L2]
    | 3, _ => simp [go_sem, Addr.add, L2]
    | 4, _ => simp [go_sem, Addr.add, L2]
    | 5, _ => simp [go_sem, Addr.add, L2]
  · intro r hr
    refine ⟨Nat.le_refl _, by unfold L2; split <;> omega, by simp, fun b hb => ?_⟩
    match r, hr with
    | 0, _ =>
      simp at hb
      subst hb
      intro c hc
      simp [L2] at hc
    | 1, _ =>
      simp at hb
      subst hb
      intro c hc
      simp [L2] at hc
    | 2, _ =>
      simp at hb
      subst hb
      intro c hc
      simp [L2] at hc
    | 3, _ =>
      simp at hb
      subst hb
      intro c hc
      simp [L2] at hc
      match c, hc with
      | 0, _ => simp [go_sem, Addr.add, L2, Z2]
      | 1, _ => simp [go_sem, Addr.add, L2, Z2]
    | 4, _ =>
      simp at hb
      subst hb
      intro c hc
      simp [L2] at hc
      match c, hc with
      | 0, _ => simp [go_sem, Addr.add, L2, Z2]
      | 1, _ => simp [go_sem, Addr.add, L2, Z2]
    | 5, _ =>
      simp at hb
      subst hb
      intro c hc
      simp [L2] at hc
      match c, hc with
      | 0, _ => simp [go_sem, Addr.add, L2, Z2]
      | 1, _ => simp [go_sem, Addr.add, L2, Z2]
  · refine Below.alloc ?_ (by simp; try omega) _
    refine Below.alloc ?_ (by simp; try omega) _
    refine Below.alloc ?_ (by simp; try omega) _
    refine Below.alloc ?_ (by simp; try omega) _
    refine Below.alloc ?_ (by simp; try omega) _
    refine Below.alloc ?_ (by simp; try omega) _
    exact (Below.refl _ _).alloc (Nat.le_refl _) _

set_option maxHeartbeats 8000000 in
theorem awake_any (w : World) : Calls Try.prog 6 #[] w fun e w' => e = .returned (.bool true) ∧ Below w.heap.size w w' := by
  go_enter Try.func6, Try.ntmps6
  go_upto_region 2 with (first
    | (go_at_call 15; refine (path_any _).mono ?_; rintro e w1 ⟨v, A, C, rfl, hd, hb⟩)
    | (go_at_call 9; refine (root_any hd out1).mono ?_; rintro e w2 ⟨rfl, hb2⟩))
  have HL := Lib.hid (lit_any w2)
  go_wp2_with (first
    | (go_at_call 9; refine (root_any HL.out.1 out2).mono ?_; rintro e w3 ⟨rfl, hb3⟩))
  go_ret
  exact ⟨rfl, (hb.trans (hb2.mono hb.size)).trans ((HL.out.2.mono (Nat.le_trans hb.size hb2.size)).trans (hb3.mono (Nat.le_trans (Nat.le_trans hb.size hb2.size) HL.out.2.size)))⟩

end Go.Proofs.Ytjahkdomofhfgaa
