/- The reference's Depth at any tree; What Depth answers for any tree. -/
import Derived.Test.YtpfbommaddaijaaZax10
import Derived.Test.YtpfbommaddaijaaZaQi
namespace Go.Proofs.Ytpfbommaddaijaa
open Go.RowKit Go.Proofs.YtpfbommaddaijaaW.PrintWords Go.Proofs.YtpfbommaddaijaaW.PrintLast PBoundTo
set_option linter.unusedVariables false
set_option linter.unusedSimpArgs false

theorem dpG_val {d M : Nat} {y : S32} {r : List S32} (hM : 0 < M) : max (max d (1 + min (dpt y) (M - 1))) (min (dptL r) M) = max d (min (dptL (y :: r)) M) := by rw [dptL_cons]; omega
theorem dpG_step {d M : Nat} {y : S32} (hM : M ≤ 61) : mx (d : Int) (wrap64 (1 + ((min (dpt y) (M - 1) : Nat) : Int))) = ((max d (1 + min (dpt y) (M - 1)) : Nat) : Int) := by
  rw [wr_one (by omega)]; unfold mx; split <;> omega
theorem dpG_loop {M : Nat} (hM : M ≤ 61) (f1 f2 : Int) (f3 : List Bool) (l : List S32) (hl : l.length ≤ 9223372036854775807)
    (he : ∀ i, i < l.length → 0 < M → Ev (fun k => commodatumref23_depth.f k (rd_T32 l i).f0 (rd_T32 l i).f1 (rd_T32 l i).f2 (rd_T32 l i).f3 (rd_T32 l i).f4 ((M - 1 : Nat) : Int)) ((min (dpt (rd_T32 l i)) (M - 1) : Nat) : Int)) :
    ∀ (j i d : Nat), l.length - i = j → i ≤ l.length → d ≤ 61 → Ev (fun k => commodatumref23_depth.l0 k M d i false f1 f2 f3 l) ((max d (min (dptL (l.drop i)) M) : Nat) : Int) := by
  intro j
  induction j with
  | zero =>
    intro i d hj hi hd
    have : i = l.length := by omega
    subst this
    rw [List.drop_length, dptL_nil]
    refine Ev.step (f := fun _ => some ((d : Nat) : Int)) (fun k => ?_) ?_
    · simp only [commodatumref23_depth.l0]; rw [if_neg (by omega)]
    · rw [show max d (min 0 M) = d by omega]; exact Ev.now _
  | succ j ih =>
    intro i d hj hi hd
    have hin : i < l.length := by omega
    by_cases hM0 : M = 0
    · subst hM0
      refine Ev.step (f := fun _ => some ((d : Nat) : Int)) (fun k => ?_) ?_
      · simp only [commodatumref23_depth.l0]; rw [if_pos (by omega), if_neg (by decide), if_neg (by omega)]
      · rw [show max d (min (dptL (l.drop i)) 0) = d by omega]; exact Ev.now _
    · have hw1 : wrap64 ((M : Int) - 1) = ((M - 1 : Nat) : Int) := wr_pred (by omega) hM
      have hh := he i hin (by omega)
      have hdr := drop_rd l i hin
      have hval := dpG_val (d := d) (y := rd_T32 l i) (r := l.drop (i + 1)) (M := M) (by omega)
      have hih := ih (i + 1) (max d (1 + min (dpt (rd_T32 l i)) (M - 1))) (by omega) (by omega) (by omega)
      rw [hval, ← hdr] at hih
      have hw2 : wrap64 ((i : Int) + 1) = ((i + 1 : Nat) : Int) := wr_lt hin hl
      have hs := dpG_step (y := rd_T32 l i) (d := d) (M := M) hM
      have c1 : (i : Int) < (l.length : Int) := Int.ofNat_lt.2 hin
      have c2 : (M : Int) > 0 := Int.ofNat_lt.2 (Nat.pos_of_ne_zero hM0)
      have c3 : (0 : Int) ≤ (i : Int) := Int.natCast_nonneg i
      refine Ev.step (f := fun k => (commodatumref23_depth.f k (rd_T32 l i).f0 (rd_T32 l i).f1 (rd_T32 l i).f2 (rd_T32 l i).f3 (rd_T32 l i).f4 ((M - 1 : Nat) : Int)).bind fun t => commodatumref23_depth.l0 k M (mx d (wrap64 (1 + t))) ((i + 1 : Nat) : Int) false f1 f2 f3 l) (fun k => ?_) ?_
      · simp only [commodatumref23_depth.l0]
        rw [if_pos c1, if_neg (by decide), if_pos c2, if_pos c3, hw1, hw2]
      · refine Ev.bind hh ?_
        rw [hs]
        exact hih
theorem dpG_ev : ∀ (m : Nat) (x : S32) (M : Nat), hg x < m → M ≤ 61 → wg x ≤ 400000 → Ev (fun k => commodatumref23_depth.f k x.f0 x.f1 x.f2 x.f3 x.f4 M) ((min (dpt x) M : Nat) : Int) := by
  intro m
  induction m with
  | zero => intro x M h; exact absurd h (by omega)
  | succ m ih =>
    intro x M hm hM hw
    refine Ev.step (f := fun k => commodatumref23_depth.l0 k M 0 0 x.f0 x.f1 x.f2 x.f3 x.f4) (fun k => by simp only [commodatumref23_depth.f]) ?_
    have hl := len_kids hw
    have hk := wg_kids x
    have hx := hg_eq x
    have hd := dpt_eq x
    cases hf : x.f0 with
    | true =>
      rw [hf, if_pos rfl] at hd
      refine Ev.step (f := fun _ => some 0) (fun k => ?_) ?_
      · simp only [commodatumref23_depth.l0]
        by_cases h0 : (0 : Int) < (x.f4.length : Int)
        · rw [if_pos h0, if_pos (by decide)]
        · rw [if_neg h0]
      · rw [show ((min (dpt x) M : Nat) : Int) = 0 by rw [hd]; simp]; exact Ev.now _
    | false =>
      rw [hf, if_neg (by decide)] at hd
      have h := dpG_loop hM x.f1 x.f2 x.f3 x.f4 (by omega) (fun i hi hM0 => ih (rd_T32 x.f4 i) (M - 1) (by have := hg_kid x.f4 i hi; omega) (by omega) (by have := wg_kid x.f4 i hi; omega)) x.f4.length 0 0 (by omega) (by omega) (by omega)
      rw [List.drop_zero, ← hd, show max 0 (min (dpt x) M) = min (dpt x) M by omega] at h
      exact h
theorem refDepth_gen {W : World} {x : S32} {A3 A4 : Option Addr} {c3 c4 : Nat} (hv0 : hv 0 0 x = false) (h3 : Kd.C Kd.bool W A3 x.f3.length x.f3) (l3 : x.f3.length ≤ c3) (h4 : Kd.C k32 W A4 x.f4.length x.f4) (l4 : x.f4.length ≤ c4) :
    Calls Try.prog 24 #[.agg #[.bool x.f0, I x.f1, I x.f2, .slice A3 x.f3.length c3, .slice A4 x.f4.length c4]] W fun e W' => e = .returned (I ((min (dpt x) 61 : Nat) : Int)) ∧ Below W.heap.size W W' := by
  obtain ⟨k, hk⟩ := (dpG_ev (hg x + 1) x 61 (by omega) (by omega) (by have := hv_false.1 hv0; omega)).rounds
  exact commodatumref23_Depth.calls k _ _ _ A3 c3 _ A4 c4 _ _ W h3 l3 h4 l4 (by simp only [commodatumref23_Depth.f]; rw [show (61 : Int) = ((61 : Nat) : Int) from rfl, hk]; rfl)
end Go.Proofs.Ytpfbommaddaijaa

namespace Go.Proofs.Ytpfbommaddaijaa
open Go.RowKit Go.Maps Go.Proofs.YtpfbommaddaijaaW.PrintWords Go.Proofs.YtpfbommaddaijaaW.PrintLast PBoundTo
set_option linter.unusedVariables false
set_option linter.unusedSimpArgs false

theorem dm_new (W : World) : Dm (W.alloc (.map #[] 0)) W.heap.size [] := ⟨#[], 0, by show (W.heap.push _)[W.heap.size]? = _; simp, .nil, fun x h => by cases h⟩
set_option maxHeartbeats 2000000 in
theorem bDepth_any {W : World} {x : S32} {A3 A4 : Option Addr} {c3 c4 : Nat} (hR : KRow W x.f4 A4 c4) :
    Calls Try.prog 55 #[.agg #[.bool x.f0, I x.f1, I x.f2, .slice A3 x.f3.length c3, .slice A4 x.f4.length c4]] W fun e W' => e = .returned (I ((min (dpt x) 61 : Nat) : Int)) ∧ Below W.heap.size W W' := by
  obtain ⟨W1, hW1⟩ : ∃ W1, W1 = W.alloc (.cells #[.bool x.f0, I x.f1, I x.f2, .slice A3 x.f3.length c3, .slice A4 x.f4.length c4] 32) := ⟨_, rfl⟩
  have hB1 : Below W.heap.size W W1 := by rw [hW1]; exact below_alloc (Below.refl _ _) _
  have BK : W1.heap[W.heap.size]? = some (.cells #[.bool x.f0, I x.f1, I x.f2, .slice A3 x.f3.length c3, .slice A4 x.f4.length c4] 32 (0, 0)) := by rw [hW1]; exact blk_new _ _
  have k0 : W1.cell? ⟨W.heap.size, 0, none⟩ = some (.bool x.f0) := (blk_cell BK 0).trans rfl
  have k1 : W1.cell? ⟨W.heap.size, 1, none⟩ = some (I x.f1) := (blk_cell BK 1).trans rfl
  have k2 : W1.cell? ⟨W.heap.size, 2, none⟩ = some (I x.f2) := (blk_cell BK 2).trans rfl
  have k3 : W1.cell? ⟨W.heap.size, 3, none⟩ = some (.slice A3 x.f3.length c3) := (blk_cell BK 3).trans rfl
  have k4 : W1.cell? ⟨W.heap.size, 4, none⟩ = some (.slice A4 x.f4.length c4) := (blk_cell BK 4).trans rfl
  have hB2 : Below W.heap.size W (W1.alloc (.map #[] 0)) := below_alloc hB1 _
  have HB2 := Lib.hid hB2
  have HZ := Lib.hid hB1.size
  have HC := Lib.hid (depth_any W W1.heap.size hB1.size 60 (by decide) x (W1.alloc (.map #[] 0)) A3 A4 c3 c4 [] hR hB2 (dm_new W1) (fun e h => by cases h))
  unfold DpR at HC
  rw [show ((60 : Nat) : Int) = 60 from rfl] at HC
  have hmm := @run_makeMap Try.prog
  clear BK hB1 hB2
  go_enter Try.func55, Try.ntmps55
  go_upto_region 1 with fail
  rw [← hW1]
  clear hW1
  go_wp2_with (go_at_call 99; (with_reducible refine HC.out.mono ?_); rintro e w7 ⟨rfl, hg7, _⟩; have HG7 := Lib.hid hg7; clear hg7)
  go_ret
  exact ⟨rfl, pw_below_grown HB2.out _ HB2.out.size HG7.out (fun k hk => by cases hk; exact HZ.out)⟩
/-- the copy is a row in plain blocks -/
theorem CR.row {W w' : World} {x : S32} {e : Ending} (h : CR W x e w') : ∃ A3 c3 A4 c4, e = .returned (.agg #[.bool x.f0, I x.f1, I x.f2, .slice A3 x.f3.length c3, .slice A4 x.f4.length c4]) ∧ x.f3.length ≤ c3 ∧ Kd.C Kd.bool w' A3 x.f3.length x.f3 ∧ x.f4.length ≤ c4 ∧ Kd.C k32 w' A4 x.f4.length x.f4 ∧ KRow w' x.f4 A4 c4 ∧ Below W.heap.size W w' := by
  obtain ⟨A3, c3, A4, c4, he, h1, h2, h3, h4, ⟨ok, h5⟩, h6⟩ := h
  exact ⟨A3, c3, A4, c4, he, h1, h2, h3, h4, ⟨_, _, h5⟩, h6⟩
end Go.Proofs.Ytpfbommaddaijaa

