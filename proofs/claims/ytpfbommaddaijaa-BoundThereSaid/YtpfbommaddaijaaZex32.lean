/- What FromFormula answers; The law BoundFrom: the walk up to the answer. -/
import Derived.Test.YtpfbommaddaijaaZex29
import Derived.Test.YtpfbommaddaijaaZeV5
import Derived.Test.YtpfbommaddaijaaZex20
import Derived.Test.YtpfbommaddaijaaZeV8c
namespace Go.Proofs.Ytpfbommaddaijaa
open Go.RowKit Go.Proofs.YtpfbommaddaijaaW.PrintWords Go.Proofs.YtpfbommaddaijaaW.PrintLast PBoundTo
set_option linter.unusedVariables false
set_option linter.unusedSimpArgs false

abbrev pZero : Value := .agg #[.bool false, I 0, I 0, .slice none 0 0, .slice none 0 0]
def FfR (W : World) (q : Pt) (e : Ending) (w' : World) : Prop := ∃ A3 c3 A4 c4, e = .returned (.tuple #[pAgg q A3 A4 c3 c4, I 0]) ∧ Po w' q A3 A4 c3 c4 ∧ Below W.heap.size W w'
set_option maxHeartbeats 8000000 in
set_option maxRecDepth 100000 in
theorem ff_ok {W : World} {k m : Int} {A : Option Addr} {l c : Nat} {n : Nat} {vi s d : Int} {m2 : Nat} {S : Int} (HV : ∀ W', Below W.heap.size W W' → Calls Try.prog 91 #[.agg #[I k, I m, .slice A l c]] W' fun e W'' => e = .returned (.bool true) ∧ Below W'.heap.size W' W'') (hn1 : 1 ≤ n) (hn2 : n ≤ 12) (d3 : decide ((n : Int) < vi) = false) (HI : ∀ W', Below W.heap.size W W' → Calls Try.prog 92 #[.agg #[I k, I m, .slice A l c]] W' fun e W'' => e = .returned (I vi) ∧ Below W'.heap.size W' W'') (HW : ∀ W', Below W.heap.size W W' → Calls Try.prog 93 #[.agg #[I k, I m, .slice A l c]] W' fun e W'' => e = .returned (.bool true) ∧ Below W'.heap.size W' W'') (HS : ∀ W', Below W.heap.size W W' → Calls Try.prog 94 #[.agg #[I k, I m, .slice A l c]] W' fun e W'' => e = .returned (I s) ∧ Below W'.heap.size W' W'') (HD : ∀ W', Below W.heap.size W W' → Calls Try.prog 95 #[.agg #[I k, I m, .slice A l c]] W' fun e W'' => e = .returned (I d) ∧ Below W'.heap.size W' W'') (hs1 : 1 ≤ s) (hs2 : s ≤ 20000) (hm2 : (22 : Int) - n = m2) (hS : wrap64 ((2 : Int) ^ m2) = S) (q1 : decide ((20000 : Int) < 2 * s - 1) = false) (q2 : decide (S < s) = false) (q3 : decide ((60 : Int) < d) = false) {N : Nat} {q : Pt} {f : Nat → Bool} (HP : ∀ W', Below W.heap.size W W' → Calls Try.prog 96 #[.agg #[I k, I m, .slice A l c], .bool false, I n] W' (PrR W' N q f)) : Calls Try.prog 46 #[.agg #[I k, I m, .slice A l c], I n] W (FfR W q) := by
  replace HV := Lib.hid HV
  replace HI := Lib.hid HI
  replace HW := Lib.hid HW
  replace HS := Lib.hid HS
  replace HD := Lib.hid HD
  replace HP := Lib.hid HP
  obtain ⟨W0, hW0⟩ : ∃ W0, W0 = W.alloc (.cells #[I k, I m, .slice A l c] 24) := ⟨_, rfl⟩
  obtain ⟨W1, hW1⟩ : ∃ W1, W1 = W0.alloc (.cells #[.bool false, I 0, I 0, .slice none 0 0, .slice none 0 0] 32) := ⟨_, rfl⟩
  have hs0 : W0.heap.size = W.heap.size + 1 := by rw [hW0]; exact World.size_alloc _ _
  have HS1 : Hid (W.heap.size + 1 < W1.heap.size) := Lib.hid (by rw [hW1, World.size_alloc, hs0]; exact Nat.lt_succ_self _)
  have HB1 : Hid (Below W.heap.size W W1) := Lib.hid (by rw [hW1]; exact below_alloc (by rw [hW0]; exact below_alloc (Below.refl _ _) _) _)
  have BK : W1.heap[W.heap.size]? = some (.cells #[I k, I m, .slice A l c] 24 (0, 0)) := by rw [hW1]; exact blk_alloc (by rw [hW0]; exact blk_new _ _) _
  have HRB : Hid (W1.heap[W.heap.size + 1]? = some (.cells #[.bool false, I 0, I 0, .slice none 0 0, .slice none 0 0] 32 (0, 0))) := Lib.hid (by rw [hW1, ← hs0]; exact blk_new _ _)
  have k0 : W1.cell? ⟨W.heap.size, 0, none⟩ = some (I k) := (blk_cell BK 0).trans rfl
  have k1 : W1.cell? ⟨W.heap.size, 1, none⟩ = some (I m) := (blk_cell BK 1).trans rfl
  have k2 : W1.cell? ⟨W.heap.size, 2, none⟩ = some (.slice A l c) := (blk_cell BK 2).trans rfl
  clear BK
  have HR1 := HRB
  have d1 : decide ((n : Int) < 1) = false := decide_eq_false (by omega)
  have d2 : decide ((12 : Int) < (n : Int)) = false := decide_eq_false (by omega)
  have u1 : IntKind.i64.wrap (2 * s) = 2 * s := IntWalk.i64_in _ (by omega)
  have u2 : IntKind.i64.wrap (2 * s - 1) = 2 * s - 1 := IntWalk.i64_in _ (by omega)
  have u3 : IntKind.i64.wrap (22 - (n : Int)) = (m2 : Int) := by rw [hm2]; exact IntWalk.i64_in _ (by omega)
  have hm0 : (0 : Int) ≤ (m2 : Int) := by omega
  have hm64 : (m2 : Int) ≤ 22 := by omega
  clear hn1 hn2
  go_enter Try.func46, Try.ntmps46
  go_upto_region 1 with fail
  rw [← hW0, ← hW1]
  clear hW0 hW1 hs0
  go_upto_region 5 with (first | (go_at_call 91; (with_reducible refine (HV.out _ HB1.out).mono ?_); rintro e w2 ⟨rfl, hb⟩; have m0 := cell_keep' hb k0; have m1 := cell_keep' hb k1; have m2 := cell_keep' hb k2; clear k0 k1 k2; have HB2 := Lib.hid (HB1.out.trans (hb.mono HB1.out.size)); have HR2 := Lib.hid (blk_below HR1.out hb); clear hb) | (go_at_call 92; (with_reducible refine (HI.out _ HB2.out).mono ?_); rintro e w3 ⟨rfl, hb⟩; have n0 := cell_keep' hb m0; have n1 := cell_keep' hb m1; have n2 := cell_keep' hb m2; clear m0 m1 m2; have HB3 := Lib.hid (HB2.out.trans (hb.mono HB2.out.size)); have HR3 := Lib.hid (blk_below HR2.out hb); clear hb) | (go_at_call 93; (with_reducible refine (HW.out _ HB3.out).mono ?_); rintro e w4 ⟨rfl, hb⟩; have p0 := cell_keep' hb n0; have p1 := cell_keep' hb n1; have p2 := cell_keep' hb n2; clear n0 n1 n2; have HB4 := Lib.hid (HB3.out.trans (hb.mono HB3.out.size)); have HR4 := Lib.hid (blk_below HR3.out hb); clear hb))
  have e0 : ∀ x : Ext w4, x.val.cell? ⟨W.heap.size, 0, none⟩ = some (I k) := fun x => x.cell p0
  have e1 : ∀ x : Ext w4, x.val.cell? ⟨W.heap.size, 1, none⟩ = some (I m) := fun x => x.cell p1
  have e2 : ∀ x : Ext w4, x.val.cell? ⟨W.heap.size, 2, none⟩ = some (.slice A l c) := fun x => x.cell p2
  have HSX := Lib.hid (fun x : Ext w4 => x.call (HS.out x.val (HB4.out.trans (x.ok.mono HB4.out.size))))
  have HDX := Lib.hid (fun x : Ext w4 => x.call (HD.out x.val (HB4.out.trans (x.ok.mono HB4.out.size))))
  refine wp_region_ext (by kernel_rfl) (by kernel_rfl) ?_
  repeat (go_big_quiet_step (first
    | (go_at_call 94; with_reducible exact HSX.out _)
    | (go_at_call 95; with_reducible exact HDX.out _)))
  refine wpQuiet_nil ?_
  rintro _ ⟨x, rfl⟩
  have HB5 := Lib.hid (HB4.out.trans (x.ok.mono HB4.out.size))
  have HR5 := Lib.hid (blk_below HR4.out x.ok)
  have k0 := x.cell p0
  have k1 := x.cell p1
  have k2 := x.cell p2
  clear e0 e1 e2 p0 p1 p2
  generalize x.val = w5 at *
  go_upto_region 8 with (go_at_call 96; (with_reducible refine (HP.out _ HB5.out).mono ?_); rintro e w6 ⟨A3, c3, A4, c4, g, rfl, _, hg, hp, hb⟩; have HPO := Lib.hid hp; have HB6 := Lib.hid (HB5.out.trans (hb.mono HB5.out.size)); have HR6 := Lib.hid (blk_below HR5.out hb); clear hb hp hg)
  have HB7 := Lib.hid (below_alloc HB6.out (.cells #[.bool q.toS.f0, I q.toS.f1, I q.toS.f2, .slice A3 q.toS.f3.length c3, .slice A4 q.toS.f4.length c4] 32))
  have HR7 := Lib.hid (blk_alloc HR6.out (.cells #[.bool q.toS.f0, I q.toS.f1, I q.toS.f2, .slice A3 q.toS.f3.length c3, .slice A4 q.toS.f4.length c4] 32))
  have HPB : Hid ((w6.alloc (.cells #[.bool q.toS.f0, I q.toS.f1, I q.toS.f2, .slice A3 q.toS.f3.length c3, .slice A4 q.toS.f4.length c4] 32)).heap[w6.heap.size]? = some (.cells #[.bool q.toS.f0, I q.toS.f1, I q.toS.f2, .slice A3 q.toS.f3.length c3, .slice A4 q.toS.f4.length c4] 32 (0, 0))) := Lib.hid (blk_new _ _)
  have HK7 : Hid (∀ k, k < w6.heap.size → (w6.alloc (.cells #[.bool q.toS.f0, I q.toS.f1, I q.toS.f2, .slice A3 q.toS.f3.length c3, .slice A4 q.toS.f4.length c4] 32)).heap[k]? = w6.heap[k]?) := Lib.hid (fun k hk => ((Below.refl w6.heap.size w6).alloc (Nat.le_refl _) (.cells #[.bool q.toS.f0, I q.toS.f1, I q.toS.f2, .slice A3 q.toS.f3.length c3, .slice A4 q.toS.f4.length c4] 32)).block k hk)
  have HLT : Hid (W.heap.size + 1 < w5.heap.size) := Lib.hid (blk_lt HR5.out)
  clear k0 k1 k2
  generalize w6.alloc (.cells #[.bool q.toS.f0, I q.toS.f1, I q.toS.f2, .slice A3 q.toS.f3.length c3, .slice A4 q.toS.f4.length c4] 32) = w7 at *
  obtain ⟨gb, hgb⟩ : ∃ gb, gb = w6.heap.size := ⟨_, rfl⟩
  rw [← hgb] at HPB HK7 HPO ⊢
  clear hgb
  have z0 : w7.cell? ⟨gb, 0, none⟩ = some (.bool q.toS.f0) := (blk_cell HPB.out 0).trans rfl
  have z1 : w7.cell? ⟨gb, 1, none⟩ = some (I q.toS.f1) := (blk_cell HPB.out 1).trans rfl
  have z2 : w7.cell? ⟨gb, 2, none⟩ = some (I q.toS.f2) := (blk_cell HPB.out 2).trans rfl
  have z3 : w7.cell? ⟨gb, 3, none⟩ = some (.slice A3 q.toS.f3.length c3) := (blk_cell HPB.out 3).trans rfl
  have z4 : w7.cell? ⟨gb, 4, none⟩ = some (.slice A4 q.toS.f4.length c4) := (blk_cell HPB.out 4).trans rfl
  have r0 : w7.cell? ⟨W.heap.size + 1, 0, none⟩ = some (.bool false) := (blk_cell HR7.out 0).trans rfl
  have q0 := blk_frozen HR7.out 0
  have r1 : w7.cell? ⟨W.heap.size + 1, 1, none⟩ = some (I 0) := (blk_cell HR7.out 1).trans rfl
  have q1 := blk_frozen HR7.out 1
  have r2 : w7.cell? ⟨W.heap.size + 1, 2, none⟩ = some (I 0) := (blk_cell HR7.out 2).trans rfl
  have q2 := blk_frozen HR7.out 2
  have r3 : w7.cell? ⟨W.heap.size + 1, 3, none⟩ = some (.slice none 0 0) := (blk_cell HR7.out 3).trans rfl
  have q3 := blk_frozen HR7.out 3
  have r4 : w7.cell? ⟨W.heap.size + 1, 4, none⟩ = some (.slice none 0 0) := (blk_cell HR7.out 4).trans rfl
  have q4 := blk_frozen HR7.out 4
  go_wp2
  have HF := Lib.hid (blk_put5 (a := .bool q.toS.f0) (b := I q.toS.f1) (c := I q.toS.f2) (d := .slice A3 q.toS.f3.length c3) (e := .slice A4 q.toS.f4.length c4) HR7.out)
  have HBF := Lib.hid (below_put5 (a := .bool q.toS.f0) (b := I q.toS.f1) (c := I q.toS.f2) (d := .slice A3 q.toS.f3.length c3) (e := .slice A4 q.toS.f4.length c4) HB7.out (Nat.le_succ _))
  refine bodyPost_ret (results_ct (by rfl) _ _ (W.heap.size + 1) 32 #[.bool q.toS.f0, I q.toS.f1, I q.toS.f2, .slice A3 q.toS.f3.length c3, .slice A4 q.toS.f4.length c4] (0, 0) _ (by rfl) HF.out Try.underlying32 (by rfl) (by kernel_rfl)) rfl ?_
  unfold FfR
  exact ⟨A3, c3, A4, c4, rfl, HPO.out _ (fun k h1 h2 _ => (put5_block _ _ _ _ _ _ _ k (by have := HLT.out; omega)).trans (HK7.out k h2)), HBF.out⟩end Go.Proofs.Ytpfbommaddaijaa

namespace Go.Proofs.Ytpfbommaddaijaa
open Go.RowKit Go.Proofs.YtpfbommaddaijaaW.PrintWords Go.Proofs.YtpfbommaddaijaaW.PrintLast PBoundTo
set_option linter.unusedVariables false
set_option linter.unusedSimpArgs false

set_option maxHeartbeats 4000000 in
set_option maxRecDepth 100000 in
theorem none_zero (W : World) : Calls Try.prog 48 #[pZero] W fun e w' => e = .returned (.bool true) ∧ Below W.heap.size W w' := by
  obtain ⟨W1, hW1⟩ : ∃ W1, W1 = W.alloc (.cells #[.bool false, I 0, I 0, .slice none 0 0, .slice none 0 0] 32) := ⟨_, rfl⟩
  have HB1 : Hid (Below W.heap.size W W1) := Lib.hid (by rw [hW1]; exact below_alloc (Below.refl _ _) _)
  have BK : W1.heap[W.heap.size]? = some (.cells #[.bool false, I 0, I 0, .slice none 0 0, .slice none 0 0] 32 (0, 0)) := by rw [hW1]; exact blk_new _ _
  have k0 : W1.cell? ⟨W.heap.size, 0, none⟩ = some (.bool false) := (blk_cell BK 0).trans rfl
  have k1 : W1.cell? ⟨W.heap.size, 1, none⟩ = some (I 0) := (blk_cell BK 1).trans rfl
  have k2 : W1.cell? ⟨W.heap.size, 2, none⟩ = some (I 0) := (blk_cell BK 2).trans rfl
  have k3 : W1.cell? ⟨W.heap.size, 3, none⟩ = some (.slice none 0 0) := (blk_cell BK 3).trans rfl
  have k4 : W1.cell? ⟨W.heap.size, 4, none⟩ = some (.slice none 0 0) := (blk_cell BK 4).trans rfl
  clear BK
  go_enter Try.func48, Try.ntmps48
  go_upto_region 1 with fail
  rw [← hW1]
  clear hW1
  go_wp2
  go_ret
  exact ⟨rfl, HB1.out⟩
/-- what a copy of the formula serves for -/
def Cp1 (w : World) (c : Value) (n : Int) (TF : World → Ending → World → Prop) : Prop := ∀ w', Below w.heap.size w w' → Calls Try.prog 46 #[c, I n] w' (TF w')
end Go.Proofs.Ytpfbommaddaijaa

