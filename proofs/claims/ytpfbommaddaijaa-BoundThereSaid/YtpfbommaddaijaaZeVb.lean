/- Leaves of a protocol, Equal of two tables, Same of two empty formulas. -/
import Derived.Test.YtpfbommaddaijaaZePa
import Derived.Test.YtpfbommaddaijaaZeV6
namespace Go.Proofs.Ytpfbommaddaijaa
open Go.RowKit Go.Proofs.YtpfbommaddaijaaW.PrintWords Go.Proofs.YtpfbommaddaijaaW.PrintLast PBoundTo
set_option linter.unusedVariables false
set_option linter.unusedSimpArgs false

set_option maxHeartbeats 2000000 in
theorem leaves_leaf (W : World) (v p : Int) (A3 A4 : Option Addr) (l3 l4 c3 c4 : Nat) : Calls Try.prog 49 #[.agg #[.bool true, I v, I p, .slice A3 l3 c3, .slice A4 l4 c4]] W fun e w' => e = .returned (I 1) ∧ Below W.heap.size W w' := by
  go_enter Try.func49, Try.ntmps49
  go_wp2
  go_ret
  exact ⟨rfl, (Below.refl _ _).alloc (Nat.le_refl _) _⟩
set_option maxHeartbeats 8000000 in
set_option maxRecDepth 100000 in
theorem leaves_node {W : World} {v pl : Int} {la : Nat} {ad : Addr} {A3 : Option Addr} {c3 c4 : Nat} {r0 r1 : Int} {x0 x1 x2 x3 x4 y0 y1 y2 y3 y4 : Value} (b0 : 0 ≤ r0) (b1 : 0 ≤ r1) (b2 : r0 + r1 ≤ 1000000)
    (p0 : W.cell? (ad.add 0) = some x0) (p1 : W.cell? (ad.add 1) = some x1) (p2 : W.cell? (ad.add 2) = some x2) (p3 : W.cell? (ad.add 3) = some x3) (p4 : W.cell? (ad.add 4) = some x4)
    (q0 : W.cell? (ad.add 5) = some y0) (q1 : W.cell? (ad.add 6) = some y1) (q2 : W.cell? (ad.add 7) = some y2) (q3 : W.cell? (ad.add 8) = some y3) (q4 : W.cell? (ad.add 9) = some y4)
    (HX : ∀ W', Below W.heap.size W W' → Calls Try.prog 49 #[.agg #[x0, x1, x2, x3, x4]] W' fun e W'' => e = .returned (I r0) ∧ Below W'.heap.size W' W'') (HY : ∀ W', Below W.heap.size W W' → Calls Try.prog 49 #[.agg #[y0, y1, y2, y3, y4]] W' fun e W'' => e = .returned (I r1) ∧ Below W'.heap.size W' W'') :
    Calls Try.prog 49 #[.agg #[.bool false, I v, I pl, .slice A3 la c3, .slice (some ad) 2 c4]] W fun e W' => e = .returned (I (r0 + r1)) ∧ Below W.heap.size W W' := by
  obtain ⟨W1, hW1⟩ : ∃ W1, W1 = W.alloc (.cells #[.bool false, I v, I pl, .slice A3 la c3, .slice (some ad) 2 c4] 32) := ⟨_, rfl⟩
  have HB1 : Hid (Below W.heap.size W W1) := Lib.hid (by rw [hW1]; exact below_alloc (Below.refl _ _) _)
  have BK : W1.heap[W.heap.size]? = some (.cells #[.bool false, I v, I pl, .slice A3 la c3, .slice (some ad) 2 c4] 32 (0, 0)) := by rw [hW1]; exact blk_new _ _
  have k0 : W1.cell? ⟨W.heap.size, 0, none⟩ = some (.bool false) := (blk_cell BK 0).trans rfl
  have k4 : W1.cell? ⟨W.heap.size, 4, none⟩ = some (.slice (some ad) 2 c4) := (blk_cell BK 4).trans rfl
  have e4 : ∀ x : Ext W1, x.val.cell? ⟨W.heap.size, 4, none⟩ = some (.slice (some ad) 2 c4) := fun x => x.cell k4
  have f0 : ∀ x : Ext W1, x.val.cell? ad = some x0 := fun x => x.cell (cell_keep' HB1.out (by rw [Addr.add_zero'] at p0; exact p0))
  have f1 : ∀ x : Ext W1, x.val.cell? ⟨ad.block, ad.off + 1, none⟩ = some x1 := fun x => x.cell (cell_keep' HB1.out p1)
  have f2 : ∀ x : Ext W1, x.val.cell? ⟨ad.block, ad.off + 2, none⟩ = some x2 := fun x => x.cell (cell_keep' HB1.out p2)
  have f3 : ∀ x : Ext W1, x.val.cell? ⟨ad.block, ad.off + 3, none⟩ = some x3 := fun x => x.cell (cell_keep' HB1.out p3)
  have f4 : ∀ x : Ext W1, x.val.cell? ⟨ad.block, ad.off + 4, none⟩ = some x4 := fun x => x.cell (cell_keep' HB1.out p4)
  have g0 : ∀ x : Ext W1, x.val.cell? ⟨ad.block, ad.off + 5, none⟩ = some y0 := fun x => x.cell (cell_keep' HB1.out q0)
  have g1 : ∀ x : Ext W1, x.val.cell? ⟨ad.block, ad.off + 5 + 1, none⟩ = some y1 := fun x => x.cell (cell_keep' HB1.out q1)
  have g2 : ∀ x : Ext W1, x.val.cell? ⟨ad.block, ad.off + 5 + 2, none⟩ = some y2 := fun x => x.cell (cell_keep' HB1.out q2)
  have g3 : ∀ x : Ext W1, x.val.cell? ⟨ad.block, ad.off + 5 + 3, none⟩ = some y3 := fun x => x.cell (cell_keep' HB1.out q3)
  have g4 : ∀ x : Ext W1, x.val.cell? ⟨ad.block, ad.off + 5 + 4, none⟩ = some y4 := fun x => x.cell (cell_keep' HB1.out q4)
  have HX := Lib.hid (fun x : Ext W1 => x.call (HX x.val (HB1.out.trans (x.ok.mono HB1.out.size))))
  have HY := Lib.hid (fun x : Ext W1 => x.call (HY x.val (HB1.out.trans (x.ok.mono HB1.out.size))))
  have HSM : Hid (wrap64 (r0 + r1) = r0 + r1) := Lib.hid (wr_ok (by omega) (by omega))
  clear BK k4 p0 p1 p2 p3 p4 q0 q1 q2 q3 q4
  go_enter Try.func49, Try.ntmps49
  go_upto_region 1 with fail
  rw [← hW1]
  clear hW1
  go_upto_region 3 with fail
  refine wp_region_ext (by kernel_rfl) (by kernel_rfl) ?_
  repeat (go_big_quiet_step (first
    | (go_at_call 49; with_reducible exact HX.out _)
    | (go_at_call 49; with_reducible exact HY.out _)))
  refine wpQuiet_nil ?_
  rintro _ ⟨x, rfl⟩
  go_wp2
  go_ret
  refine ⟨?_, HB1.out.trans (x.ok.mono HB1.out.size)⟩
  show Ending.returned (.int .i64 _) = _
  first | rfl | (rw [HSM.out])
theorem protLeaves_any : ∀ (t : Pt) {W : World} {A3 A4 : Option Addr} {c3 c4 : Nat}, t.lvs ≤ 1000000 → Kd.C k32 W A4 t.toS.f4.length t.toS.f4 → Calls Try.prog 49 #[.agg #[.bool t.toS.f0, I t.toS.f1, I t.toS.f2, .slice A3 t.toS.f3.length c3, .slice A4 t.toS.f4.length c4]] W fun e W' => e = .returned (I (t.lvs : Nat)) ∧ Below W.heap.size W W'
  | .leaf v, W, A3, A4, c3, c4, hl, h4 => by rw [Pt.toS, Pt.lvs]; exact leaves_leaf W v 0 A3 A4 _ _ c3 c4
  | .node pl ask l r, W, A3, A4, c3, c4, hl, h4 => by
    rw [Pt.toS] at h4 ⊢
    simp only at h4 ⊢
    have hl' : l.lvs + r.lvs ≤ 1000000 := hl
    obtain ⟨ad, B3, d3, B4, d4, rfl, x0, x1, x2, x3, x4, l3, i3, l4, i4⟩ := at_T32 h4 (0 : Int) (by omega) (by simp)
    obtain ⟨ad', C3, f3, C4, f4, he, y0, y1, y2, y3, y4, l3', i3', l4', i4'⟩ := at_T32 h4 (1 : Int) (by omega) (by simp)
    cases he
    have h := leaves_node (W := W) (A3 := A3) (c3 := c3) (c4 := c4) (v := 0) (pl := pl) (la := ask.length) (ad := ad) (r0 := (l.lvs : Nat)) (r1 := (r.lvs : Nat)) (by omega) (by omega) (by omega) x0 x1 x2 x3 x4 y0 y1 y2 y3 y4
      (fun W' hW => protLeaves_any l (W := W') (by omega) (Kd.C_below i4 hW)) (fun W' hW => protLeaves_any r (W := W') (by omega) (Kd.C_below i4' hW))
    rw [show ((Pt.node pl ask l r).lvs : Int) = (l.lvs : Int) + (r.lvs : Int) by rw [Pt.lvs]; omega]
    exact h
set_option maxHeartbeats 2000000 in
set_option maxRecDepth 100000 in
theorem equal82 {W : World} {A B : Option Addr} {N c d : Nat} {f : Nat → Bool} (h1 : Bs W (.slice A N c) N f) (h2 : Bs W (.slice B N d) N f) : Calls Try.prog 82 #[.slice A N c, .slice B N d] W fun e w' => e = .returned (.bool true) ∧ Below W.heap.size W w' := by
  have hne : ((N : Int) != (N : Int)) = false := by simp
  have hN : N ≤ 9223372036854775807 := by have := h1.C.2.1; simpa using this
  have H1 := Lib.hid h1
  have H2 := Lib.hid h2
  have HN := Lib.hid hN
  clear h1 h2 hN
  go_enter Try.func82, Try.ntmps82
  go_wp2
  go_loopw [5] (fun y wr => ∃ i : Nat, i ≤ N ∧ y = I i ∧ ∃ m, wr = W.drewN m) (fun y _ => N - (intOf y).toNat)
  case atStart => exact ⟨0, Nat.zero_le _, rfl, 0, rfl⟩
  case round =>
    obtain ⟨i, hi, rfl, m, rfl⟩ := hrel
    by_cases hin : i < N
    · obtain ⟨a, ea, ca⟩ := H1.out.at' hin
      obtain ⟨b, eb, cb⟩ := H2.out.at' hin
      subst ea eb
      have hwi : wrap64 ((i : Int) + 1) = ((i + 1 : Nat) : Int) := wr_lt hin HN.out
      have h0i : (0 : Int) ≤ i := by omega
      have h1i : (i : Int) < N := by omega
      have HIN := Lib.hid hin
      have hfi : (f i != f i) = false := by simp
      go_upto_region 6 with fail
      go_quiet (fail)
      go_wp2
      go_roundw
      case rel => exact ⟨i + 1, HIN.out, by rw [hwi], _, rfl⟩
      case measure => exact meas hwi HIN.out
    · obtain rfl : i = N := by omega
      go_wp2
      go_ret
      exact ⟨rfl, below_drewN (Below.refl _ _) _⟩
end Go.Proofs.Ytpfbommaddaijaa

