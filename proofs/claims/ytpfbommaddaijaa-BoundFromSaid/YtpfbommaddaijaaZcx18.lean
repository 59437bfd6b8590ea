/- Bits and Eval; Eval of a formula. -/
import Derived.Test.YtpfbommaddaijaaZcx09
import Derived.Test.YtpfbommaddaijaaZcV8c
namespace Go.Proofs.Ytpfbommaddaijaa
open Go.RowKit Go.Proofs.YtpfbommaddaijaaW.PrintWords Go.Proofs.YtpfbommaddaijaaW.PrintLast PBoundTo
set_option linter.unusedVariables false
set_option linter.unusedSimpArgs false

def BtR (w : World) (n : Nat) (f : Nat → Bool) (e : Ending) (w' : World) : Prop := ∃ A c, e = .returned (.slice A n c) ∧ Bs w' (.slice A n c) n f ∧ Below w.heap.size w w'
set_option maxHeartbeats 4000000 in
set_option maxRecDepth 100000 in
theorem bits97 {w : World} {x n : Nat} (hx : x < 8192) (hn : n ≤ 16) : Calls Try.prog 97 #[I x, I n] w (BtR w n (fun i => x.testBit i)) := by
  have hmk := run_make_row' (P := Try.prog) 29 4 (.bool false) 1 Try.underlying29 Try.info4 rfl .i64 .i64 n (by omega) (by omega)
  obtain ⟨W2, hW2⟩ : ∃ W2, W2 = w.alloc (.cells (madeCells #[Value.bool false] n) 4) := ⟨_, rfl⟩
  have HR : Hid (W2.rowIs w.heap.size 4 n (fun _ => .bool false)) := Lib.hid (by rw [hW2]; exact World.rowIs_made w _ n 4)
  have HB : Hid (Below w.heap.size w W2) := Lib.hid (by rw [hW2]; exact (Below.refl _ _).alloc (Nat.le_refl _) _)
  replace hmk := hmk w
  rw [← hW2] at hmk
  clear hW2
  have hn0 : (0 : Int) ≤ n := by omega
  have hn16 : (n : Int) ≤ 16 := by omega
  have hx0 : (0 : Int) ≤ x := by omega
  have hxl : (x : Int) < 8192 := by omega
  have HXX := Lib.hid hx
  go_enter Try.func97, Try.ntmps97
  go_wp2
  go_loopw [6] (fun y wr => ∃ i : Nat, i ≤ n ∧ y = I i ∧ Hid (wr.rowIs w.heap.size 4 n (fun u => .bool (decide (u < i) && x.testBit u))) ∧ Hid (Below w.heap.size w wr)) (fun y _ => n - (intOf y).toNat)
  case atStart => exact ⟨0, Nat.zero_le _, rfl, Lib.hid (HR.out.congr fun u _ => by simp), HB⟩
  case round =>
    clear HR HB hmk
    obtain ⟨i, hi, rfl, HR, HB⟩ := hrel
    by_cases hin : i < n
    · have hi0 : (0 : Int) ≤ i := by omega
      have hi1 : (i : Int) < n := by omega
      have hi16 : (i : Int) ≤ 16 := by omega
      have hsa := shr_and (y := x) (i := i) HXX.out
      have c1 := HR.out.cell hin
      have q1 := HR.out.frozen i
      have HNR : Hid (∀ b, b = x.testBit i → (wr.setCell ⟨w.heap.size, i, none⟩ (.bool b)).rowIs w.heap.size 4 n (fun u => .bool (decide (u < i + 1) && x.testBit u))) := Lib.hid (fun b hb => (HR.out.set i (.bool b)).congr fun u hu => by
        by_cases e : u = i
        · rw [if_pos e, hb, e]; simp
        · rw [if_neg e]
          have : (u < i) ↔ (u < i + 1) := by omega
          simp [this])
      have HNB : Hid (∀ b : Bool, Below w.heap.size w (wr.setCell ⟨w.heap.size, i, none⟩ (.bool b))) := Lib.hid (fun b => HB.out.setCell (Nat.le_refl _) _)
      cases hb : x.testBit i with
      | true =>
        have hsa' : bits BinOp.and IntKind.i64 ((x : Int) / 2 ^ i) 1 = 1 := by rw [hsa, hb]; rfl
        have HNR' : Hid ((wr.setCell ⟨w.heap.size, i, none⟩ (.bool true)).rowIs w.heap.size 4 n (fun u => .bool (decide (u < i + 1) && x.testBit u))) := Lib.hid (HNR.out _ hb.symm)
        clear hsa hb HR
        go_wp2
        go_roundw
        case rel => exact ⟨i + 1, by omega, by go_num, HNR', Lib.hid (HNB.out _)⟩
        case measure => simp [intOf]; omega
      | false =>
        have hsa' : bits BinOp.and IntKind.i64 ((x : Int) / 2 ^ i) 1 = 0 := by rw [hsa, hb]; rfl
        have HNR' : Hid ((wr.setCell ⟨w.heap.size, i, none⟩ (.bool false)).rowIs w.heap.size 4 n (fun u => .bool (decide (u < i + 1) && x.testBit u))) := Lib.hid (HNR.out _ hb.symm)
        clear hsa hb HR
        go_wp2
        go_roundw
        case rel => exact ⟨i + 1, by omega, by go_num, HNR', Lib.hid (HNB.out _)⟩
        case measure => simp [intOf]; omega
    · obtain rfl : n = i := by omega
      go_wp2
      go_ret
      unfold BtR
      exact ⟨_, _, rfl, row_bs (by omega) (HR.out.congr fun u hu => by simp [hu]), HB.out⟩
theorem bits51 {w : World} {x n : Nat} (hx : x < 8192) (hn : n ≤ 16) : Calls Try.prog 51 #[I x, I n] w (BtR w n (fun i => x.testBit i)) := by
  have H := Lib.hid (bits97 (w := w) hx hn)
  unfold BtR at H
  clear hx hn
  go_enter Try.func51, Try.ntmps51
  go_wp2_with (go_at_call 97; (with_reducible refine H.out.mono ?_); rintro e w2 ⟨A, c, rfl, hs, hb⟩)
  go_ret
  unfold BtR
  exact ⟨A, c, rfl, hs, hb⟩
end Go.Proofs.Ytpfbommaddaijaa

namespace Go.Proofs.Ytpfbommaddaijaa
open Go.RowKit Go.Proofs.YtpfbommaddaijaaW.PrintWords Go.Proofs.YtpfbommaddaijaaW.PrintLast PBoundTo
set_option linter.unusedVariables false
set_option linter.unusedSimpArgs false

def EvR (W : World) (b : Bool) (e : Ending) (w' : World) : Prop := e = .returned (.bool b) ∧ Below W.heap.size W w'
set_option maxHeartbeats 4000000 in
set_option maxRecDepth 100000 in
theorem eval_leaf {W : World} {i n c : Nat} {A : Option Addr} {c' : Nat} {a : Addr} {b : Bool} (hi : i < n) (hc : W.cell? (a.add i) = some (.bool b)) : Calls Try.prog 50 #[.agg #[I 0, I (i : Nat), .slice A 0 c'], .slice (some a) n c] W (EvR W b) := by
  obtain ⟨W0, hW0⟩ : ∃ W0, W0 = W.alloc (.cells #[I 0, I (i : Nat), .slice A 0 c'] 24) := ⟨_, rfl⟩
  have hB1 : Below W.heap.size W W0 := by rw [hW0]; exact below_alloc (Below.refl _ _) _
  have BK : W0.heap[W.heap.size]? = some (.cells #[I 0, I (i : Nat), .slice A 0 c'] 24 (0, 0)) := by rw [hW0]; exact blk_new _ _
  have k0 : W0.cell? ⟨W.heap.size, 0, none⟩ = some (I 0) := (blk_cell BK 0).trans rfl
  have k1 : W0.cell? ⟨W.heap.size, 1, none⟩ = some (I (i : Nat)) := (blk_cell BK 1).trans rfl
  have c1 := cell_keep' hB1 hc
  have HB1 := Lib.hid hB1
  have h0 : (0 : Int) ≤ i := by omega
  have h1 : (i : Int) < n := by omega
  clear BK hB1 hc hi
  go_enter Try.func50, Try.ntmps50
  go_upto_region 1 with fail
  rw [← hW0]
  clear hW0
  go_wp2
  go_ret
  exact ⟨rfl, HB1.out⟩
set_option maxHeartbeats 4000000 in
set_option maxRecDepth 100000 in
theorem eval_not {W : World} {X : Value} {ad : Addr} {c : Nat} {x y z : Value} (h0 : W.cell? (ad.add 0) = some x) (h1 : W.cell? (ad.add 1) = some y) (h2 : W.cell? (ad.add 2) = some z) {b : Bool}
    (HF : ∀ w, Below W.heap.size W w → Calls Try.prog 50 #[.agg #[x, y, z], X] w (EvR w b)) : Calls Try.prog 50 #[.agg #[I 2, I 0, .slice (some ad) 1 c], X] W (EvR W (!b)) := by
  unfold EvR at HF
  replace HF := Lib.hid HF
  obtain ⟨W0, hW0⟩ : ∃ W0, W0 = W.alloc (.cells #[I 2, I 0, .slice (some ad) 1 c] 24) := ⟨_, rfl⟩
  have hB1 : Below W.heap.size W W0 := by rw [hW0]; exact below_alloc (Below.refl _ _) _
  have BK : W0.heap[W.heap.size]? = some (.cells #[I 2, I 0, .slice (some ad) 1 c] 24 (0, 0)) := by rw [hW0]; exact blk_new _ _
  have k0 : W0.cell? ⟨W.heap.size, 0, none⟩ = some (I 2) := (blk_cell BK 0).trans rfl
  have k2 : W0.cell? ⟨W.heap.size, 2, none⟩ = some (.slice (some ad) 1 c) := (blk_cell BK 2).trans rfl
  have d0 := cell_keep' hB1 h0
  have d1 := cell_keep' hB1 h1
  have d2 := cell_keep' hB1 h2
  rw [Addr.add_zero'] at d0
  simp [Addr.add] at d1 d2
  have HB1 := Lib.hid hB1
  clear BK hB1 h0 h1 h2
  go_enter Try.func50, Try.ntmps50
  go_upto_region 1 with fail
  rw [← hW0]
  clear hW0
  go_wp2_with (go_at_call 50; (with_reducible refine (HF.out _ HB1.out).mono ?_); rintro e w3 ⟨rfl, hb⟩; have HB3 := Lib.hid hb; clear hb)
  go_ret
  exact ⟨rfl, HB1.out.trans (HB3.out.mono HB1.out.size)⟩
set_option maxHeartbeats 4000000 in
set_option maxRecDepth 100000 in
theorem eval_bin {W : World} {X : Value} {k : Int} (hk : k = 3 ∨ k = 4) {ad : Addr} {c : Nat} {x y z x' y' z' : Value} (h0 : W.cell? (ad.add 0) = some x) (h1 : W.cell? (ad.add 1) = some y) (h2 : W.cell? (ad.add 2) = some z)
    (h3 : W.cell? (ad.add 3) = some x') (h4 : W.cell? (ad.add 4) = some y') (h5 : W.cell? (ad.add 5) = some z') {a b : Bool}
    (HF : ∀ w, Below W.heap.size W w → Calls Try.prog 50 #[.agg #[x, y, z], X] w (EvR w a)) (HG : ∀ w, Below W.heap.size W w → Calls Try.prog 50 #[.agg #[x', y', z'], X] w (EvR w b)) : Calls Try.prog 50 #[.agg #[I k, I 0, .slice (some ad) 2 c], X] W (EvR W (app k a b)) := by
  unfold EvR at HF HG
  replace HF := Lib.hid HF
  replace HG := Lib.hid HG
  have HA := Lib.hid (fun w => apply_any (w := w) (k := k) (by rcases hk with rfl | rfl <;> simp) a b)
  have t0 : (k == 0) = false := beq_eq_false_iff_ne.mpr (by omega)
  have t1 : (k == 1) = false := beq_eq_false_iff_ne.mpr (by omega)
  have t2 : (k == 2) = false := beq_eq_false_iff_ne.mpr (by omega)
  clear hk
  obtain ⟨W0, hW0⟩ : ∃ W0, W0 = W.alloc (.cells #[I k, I 0, .slice (some ad) 2 c] 24) := ⟨_, rfl⟩
  have hB1 : Below W.heap.size W W0 := by rw [hW0]; exact below_alloc (Below.refl _ _) _
  have BK : W0.heap[W.heap.size]? = some (.cells #[I k, I 0, .slice (some ad) 2 c] 24 (0, 0)) := by rw [hW0]; exact blk_new _ _
  have k0 : W0.cell? ⟨W.heap.size, 0, none⟩ = some (I k) := (blk_cell BK 0).trans rfl
  have k2 : W0.cell? ⟨W.heap.size, 2, none⟩ = some (.slice (some ad) 2 c) := (blk_cell BK 2).trans rfl
  have d0 := cell_keep' hB1 h0
  have d1 := cell_keep' hB1 h1
  have d2 := cell_keep' hB1 h2
  have d3 := cell_keep' hB1 h3
  have d4 := cell_keep' hB1 h4
  have d5 := cell_keep' hB1 h5
  rw [Addr.add_zero'] at d0
  simp [Addr.add] at d1 d2 d3 d4 d5
  have HB1 := Lib.hid hB1
  clear BK hB1 h0 h1 h2 h3 h4 h5
  go_enter Try.func50, Try.ntmps50
  go_upto_region 1 with fail
  rw [← hW0]
  clear hW0
  go_upto_region 8 with fail
  have e0 : ∀ u : Ext W0, u.val.cell? ⟨W.heap.size, 0, none⟩ = some (I k) := fun u => u.cell k0
  have e2 : ∀ u : Ext W0, u.val.cell? ⟨W.heap.size, 2, none⟩ = some (.slice (some ad) 2 c) := fun u => u.cell k2
  have f0 : ∀ u : Ext W0, _ := fun u => u.cell d0
  have f1 : ∀ u : Ext W0, _ := fun u => u.cell d1
  have f2 : ∀ u : Ext W0, _ := fun u => u.cell d2
  have f3 : ∀ u : Ext W0, _ := fun u => u.cell d3
  have f4 : ∀ u : Ext W0, _ := fun u => u.cell d4
  have f5 : ∀ u : Ext W0, _ := fun u => u.cell d5
  have HFX := Lib.hid (fun u : Ext W0 => u.call (HF.out u.val (HB1.out.trans (u.ok.mono HB1.out.size))))
  have HGX := Lib.hid (fun u : Ext W0 => u.call (HG.out u.val (HB1.out.trans (u.ok.mono HB1.out.size))))
  have HAX := Lib.hid (fun u : Ext W0 => u.call ((HA.out u.val).mono fun e w' h => ⟨h.1, by rw [h.2]; exact Below.refl _ _⟩))
  refine wp_region_ext (by kernel_rfl) (by kernel_rfl) ?_
  repeat (go_big_quiet_step (first
    | (go_at_call 50; first | with_reducible exact HFX.out _ | with_reducible exact HGX.out _)
    | (go_at_call 83; with_reducible exact HAX.out _)))
  refine wpQuiet_nil ?_
  rintro _ ⟨u, rfl⟩
  have HB5 := Lib.hid (HB1.out.trans (u.ok.mono HB1.out.size))
  go_wp2
  go_ret
  exact ⟨rfl, HB5.out⟩
theorem eval_any {n : Nat} {x : Nat} : ∀ (t : Fx) {W : World} {cs : List Value} {a : Addr} {c : Nat}, t.pl n → Fm W t cs → (∀ i, i < n → W.cell? (a.add i) = some (.bool (x.testBit i))) → Calls Try.prog 50 #[.agg cs.toArray, .slice (some a) n c] W (EvR W (t.val x))
  | .leaf k v, W, cs, a, c, hp, ⟨A, c', h⟩, HX => by
    subst h
    obtain ⟨rfl, h0, h1⟩ := hp
    obtain ⟨i, rfl⟩ := Int.eq_ofNat_of_zero_le h0
    have := eval_leaf (A := A) (c := c) (c' := c') (show i < n by omega) (HX i (by omega))
    simpa [Fx.val] using this
  | .not t, W, cs, a, c, hp, ⟨ad, c', ca, h1, h2, h3, h4, h5⟩, HX => by
    subst h1
    match ca, h3 with
    | [x0, y0, z0], _ =>
      refine eval_not (x := x0) (y := y0) (z := z0) (h4 0 _ rfl) (h4 1 _ rfl) (h4 2 _ rfl) (b := t.val x) fun w hw => ?_
      exact eval_any t hp (h5.keep hw) (fun i hi => cell_keep hw (HX i hi))
  | .bin k t1 t2, W, cs, a, c, hp, ⟨ad, c', ca, cb, h1, h2, h3, h3', h4, h4', h5, h6⟩, HX => by
    subst h1
    match ca, h3, cb, h3' with
    | [x0, y0, z0], _, [x1, y1, z1], _ =>
      have e : Fx.val x (Fx.bin k t1 t2) = app k (t1.val x) (t2.val x) := by
        rcases hp.1 with rfl | rfl <;> simp [Fx.val, app]
      rw [e]
      refine eval_bin (x := x0) (y := y0) (z := z0) (x' := x1) (y' := y1) (z' := z1) hp.1 (h4 0 _ rfl) (h4 1 _ rfl) (h4 2 _ rfl) (h4' 0 _ rfl) (h4' 1 _ rfl) (h4' 2 _ rfl) (a := t1.val x) (b := t2.val x) (fun w hw => ?_) (fun w hw => ?_)
      · exact eval_any t1 hp.2.1 (h5.keep hw) (fun i hi => cell_keep hw (HX i hi))
      · exact eval_any t2 hp.2.2 (h6.keep hw) (fun i hi => cell_keep hw (HX i hi))
end Go.Proofs.Ytpfbommaddaijaa

