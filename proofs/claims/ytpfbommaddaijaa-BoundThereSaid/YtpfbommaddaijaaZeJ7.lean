/- protocol: a conjunction or a disjunction, walked. -/
import Derived.Test.YtpfbommaddaijaaZeJ6
namespace Go.Proofs.Ytpfbommaddaijaa
open Go.RowKit Go.Proofs.YtpfbommaddaijaaW.PrintWords Go.Proofs.YtpfbommaddaijaaW.PrintLast PBoundTo
set_option linter.unusedVariables false
set_option linter.unusedSimpArgs false

set_option maxHeartbeats 8000000 in
set_option maxRecDepth 100000 in
theorem prot_bin {w : World} {n N : Nat} (hn : n ≤ 12) (hN : N = 2 ^ n) {k : Int} (hk : k = 3 ∨ k = 4) {neg : Bool} {ad : Addr} {c : Nat} {x y z x' y' z' : Value} (h0 : w.cell? (ad.add 0) = some x) (h1 : w.cell? (ad.add 1) = some y) (h2 : w.cell? (ad.add 2) = some z)
    (h3 : w.cell? (ad.add 3) = some x') (h4 : w.cell? (ad.add 4) = some y') (h5 : w.cell? (ad.add 5) = some z') {q1 q2 : Pt} {f g : Nat → Bool}
    (HF : ∀ W, Below w.heap.size w W → Calls Try.prog 96 #[.agg #[x, y, z], .bool neg, I n] W (PrR W N q1 f)) (HG : ∀ W, Below w.heap.size w W → Calls Try.prog 96 #[.agg #[x', y', z'], .bool neg, I n] W (PrR W N q2 g)) :
    Calls Try.prog 96 #[.agg #[I k, I 0, .slice (some ad) 2 c], .bool neg, I n] w (PrR w N (.node (if ork k neg = true then 0 else 1) ((List.range N).map fun i => (f i != neg) != ork k neg) q1 q2) (fun i => if k = 3 then f i && g i else f i || g i)) := by
  have hw := wshl n hn
  have hp12 : 2 ^ n ≤ 4096 := Nat.pow_le_pow_right (n := 2) (by decide) hn
  rw [← hN] at hw hp12
  have hmk := run_make_row' (P := Try.prog) 29 4 (.bool false) 1 Try.underlying29 Try.info4 rfl .i64 .i64 N (by omega) (by omega)
  unfold PrR at HF HG
  obtain ⟨qq, hqq⟩ : ∃ qq, qq = Pt.node (if ork k neg = true then 0 else 1) ((List.range N).map fun i => (f i != neg) != ork k neg) q1 q2 := ⟨_, rfl⟩
  obtain ⟨op, hop⟩ : ∃ op : Nat → Bool, op = fun i => if k = 3 then f i && g i else f i || g i := ⟨_, rfl⟩
  rw [← hqq, ← hop]
  have HQQ := Lib.hid hqq
  have HOO := Lib.hid hop
  clear hqq hop
  replace HF := Lib.hid HF
  replace HG := Lib.hid HG
  have hn0 : (0 : Int) ≤ n := by omega
  have hn12 : (n : Int) ≤ 12 := by omega
  clear hN hn
  obtain ⟨W1, hW1⟩ : ∃ W1, W1 = w.alloc (.cells #[I k, I 0, .slice (some ad) 2 c] 24) := ⟨_, rfl⟩
  obtain ⟨W, hW⟩ : ∃ W, W = W1.alloc (.cells #[.bool false, I 0, I 0, .slice none 0 0, .slice none 0 0] 32) := ⟨_, rfl⟩
  have hs1 : W1.heap.size = w.heap.size + 1 := by rw [hW1]; exact World.size_alloc _ _
  have hsz : W.heap.size = w.heap.size + 2 := by rw [hW, World.size_alloc, hs1]
  have hB1 : Below w.heap.size w W := by rw [hW]; exact below_alloc (by rw [hW1]; exact below_alloc (Below.refl _ _) _) _
  have HB1 := Lib.hid hB1
  have HBK : Hid (W.heap[w.heap.size]? = some (.cells #[I k, I 0, .slice (some ad) 2 c] 24 (0, 0))) := Lib.hid (by rw [hW]; exact blk_alloc (by rw [hW1]; exact blk_new _ _) _)
  have HBR : Hid (W.heap[w.heap.size + 1]? = some (.cells #[.bool false, I 0, I 0, .slice none 0 0, .slice none 0 0] 32 (0, 0))) := Lib.hid (by rw [hW, ← hs1]; exact blk_new _ _)
  have k0 : W.cell? ⟨w.heap.size, 0, none⟩ = some (I k) := (blk_cell HBK.out 0).trans rfl
  have k2 : W.cell? ⟨w.heap.size, 2, none⟩ = some (.slice (some ad) 2 c) := (blk_cell HBK.out 2).trans rfl
  have d0 := cell_keep' hB1 h0
  have d1 := cell_keep' hB1 h1
  have d2 := cell_keep' hB1 h2
  rw [Addr.add_zero'] at d0
  simp [Addr.add] at d1 d2
  have HD : Hid (∀ W' : World, Below w.heap.size w W' → W'.cell? ⟨ad.block, ad.off + 3, none⟩ = some x' ∧ W'.cell? ⟨ad.block, ad.off + 3 + 1, none⟩ = some y' ∧ W'.cell? ⟨ad.block, ad.off + 3 + 2, none⟩ = some z') := Lib.hid (fun W' h => ⟨cell_keep' h (by simpa [Addr.add] using h3), cell_keep' h (by simpa [Addr.add] using h4), cell_keep' h (by simpa [Addr.add] using h5)⟩)
  have HSZ := Lib.hid hsz
  have hk3 : (k == 0) = false ∧ (k == 2) = false := by rcases hk with rfl | rfl <;> exact ⟨rfl, rfl⟩
  obtain ⟨e0, e2⟩ := hk3
  have HK := Lib.hid hk
  clear hsz hB1 h0 h1 h2 h3 h4 h5 hk
  go_enter Try.func96, Try.ntmps96
  go_upto_region 1 with fail
  rw [← hW1, ← hW]
  clear hW1 hW hs1
  go_upto_region 19 with (go_at_call 96; (with_reducible refine (HF.out _ HB1.out).mono ?_); rintro e w3 ⟨A3, c3, A4, c4, g1, rfl, hr, hg, hp, hb⟩; have HRW := Lib.hid hr; have HG1 := Lib.hid hg; have HP1 := Lib.hid hp; have HB3 := Lib.hid hb; clear hr hg hp hb)
  have HX4 : Hid ((w3.alloc (.cells #[.bool q1.toS.f0, I q1.toS.f1, I q1.toS.f2, .slice A3 q1.toS.f3.length c3, .slice A4 q1.toS.f4.length c4] 32)).heap[w3.heap.size]? = some (.cells #[.bool q1.toS.f0, I q1.toS.f1, I q1.toS.f2, .slice A3 q1.toS.f3.length c3, .slice A4 q1.toS.f4.length c4] 32 (0, 0))) := Lib.hid (blk_new _ _)
  have HBL4 : Hid (Below w3.heap.size w3 (w3.alloc (.cells #[.bool q1.toS.f0, I q1.toS.f1, I q1.toS.f2, .slice A3 q1.toS.f3.length c3, .slice A4 q1.toS.f4.length c4] 32))) := Lib.hid ((Below.refl _ _).alloc (Nat.le_refl _) _)
  have HSX : Hid (w3.heap.size < (w3.alloc (.cells #[.bool q1.toS.f0, I q1.toS.f1, I q1.toS.f2, .slice A3 q1.toS.f3.length c3, .slice A4 q1.toS.f4.length c4] 32)).heap.size) := Lib.hid (by rw [World.size_alloc]; exact Nat.lt_succ_self _)
  have HB4 : Hid (Below w.heap.size w (w3.alloc (.cells #[.bool q1.toS.f0, I q1.toS.f1, I q1.toS.f2, .slice A3 q1.toS.f3.length c3, .slice A4 q1.toS.f4.length c4] 32))) := Lib.hid ((HB1.out.trans (HB3.out.mono HB1.out.size)).trans (HBL4.out.mono (Nat.le_trans HB1.out.size HB3.out.size)))
  clear k0 k2 d0 d1 d2
  generalize w3.alloc (.cells #[.bool q1.toS.f0, I q1.toS.f1, I q1.toS.f2, .slice A3 q1.toS.f3.length c3, .slice A4 q1.toS.f4.length c4] 32) = w4 at *
  obtain ⟨gx, hgx⟩ : ∃ gx, gx = w3.heap.size := ⟨_, rfl⟩
  rw [← hgx] at HX4 HSX ⊢
  have HGX := Lib.hid hgx
  clear hgx
  obtain ⟨d3, d4, d5⟩ := HD.out _ HB4.out
  have HK4 := Lib.hid (blk_below HBK.out (HB3.out.trans (HBL4.out.mono HB3.out.size)))
  have k2 : w4.cell? ⟨w.heap.size, 2, none⟩ = some (.slice (some ad) 2 c) := (blk_cell HK4.out 2).trans rfl
  go_upto_region 20 with (go_at_call 96; (with_reducible refine (HG.out _ HB4.out).mono ?_); rintro e w5 ⟨B3, e3, B4, e4, g2, rfl, hr, hg, hp, hb⟩; have HRW2 := Lib.hid hr; have HG2 := Lib.hid hg; have HP2 := Lib.hid hp; have HB5 := Lib.hid hb; clear hr hg hp hb)
  have HY6 : Hid ((w5.alloc (.cells #[.bool q2.toS.f0, I q2.toS.f1, I q2.toS.f2, .slice B3 q2.toS.f3.length e3, .slice B4 q2.toS.f4.length e4] 32)).heap[w5.heap.size]? = some (.cells #[.bool q2.toS.f0, I q2.toS.f1, I q2.toS.f2, .slice B3 q2.toS.f3.length e3, .slice B4 q2.toS.f4.length e4] 32 (0, 0))) := Lib.hid (blk_new _ _)
  have HBL6 : Hid (Below w5.heap.size w5 (w5.alloc (.cells #[.bool q2.toS.f0, I q2.toS.f1, I q2.toS.f2, .slice B3 q2.toS.f3.length e3, .slice B4 q2.toS.f4.length e4] 32))) := Lib.hid ((Below.refl _ _).alloc (Nat.le_refl _) _)
  have HB6 : Hid (Below w.heap.size w (w5.alloc (.cells #[.bool q2.toS.f0, I q2.toS.f1, I q2.toS.f2, .slice B3 q2.toS.f3.length e3, .slice B4 q2.toS.f4.length e4] 32))) := Lib.hid ((HB4.out.trans (HB5.out.mono HB4.out.size)).trans (HBL6.out.mono (Nat.le_trans HB4.out.size HB5.out.size)))
  clear k2 d3 d4 d5
  generalize w5.alloc (.cells #[.bool q2.toS.f0, I q2.toS.f1, I q2.toS.f2, .slice B3 q2.toS.f3.length e3, .slice B4 q2.toS.f4.length e4] 32) = w6 at *
  obtain ⟨gy, hgy⟩ : ∃ gy, gy = w5.heap.size := ⟨_, rfl⟩
  rw [← hgy] at HY6 ⊢
  have HGY := Lib.hid hgy
  clear hgy
  have HB46 : Hid (Below w4.heap.size w4 w6) := Lib.hid (HB5.out.trans (HBL6.out.mono HB5.out.size))
  have HX6 := Lib.hid (blk_below HX4.out HB46.out)
  have HK6 := Lib.hid (blk_below HK4.out HB46.out)
  have HR6 := Lib.hid (blk_below (blk_below HBR.out (HB3.out.trans (HBL4.out.mono HB3.out.size))) HB46.out)
  have HT1 : Hid (w6.rowIs g1 4 N (fun i => .bool (f i))) := Lib.hid ((HRW.out.of_block (HBL4.out.block g1 HRW.out.lt)).of_block (HB46.out.block g1 (Nat.lt_of_lt_of_le HRW.out.lt HBL4.out.size)))
  have HT2 : Hid (w6.rowIs g2 4 N (fun i => .bool (g i))) := Lib.hid (HRW2.out.of_block (HBL6.out.block g2 HRW2.out.lt))
  have hnum : w.heap.size + 2 ≤ g1 ∧ g1 < gx ∧ gx < g2 ∧ g2 < gy ∧ gy < w6.heap.size := by
    have q1 := HG1.out
    have q2 := HRW.out.lt
    have q3 := HSX.out
    have q4 := HG2.out
    have q5 := HRW2.out.lt
    have q6 := blk_lt HY6.out
    have q7 := HGX.out
    have q8 := HGY.out
    have q9 := HSZ.out
    have q10 := HB1.out.size
    omega
  have HNUM := Lib.hid hnum
  clear hnum
  have x0 : w6.cell? ⟨gx, 0, none⟩ = some (.bool q1.toS.f0) := (blk_cell HX6.out 0).trans rfl
  have x1 : w6.cell? ⟨gx, 1, none⟩ = some (I q1.toS.f1) := (blk_cell HX6.out 1).trans rfl
  have x2 : w6.cell? ⟨gx, 2, none⟩ = some (I q1.toS.f2) := (blk_cell HX6.out 2).trans rfl
  have x3 : w6.cell? ⟨gx, 3, none⟩ = some (.slice A3 q1.toS.f3.length c3) := (blk_cell HX6.out 3).trans rfl
  have x4 : w6.cell? ⟨gx, 4, none⟩ = some (.slice A4 q1.toS.f4.length c4) := (blk_cell HX6.out 4).trans rfl
  have y0 : w6.cell? ⟨gy, 0, none⟩ = some (.bool q2.toS.f0) := (blk_cell HY6.out 0).trans rfl
  have y1 : w6.cell? ⟨gy, 1, none⟩ = some (I q2.toS.f1) := (blk_cell HY6.out 1).trans rfl
  have y2 : w6.cell? ⟨gy, 2, none⟩ = some (I q2.toS.f2) := (blk_cell HY6.out 2).trans rfl
  have y3 : w6.cell? ⟨gy, 3, none⟩ = some (.slice B3 q2.toS.f3.length e3) := (blk_cell HY6.out 3).trans rfl
  have y4 : w6.cell? ⟨gy, 4, none⟩ = some (.slice B4 q2.toS.f4.length e4) := (blk_cell HY6.out 4).trans rfl
  have xa0 : ∀ o, (w6.alloc o).cell? ⟨gx, 0, none⟩ = some (.bool q1.toS.f0) := fun o => cell_alloc x0 o
  have xb0 : ∀ o o', ((w6.alloc o).alloc o').cell? ⟨gx, 0, none⟩ = some (.bool q1.toS.f0) := fun o o' => cell_alloc (cell_alloc x0 o) o'
  have xa1 : ∀ o, (w6.alloc o).cell? ⟨gx, 1, none⟩ = some (I q1.toS.f1) := fun o => cell_alloc x1 o
  have xb1 : ∀ o o', ((w6.alloc o).alloc o').cell? ⟨gx, 1, none⟩ = some (I q1.toS.f1) := fun o o' => cell_alloc (cell_alloc x1 o) o'
  have xa2 : ∀ o, (w6.alloc o).cell? ⟨gx, 2, none⟩ = some (I q1.toS.f2) := fun o => cell_alloc x2 o
  have xb2 : ∀ o o', ((w6.alloc o).alloc o').cell? ⟨gx, 2, none⟩ = some (I q1.toS.f2) := fun o o' => cell_alloc (cell_alloc x2 o) o'
  have xa3 : ∀ o, (w6.alloc o).cell? ⟨gx, 3, none⟩ = some (.slice A3 q1.toS.f3.length c3) := fun o => cell_alloc x3 o
  have xb3 : ∀ o o', ((w6.alloc o).alloc o').cell? ⟨gx, 3, none⟩ = some (.slice A3 q1.toS.f3.length c3) := fun o o' => cell_alloc (cell_alloc x3 o) o'
  have xa4 : ∀ o, (w6.alloc o).cell? ⟨gx, 4, none⟩ = some (.slice A4 q1.toS.f4.length c4) := fun o => cell_alloc x4 o
  have xb4 : ∀ o o', ((w6.alloc o).alloc o').cell? ⟨gx, 4, none⟩ = some (.slice A4 q1.toS.f4.length c4) := fun o o' => cell_alloc (cell_alloc x4 o) o'
  have ya0 : ∀ o, (w6.alloc o).cell? ⟨gy, 0, none⟩ = some (.bool q2.toS.f0) := fun o => cell_alloc y0 o
  have yb0 : ∀ o o', ((w6.alloc o).alloc o').cell? ⟨gy, 0, none⟩ = some (.bool q2.toS.f0) := fun o o' => cell_alloc (cell_alloc y0 o) o'
  have ya1 : ∀ o, (w6.alloc o).cell? ⟨gy, 1, none⟩ = some (I q2.toS.f1) := fun o => cell_alloc y1 o
  have yb1 : ∀ o o', ((w6.alloc o).alloc o').cell? ⟨gy, 1, none⟩ = some (I q2.toS.f1) := fun o o' => cell_alloc (cell_alloc y1 o) o'
  have ya2 : ∀ o, (w6.alloc o).cell? ⟨gy, 2, none⟩ = some (I q2.toS.f2) := fun o => cell_alloc y2 o
  have yb2 : ∀ o o', ((w6.alloc o).alloc o').cell? ⟨gy, 2, none⟩ = some (I q2.toS.f2) := fun o o' => cell_alloc (cell_alloc y2 o) o'
  have ya3 : ∀ o, (w6.alloc o).cell? ⟨gy, 3, none⟩ = some (.slice B3 q2.toS.f3.length e3) := fun o => cell_alloc y3 o
  have yb3 : ∀ o o', ((w6.alloc o).alloc o').cell? ⟨gy, 3, none⟩ = some (.slice B3 q2.toS.f3.length e3) := fun o o' => cell_alloc (cell_alloc y3 o) o'
  have ya4 : ∀ o, (w6.alloc o).cell? ⟨gy, 4, none⟩ = some (.slice B4 q2.toS.f4.length e4) := fun o => cell_alloc y4 o
  have yb4 : ∀ o o', ((w6.alloc o).alloc o').cell? ⟨gy, 4, none⟩ = some (.slice B4 q2.toS.f4.length e4) := fun o o' => cell_alloc (cell_alloc y4 o) o'
  go_cut [18] from 96 to 102 (fun u wr => ∃ gp ga gk, u = .pointer (some ⟨gp, 0, none⟩) ∧ Hid (Bn w w6 wr g1 ga gp gk N #[.bool q1.toS.f0, I q1.toS.f1, I q1.toS.f2, .slice A3 q1.toS.f3.length c3, .slice A4 q1.toS.f4.length c4, .bool q2.toS.f0, I q2.toS.f1, I q2.toS.f2, .slice B3 q2.toS.f3.length e3, .slice B4 q2.toS.f4.length e4] 0) ∧ Hid (wr.rowIs ga 4 N (fun _ => .bool false)) ∧ Hid (wr.heap[g1]? = w6.heap[g1]?))
  case first =>
    go_region
    all_goals (go_wp2_with fail; go_meet; first
      | exact ⟨_, (w6.heap.size + 1), w6.heap.size, rfl, Lib.hid (bn_make HB6.out (three_blocks w6 _ _ _).2.2.2 (three_blocks w6 _ _ _).2.2.1 (three_blocks w6 _ _ _).1 (by omega) (by omega) (by omega) (by omega) (by omega) (by omega)), Lib.hid (made_row (three_blocks w6 _ _ _).2.1), Lib.hid ((three_blocks w6 _ _ _).2.2.2.block g1 (by have := HNUM.out; omega))⟩
      | exact ⟨_, (w6.heap.size + 1 + 1), w6.heap.size, rfl, Lib.hid (bn_make HB6.out (three_blocks w6 _ _ _).2.2.2 (three_blocks w6 _ _ _).2.1 (three_blocks w6 _ _ _).1 (by omega) (by omega) (by omega) (by omega) (by omega) (by omega)), Lib.hid (made_row (three_blocks w6 _ _ _).2.2.1), Lib.hid ((three_blocks w6 _ _ _).2.2.2.block g1 (by have := HNUM.out; omega))⟩
      | exact ⟨_, w6.heap.size, (w6.heap.size + 1), rfl, Lib.hid (bn_make HB6.out (three_blocks w6 _ _ _).2.2.2 (three_blocks w6 _ _ _).2.2.1 (three_blocks w6 _ _ _).2.1 (by omega) (by omega) (by omega) (by omega) (by omega) (by omega)), Lib.hid (made_row (three_blocks w6 _ _ _).1), Lib.hid ((three_blocks w6 _ _ _).2.2.2.block g1 (by have := HNUM.out; omega))⟩
      | exact ⟨_, (w6.heap.size + 1 + 1), (w6.heap.size + 1), rfl, Lib.hid (bn_make HB6.out (three_blocks w6 _ _ _).2.2.2 (three_blocks w6 _ _ _).1 (three_blocks w6 _ _ _).2.1 (by omega) (by omega) (by omega) (by omega) (by omega) (by omega)), Lib.hid (made_row (three_blocks w6 _ _ _).2.2.1), Lib.hid ((three_blocks w6 _ _ _).2.2.2.block g1 (by have := HNUM.out; omega))⟩
      | exact ⟨_, w6.heap.size, (w6.heap.size + 1 + 1), rfl, Lib.hid (bn_make HB6.out (three_blocks w6 _ _ _).2.2.2 (three_blocks w6 _ _ _).2.1 (three_blocks w6 _ _ _).2.2.1 (by omega) (by omega) (by omega) (by omega) (by omega) (by omega)), Lib.hid (made_row (three_blocks w6 _ _ _).1), Lib.hid ((three_blocks w6 _ _ _).2.2.2.block g1 (by have := HNUM.out; omega))⟩
      | exact ⟨_, (w6.heap.size + 1), (w6.heap.size + 1 + 1), rfl, Lib.hid (bn_make HB6.out (three_blocks w6 _ _ _).2.2.2 (three_blocks w6 _ _ _).1 (three_blocks w6 _ _ _).2.2.1 (by omega) (by omega) (by omega) (by omega) (by omega) (by omega)), Lib.hid (made_row (three_blocks w6 _ _ _).2.1), Lib.hid ((three_blocks w6 _ _ _).2.2.2.block g1 (by have := HNUM.out; omega))⟩)
  case rest =>
    clear x0 x1 x2 x3 x4 y0 y1 y2 y3 y4 xa0 xa1 xa2 xa3 xa4 xb0 xb1 xb2 xb3 xb4 ya0 ya1 ya2 ya3 ya4 yb0 yb1 yb2 yb3 yb4 hmk
    obtain ⟨gp, ga, gk, rfl, HBN, HTA, HG1B⟩ := hcut
    have HW6 : Hid (w.heap.size ≤ w6.heap.size) := Lib.hid HB6.out.size
    have HWG : Hid (w.heap.size ≤ g1) := Lib.hid (by have := HNUM.out; omega)
    have HG6 : Hid (g1 < w6.heap.size) := Lib.hid (by have := HNUM.out; omega)
    have HW0 : Hid (w.heap.size < w6.heap.size) := Lib.hid (by have := HNUM.out; omega)
    have HW1g : Hid (w.heap.size ≠ g1) := Lib.hid (by have := HNUM.out; omega)
    have HN1p : Hid (g1 ≠ gp) := Lib.hid (by have := HBN.out.np; have := HNUM.out; omega)
    have HN2p : Hid (g2 ≠ gp) := Lib.hid (by have := HBN.out.np; have := HNUM.out; omega)
    replace HT1 : Hid (wc.rowIs g1 4 N (fun i => .bool (f i))) := Lib.hid (HT1.out.of_block HG1B.out)
    replace HT2 : Hid (wc.rowIs g2 4 N (fun i => .bool (g i))) := Lib.hid (HT2.out.of_block (HBN.out.keep _ (by have := HNUM.out; omega) (by have := HNUM.out; omega)))
    rcases HK.out with rfl | rfl <;> cases neg
    · have k0 : wc.cell? ⟨w.heap.size, 0, none⟩ = some (I 3) := (blk_cell ((HBN.out.keep _ HW0.out HW1g.out).trans HK6.out) 0).trans rfl
      have p2 : wc.cell? ⟨gp, 2, none⟩ = some (I 0) := (blk_cell HBN.out.pb 2).trans rfl
      have fp2 := blk_frozen HBN.out.pb 2
      go_upto_region 24 with fail
      clear k0 p2 fp2
      replace HT1 := Lib.hid (HT1.out.setOther (a := ⟨gp, 2, none⟩) HN1p.out (I 1))
      replace HT2 := Lib.hid (HT2.out.setOther (a := ⟨gp, 2, none⟩) HN2p.out (I 1))
      replace HTA := Lib.hid (HTA.out.setOther (a := ⟨gp, 2, none⟩) (fun e => HBN.out.n1 e.symm) (I 1))
      replace HBN := Lib.hid (HBN.out.player HW6.out 1)
      generalize wc.setCell ⟨gp, 2, none⟩ (I 1) = wd at *
      go_wp2
      go_loopw [113] (fun y wr => ∃ i : Nat, i ≤ N ∧ y = I i ∧ Hid (Bn w w6 wr g1 ga gp gk N #[.bool q1.toS.f0, I q1.toS.f1, I q1.toS.f2, .slice A3 q1.toS.f3.length c3, .slice A4 q1.toS.f4.length c4, .bool q2.toS.f0, I q2.toS.f1, I q2.toS.f2, .slice B3 q2.toS.f3.length e3, .slice B4 q2.toS.f4.length e4] 1) ∧ Hid (wr.rowIs g1 4 N (fun u => .bool (if u < i then f u && g u else f u))) ∧ Hid (wr.rowIs ga 4 N (fun u => .bool (if u < i then (f u != false) != false else false))) ∧ Hid (wr.rowIs g2 4 N (fun u => .bool (g u)))) (fun y _ => N - (intOf y).toNat)
      case atStart => exact ⟨0, Nat.zero_le _, rfl, HBN, Lib.hid (HT1.out.congr fun u _ => by simp), Lib.hid (HTA.out.congr fun u _ => by simp), HT2⟩
      case round =>
        have HGp : Hid (w6.heap.size ≤ gp ∧ w6.heap.size ≤ ga ∧ gp ≠ ga) := Lib.hid ⟨HBN.out.np, HBN.out.na, HBN.out.n1⟩
        clear HBN HT1 HTA HT2
        obtain ⟨i, hi, rfl, HBr, H1r, HAr, H2r⟩ := hrel
        by_cases hin : i < N
        · have hi0 : (0 : Int) ≤ i := by omega
          have hi1 : (i : Int) < N := by omega
          have c1 := H1r.out.cell hin
          rw [if_neg (Nat.lt_irrefl i)] at c1
          have ca := HAr.out.cell hin
          have qa := HAr.out.frozen i
          have p3 : wr.cell? ⟨gp, 3, none⟩ = some (.slice (some ⟨ga, 0, none⟩) N N) := (blk_cell HBr.out.pb 3).trans rfl
          have HN1a : Hid (g1 ≠ ga) := Lib.hid (by have := HGp.out; have := HNUM.out; omega)
          have HN2a : Hid (g2 ≠ ga) := Lib.hid (by have := HGp.out; have := HNUM.out; omega)
          have HNa1 : Hid (ga ≠ g1) := Lib.hid (fun e => HN1a.out e.symm)
          have HN21 : Hid (g2 ≠ g1) := Lib.hid (by have := HNUM.out; omega)
          obtain ⟨gi, hgi⟩ : ∃ gi, gi = g i := ⟨_, rfl⟩
          have hgi' : g i = gi := hgi.symm
          cases hfi : f i with
          | true =>
            rw [hfi] at c1
            have hop : (f i && g i) = gi := by rw [hfi, ← hgi]; simp
            have hak : ((f i != false) != false) = true := by rw [hfi]; rfl
            have HOP := Lib.hid hop
            have HAK := Lib.hid hak
            clear hop hak hfi hgi
            go_upto_region 28 with fail
            have HB2 := Lib.hid (HBr.out.seta HW6.out i (.bool true))
            have HA2 := Lib.hid (HAr.out.set i (.bool true))
            have H12 := Lib.hid (H1r.out.setOther (a := ⟨ga, i, none⟩) HN1a.out (.bool true))
            have H22 := Lib.hid (H2r.out.setOther (a := ⟨ga, i, none⟩) HN2a.out (.bool true))
            clear c1 p3 ca qa
            generalize wr.setCell ⟨ga, i, none⟩ (.bool true) = wa at *
            have c1 := H12.out.cell hin
            have q1 := H12.out.frozen i
            have c2 := H22.out.cell hin
            rw [if_neg (Nat.lt_irrefl i)] at c1
            rw [hgi'] at c2
            go_upto_region 29 with fail
            have HB3 := Lib.hid (HB2.out.set1 HWG.out HG6.out i (.bool gi))
            have HA3 := Lib.hid (HA2.out.setOther (a := ⟨g1, i, none⟩) HNa1.out (.bool gi))
            have H13 := Lib.hid (H12.out.set i (.bool gi))
            have H23 := Lib.hid (H22.out.setOther (a := ⟨g1, i, none⟩) HN21.out (.bool gi))
            clear c1 q1 c2
            generalize wa.setCell ⟨g1, i, none⟩ (.bool gi) = wb at *
            have k0 : wb.cell? ⟨w.heap.size, 0, none⟩ = some (I 3) := (blk_cell ((HB3.out.keep _ HW0.out HW1g.out).trans HK6.out) 0).trans rfl
            have HE1 : Hid (wb.rowIs g1 4 N (fun u => .bool (if u < i + 1 then f u && g u else f u))) := Lib.hid (H13.out.congr fun u hu => by
              by_cases e : u = i
              · subst e; rw [if_pos (Nat.lt_succ_self u), HOP.out]; simp
              · have hlt : (u < i) ↔ (u < i + 1) := by omega
                simp [e, hlt])
            have HE2 : Hid (wb.rowIs ga 4 N (fun u => .bool (if u < i + 1 then (f u != false) != false else false))) := Lib.hid (HA3.out.congr fun u hu => by
              by_cases e : u = i
              · subst e; rw [if_pos (Nat.lt_succ_self u), HAK.out, if_pos rfl]
              · have hlt : (u < i) ↔ (u < i + 1) := by omega
                simp only [e, hlt, if_false])
            have HE3 := Lib.hid HB3.out
            have HE4 := Lib.hid H23.out
            clear HB2 HB3 HA2 HA3 H12 H13 H22 H23 H1r HAr H2r
            go_wp2
            go_roundw
            case rel => exact ⟨i + 1, by omega, by go_num, HE3, HE1, HE2, HE4⟩
            case measure => simp [intOf]; omega
          | false =>
            rw [hfi] at c1
            have hop : (f i && g i) = false := by rw [hfi, ← hgi]; simp
            have hak : ((f i != false) != false) = false := by rw [hfi]; rfl
            have HOP := Lib.hid hop
            have HAK := Lib.hid hak
            clear hop hak hfi hgi
            go_upto_region 28 with fail
            have HB2 := Lib.hid (HBr.out.seta HW6.out i (.bool false))
            have HA2 := Lib.hid (HAr.out.set i (.bool false))
            have H12 := Lib.hid (H1r.out.setOther (a := ⟨ga, i, none⟩) HN1a.out (.bool false))
            have H22 := Lib.hid (H2r.out.setOther (a := ⟨ga, i, none⟩) HN2a.out (.bool false))
            clear c1 p3 ca qa
            generalize wr.setCell ⟨ga, i, none⟩ (.bool false) = wa at *
            have c1 := H12.out.cell hin
            have q1 := H12.out.frozen i
            have c2 := H22.out.cell hin
            rw [if_neg (Nat.lt_irrefl i)] at c1
            rw [hgi'] at c2
            go_upto_region 29 with fail
            have HB3 := Lib.hid (HB2.out.set1 HWG.out HG6.out i (.bool false))
            have HA3 := Lib.hid (HA2.out.setOther (a := ⟨g1, i, none⟩) HNa1.out (.bool false))
            have H13 := Lib.hid (H12.out.set i (.bool false))
            have H23 := Lib.hid (H22.out.setOther (a := ⟨g1, i, none⟩) HN21.out (.bool false))
            clear c1 q1 c2
            generalize wa.setCell ⟨g1, i, none⟩ (.bool false) = wb at *
            have k0 : wb.cell? ⟨w.heap.size, 0, none⟩ = some (I 3) := (blk_cell ((HB3.out.keep _ HW0.out HW1g.out).trans HK6.out) 0).trans rfl
            have HE1 : Hid (wb.rowIs g1 4 N (fun u => .bool (if u < i + 1 then f u && g u else f u))) := Lib.hid (H13.out.congr fun u hu => by
              by_cases e : u = i
              · subst e; rw [if_pos (Nat.lt_succ_self u), HOP.out]; simp
              · have hlt : (u < i) ↔ (u < i + 1) := by omega
                simp [e, hlt])
            have HE2 : Hid (wb.rowIs ga 4 N (fun u => .bool (if u < i + 1 then (f u != false) != false else false))) := Lib.hid (HA3.out.congr fun u hu => by
              by_cases e : u = i
              · subst e; rw [if_pos (Nat.lt_succ_self u), HAK.out, if_pos rfl]
              · have hlt : (u < i) ↔ (u < i + 1) := by omega
                simp only [e, hlt, if_false])
            have HE3 := Lib.hid HB3.out
            have HE4 := Lib.hid H23.out
            clear HB2 HB3 HA2 HA3 H12 H13 H22 H23 H1r HAr H2r
            go_wp2
            go_roundw
            case rel => exact ⟨i + 1, by omega, by go_num, HE3, HE1, HE2, HE4⟩
            case measure => simp [intOf]; omega
        · obtain rfl : N = i := by omega
          have HRr := Lib.hid ((HBr.out.keep (w.heap.size + 1) (by have := HNUM.out; omega) (by have := HNUM.out; omega)).trans HR6.out)
          have p0 : wr.cell? ⟨gp, 0, none⟩ = some (.bool false) := (blk_cell HBr.out.pb 0).trans rfl
          have p1 : wr.cell? ⟨gp, 1, none⟩ = some (I 0) := (blk_cell HBr.out.pb 1).trans rfl
          have p2 : wr.cell? ⟨gp, 2, none⟩ = some (I 1) := (blk_cell HBr.out.pb 2).trans rfl
          have p3 : wr.cell? ⟨gp, 3, none⟩ = some (.slice (some ⟨ga, 0, none⟩) N N) := (blk_cell HBr.out.pb 3).trans rfl
          have p4 : wr.cell? ⟨gp, 4, none⟩ = some (.slice (some ⟨gk, 0, none⟩) 2 2) := (blk_cell HBr.out.pb 4).trans rfl
          have r0 : wr.cell? ⟨w.heap.size + 1, 0, none⟩ = some (.bool false) := (blk_cell HRr.out 0).trans rfl
          have r1 : wr.cell? ⟨w.heap.size + 1, 1, none⟩ = some (I 0) := (blk_cell HRr.out 1).trans rfl
          have r2 : wr.cell? ⟨w.heap.size + 1, 2, none⟩ = some (I 0) := (blk_cell HRr.out 2).trans rfl
          have r3 : wr.cell? ⟨w.heap.size + 1, 3, none⟩ = some (.slice none 0 0) := (blk_cell HRr.out 3).trans rfl
          have r4 : wr.cell? ⟨w.heap.size + 1, 4, none⟩ = some (.slice none 0 0) := (blk_cell HRr.out 4).trans rfl
          have s0 := blk_frozen HRr.out 0
          have s1 := blk_frozen HRr.out 1
          have s2 := blk_frozen HRr.out 2
          have s3 := blk_frozen HRr.out 3
          have s4 := blk_frozen HRr.out 4
          go_wp2
          have HFr := Lib.hid (blk_put5 (a := .bool false) (b := I 0) (c := I 1) (d := .slice (some ⟨ga, 0, none⟩) N N) (e := .slice (some ⟨gk, 0, none⟩) 2 2) HRr.out)
          have HBF := Lib.hid (below_put5 (a := .bool false) (b := I 0) (c := I 1) (d := .slice (some ⟨ga, 0, none⟩) N N) (e := .slice (some ⟨gk, 0, none⟩) 2 2) HBr.out.bel (Nat.le_succ _))
          refine bodyPost_ret (results_ct (by rfl) _ _ (w.heap.size + 1) 32 #[.bool false, I 0, I 1, .slice (some ⟨ga, 0, none⟩) N N, .slice (some ⟨gk, 0, none⟩) 2 2] (0, 0) _ (by rfl) HFr.out Try.underlying32 (by rfl) (by kernel_rfl)) rfl ?_
          rw [HQQ.out, HOO.out]
          exact node_end (k := 3) (neg := false) (f := f) (g := g) (op := fun i => if (3 : Int) = 3 then f i && g i else f i || g i) (by decide) hp12 HSZ.out HNUM.out HBr.out (H1r.out.congr fun u hu => by rw [if_pos hu]; rfl) (HAr.out.congr fun u hu => by rw [if_pos hu]; rfl) HP1.out HP2.out HB3.out HBL4.out HBL6.out HGX.out HGY.out HSX.out HB46.out HBF.out
    · have k0 : wc.cell? ⟨w.heap.size, 0, none⟩ = some (I 3) := (blk_cell ((HBN.out.keep _ HW0.out HW1g.out).trans HK6.out) 0).trans rfl
      have p2 : wc.cell? ⟨gp, 2, none⟩ = some (I 0) := (blk_cell HBN.out.pb 2).trans rfl
      have fp2 := blk_frozen HBN.out.pb 2
      go_upto_region 24 with fail
      clear k0 p2 fp2
      go_wp2
      go_loopw [113] (fun y wr => ∃ i : Nat, i ≤ N ∧ y = I i ∧ Hid (Bn w w6 wr g1 ga gp gk N #[.bool q1.toS.f0, I q1.toS.f1, I q1.toS.f2, .slice A3 q1.toS.f3.length c3, .slice A4 q1.toS.f4.length c4, .bool q2.toS.f0, I q2.toS.f1, I q2.toS.f2, .slice B3 q2.toS.f3.length e3, .slice B4 q2.toS.f4.length e4] 0) ∧ Hid (wr.rowIs g1 4 N (fun u => .bool (if u < i then f u && g u else f u))) ∧ Hid (wr.rowIs ga 4 N (fun u => .bool (if u < i then (f u != true) != true else false))) ∧ Hid (wr.rowIs g2 4 N (fun u => .bool (g u)))) (fun y _ => N - (intOf y).toNat)
      case atStart => exact ⟨0, Nat.zero_le _, rfl, HBN, Lib.hid (HT1.out.congr fun u _ => by simp), Lib.hid (HTA.out.congr fun u _ => by simp), HT2⟩
      case round =>
        have HGp : Hid (w6.heap.size ≤ gp ∧ w6.heap.size ≤ ga ∧ gp ≠ ga) := Lib.hid ⟨HBN.out.np, HBN.out.na, HBN.out.n1⟩
        clear HBN HT1 HTA HT2
        obtain ⟨i, hi, rfl, HBr, H1r, HAr, H2r⟩ := hrel
        by_cases hin : i < N
        · have hi0 : (0 : Int) ≤ i := by omega
          have hi1 : (i : Int) < N := by omega
          have c1 := H1r.out.cell hin
          rw [if_neg (Nat.lt_irrefl i)] at c1
          have ca := HAr.out.cell hin
          have qa := HAr.out.frozen i
          have p3 : wr.cell? ⟨gp, 3, none⟩ = some (.slice (some ⟨ga, 0, none⟩) N N) := (blk_cell HBr.out.pb 3).trans rfl
          have HN1a : Hid (g1 ≠ ga) := Lib.hid (by have := HGp.out; have := HNUM.out; omega)
          have HN2a : Hid (g2 ≠ ga) := Lib.hid (by have := HGp.out; have := HNUM.out; omega)
          have HNa1 : Hid (ga ≠ g1) := Lib.hid (fun e => HN1a.out e.symm)
          have HN21 : Hid (g2 ≠ g1) := Lib.hid (by have := HNUM.out; omega)
          obtain ⟨gi, hgi⟩ : ∃ gi, gi = g i := ⟨_, rfl⟩
          have hgi' : g i = gi := hgi.symm
          cases hfi : f i with
          | true =>
            rw [hfi] at c1
            have hop : (f i && g i) = gi := by rw [hfi, ← hgi]; simp
            have hak : ((f i != true) != true) = true := by rw [hfi]; rfl
            have HOP := Lib.hid hop
            have HAK := Lib.hid hak
            clear hop hak hfi hgi
            go_upto_region 28 with fail
            have HB2 := Lib.hid (HBr.out.seta HW6.out i (.bool true))
            have HA2 := Lib.hid (HAr.out.set i (.bool true))
            have H12 := Lib.hid (H1r.out.setOther (a := ⟨ga, i, none⟩) HN1a.out (.bool true))
            have H22 := Lib.hid (H2r.out.setOther (a := ⟨ga, i, none⟩) HN2a.out (.bool true))
            clear c1 p3 ca qa
            generalize wr.setCell ⟨ga, i, none⟩ (.bool true) = wa at *
            have c1 := H12.out.cell hin
            have q1 := H12.out.frozen i
            have c2 := H22.out.cell hin
            rw [if_neg (Nat.lt_irrefl i)] at c1
            rw [hgi'] at c2
            go_upto_region 29 with fail
            have HB3 := Lib.hid (HB2.out.set1 HWG.out HG6.out i (.bool gi))
            have HA3 := Lib.hid (HA2.out.setOther (a := ⟨g1, i, none⟩) HNa1.out (.bool gi))
            have H13 := Lib.hid (H12.out.set i (.bool gi))
            have H23 := Lib.hid (H22.out.setOther (a := ⟨g1, i, none⟩) HN21.out (.bool gi))
            clear c1 q1 c2
            generalize wa.setCell ⟨g1, i, none⟩ (.bool gi) = wb at *
            have k0 : wb.cell? ⟨w.heap.size, 0, none⟩ = some (I 3) := (blk_cell ((HB3.out.keep _ HW0.out HW1g.out).trans HK6.out) 0).trans rfl
            have HE1 : Hid (wb.rowIs g1 4 N (fun u => .bool (if u < i + 1 then f u && g u else f u))) := Lib.hid (H13.out.congr fun u hu => by
              by_cases e : u = i
              · subst e; rw [if_pos (Nat.lt_succ_self u), HOP.out]; simp
              · have hlt : (u < i) ↔ (u < i + 1) := by omega
                simp [e, hlt])
            have HE2 : Hid (wb.rowIs ga 4 N (fun u => .bool (if u < i + 1 then (f u != true) != true else false))) := Lib.hid (HA3.out.congr fun u hu => by
              by_cases e : u = i
              · subst e; rw [if_pos (Nat.lt_succ_self u), HAK.out, if_pos rfl]
              · have hlt : (u < i) ↔ (u < i + 1) := by omega
                simp only [e, hlt, if_false])
            have HE3 := Lib.hid HB3.out
            have HE4 := Lib.hid H23.out
            clear HB2 HB3 HA2 HA3 H12 H13 H22 H23 H1r HAr H2r
            go_wp2
            go_roundw
            case rel => exact ⟨i + 1, by omega, by go_num, HE3, HE1, HE2, HE4⟩
            case measure => simp [intOf]; omega
          | false =>
            rw [hfi] at c1
            have hop : (f i && g i) = false := by rw [hfi, ← hgi]; simp
            have hak : ((f i != true) != true) = false := by rw [hfi]; rfl
            have HOP := Lib.hid hop
            have HAK := Lib.hid hak
            clear hop hak hfi hgi
            go_upto_region 28 with fail
            have HB2 := Lib.hid (HBr.out.seta HW6.out i (.bool false))
            have HA2 := Lib.hid (HAr.out.set i (.bool false))
            have H12 := Lib.hid (H1r.out.setOther (a := ⟨ga, i, none⟩) HN1a.out (.bool false))
            have H22 := Lib.hid (H2r.out.setOther (a := ⟨ga, i, none⟩) HN2a.out (.bool false))
            clear c1 p3 ca qa
            generalize wr.setCell ⟨ga, i, none⟩ (.bool false) = wa at *
            have c1 := H12.out.cell hin
            have q1 := H12.out.frozen i
            have c2 := H22.out.cell hin
            rw [if_neg (Nat.lt_irrefl i)] at c1
            rw [hgi'] at c2
            go_upto_region 29 with fail
            have HB3 := Lib.hid (HB2.out.set1 HWG.out HG6.out i (.bool false))
            have HA3 := Lib.hid (HA2.out.setOther (a := ⟨g1, i, none⟩) HNa1.out (.bool false))
            have H13 := Lib.hid (H12.out.set i (.bool false))
            have H23 := Lib.hid (H22.out.setOther (a := ⟨g1, i, none⟩) HN21.out (.bool false))
            clear c1 q1 c2
            generalize wa.setCell ⟨g1, i, none⟩ (.bool false) = wb at *
            have k0 : wb.cell? ⟨w.heap.size, 0, none⟩ = some (I 3) := (blk_cell ((HB3.out.keep _ HW0.out HW1g.out).trans HK6.out) 0).trans rfl
            have HE1 : Hid (wb.rowIs g1 4 N (fun u => .bool (if u < i + 1 then f u && g u else f u))) := Lib.hid (H13.out.congr fun u hu => by
              by_cases e : u = i
              · subst e; rw [if_pos (Nat.lt_succ_self u), HOP.out]; simp
              · have hlt : (u < i) ↔ (u < i + 1) := by omega
                simp [e, hlt])
            have HE2 : Hid (wb.rowIs ga 4 N (fun u => .bool (if u < i + 1 then (f u != true) != true else false))) := Lib.hid (HA3.out.congr fun u hu => by
              by_cases e : u = i
              · subst e; rw [if_pos (Nat.lt_succ_self u), HAK.out, if_pos rfl]
              · have hlt : (u < i) ↔ (u < i + 1) := by omega
                simp only [e, hlt, if_false])
            have HE3 := Lib.hid HB3.out
            have HE4 := Lib.hid H23.out
            clear HB2 HB3 HA2 HA3 H12 H13 H22 H23 H1r HAr H2r
            go_wp2
            go_roundw
            case rel => exact ⟨i + 1, by omega, by go_num, HE3, HE1, HE2, HE4⟩
            case measure => simp [intOf]; omega
        · obtain rfl : N = i := by omega
          have HRr := Lib.hid ((HBr.out.keep (w.heap.size + 1) (by have := HNUM.out; omega) (by have := HNUM.out; omega)).trans HR6.out)
          have p0 : wr.cell? ⟨gp, 0, none⟩ = some (.bool false) := (blk_cell HBr.out.pb 0).trans rfl
          have p1 : wr.cell? ⟨gp, 1, none⟩ = some (I 0) := (blk_cell HBr.out.pb 1).trans rfl
          have p2 : wr.cell? ⟨gp, 2, none⟩ = some (I 0) := (blk_cell HBr.out.pb 2).trans rfl
          have p3 : wr.cell? ⟨gp, 3, none⟩ = some (.slice (some ⟨ga, 0, none⟩) N N) := (blk_cell HBr.out.pb 3).trans rfl
          have p4 : wr.cell? ⟨gp, 4, none⟩ = some (.slice (some ⟨gk, 0, none⟩) 2 2) := (blk_cell HBr.out.pb 4).trans rfl
          have r0 : wr.cell? ⟨w.heap.size + 1, 0, none⟩ = some (.bool false) := (blk_cell HRr.out 0).trans rfl
          have r1 : wr.cell? ⟨w.heap.size + 1, 1, none⟩ = some (I 0) := (blk_cell HRr.out 1).trans rfl
          have r2 : wr.cell? ⟨w.heap.size + 1, 2, none⟩ = some (I 0) := (blk_cell HRr.out 2).trans rfl
          have r3 : wr.cell? ⟨w.heap.size + 1, 3, none⟩ = some (.slice none 0 0) := (blk_cell HRr.out 3).trans rfl
          have r4 : wr.cell? ⟨w.heap.size + 1, 4, none⟩ = some (.slice none 0 0) := (blk_cell HRr.out 4).trans rfl
          have s0 := blk_frozen HRr.out 0
          have s1 := blk_frozen HRr.out 1
          have s2 := blk_frozen HRr.out 2
          have s3 := blk_frozen HRr.out 3
          have s4 := blk_frozen HRr.out 4
          go_wp2
          have HFr := Lib.hid (blk_put5 (a := .bool false) (b := I 0) (c := I 0) (d := .slice (some ⟨ga, 0, none⟩) N N) (e := .slice (some ⟨gk, 0, none⟩) 2 2) HRr.out)
          have HBF := Lib.hid (below_put5 (a := .bool false) (b := I 0) (c := I 0) (d := .slice (some ⟨ga, 0, none⟩) N N) (e := .slice (some ⟨gk, 0, none⟩) 2 2) HBr.out.bel (Nat.le_succ _))
          refine bodyPost_ret (results_ct (by rfl) _ _ (w.heap.size + 1) 32 #[.bool false, I 0, I 0, .slice (some ⟨ga, 0, none⟩) N N, .slice (some ⟨gk, 0, none⟩) 2 2] (0, 0) _ (by rfl) HFr.out Try.underlying32 (by rfl) (by kernel_rfl)) rfl ?_
          rw [HQQ.out, HOO.out]
          exact node_end (k := 3) (neg := true) (f := f) (g := g) (op := fun i => if (3 : Int) = 3 then f i && g i else f i || g i) (by decide) hp12 HSZ.out HNUM.out HBr.out (H1r.out.congr fun u hu => by rw [if_pos hu]; rfl) (HAr.out.congr fun u hu => by rw [if_pos hu]; rfl) HP1.out HP2.out HB3.out HBL4.out HBL6.out HGX.out HGY.out HSX.out HB46.out HBF.out
    · have k0 : wc.cell? ⟨w.heap.size, 0, none⟩ = some (I 4) := (blk_cell ((HBN.out.keep _ HW0.out HW1g.out).trans HK6.out) 0).trans rfl
      have p2 : wc.cell? ⟨gp, 2, none⟩ = some (I 0) := (blk_cell HBN.out.pb 2).trans rfl
      have fp2 := blk_frozen HBN.out.pb 2
      go_upto_region 24 with fail
      clear k0 p2 fp2
      go_wp2
      go_loopw [113] (fun y wr => ∃ i : Nat, i ≤ N ∧ y = I i ∧ Hid (Bn w w6 wr g1 ga gp gk N #[.bool q1.toS.f0, I q1.toS.f1, I q1.toS.f2, .slice A3 q1.toS.f3.length c3, .slice A4 q1.toS.f4.length c4, .bool q2.toS.f0, I q2.toS.f1, I q2.toS.f2, .slice B3 q2.toS.f3.length e3, .slice B4 q2.toS.f4.length e4] 0) ∧ Hid (wr.rowIs g1 4 N (fun u => .bool (if u < i then f u || g u else f u))) ∧ Hid (wr.rowIs ga 4 N (fun u => .bool (if u < i then (f u != false) != true else false))) ∧ Hid (wr.rowIs g2 4 N (fun u => .bool (g u)))) (fun y _ => N - (intOf y).toNat)
      case atStart => exact ⟨0, Nat.zero_le _, rfl, HBN, Lib.hid (HT1.out.congr fun u _ => by simp), Lib.hid (HTA.out.congr fun u _ => by simp), HT2⟩
      case round =>
        have HGp : Hid (w6.heap.size ≤ gp ∧ w6.heap.size ≤ ga ∧ gp ≠ ga) := Lib.hid ⟨HBN.out.np, HBN.out.na, HBN.out.n1⟩
        clear HBN HT1 HTA HT2
        obtain ⟨i, hi, rfl, HBr, H1r, HAr, H2r⟩ := hrel
        by_cases hin : i < N
        · have hi0 : (0 : Int) ≤ i := by omega
          have hi1 : (i : Int) < N := by omega
          have c1 := H1r.out.cell hin
          rw [if_neg (Nat.lt_irrefl i)] at c1
          have ca := HAr.out.cell hin
          have qa := HAr.out.frozen i
          have p3 : wr.cell? ⟨gp, 3, none⟩ = some (.slice (some ⟨ga, 0, none⟩) N N) := (blk_cell HBr.out.pb 3).trans rfl
          have HN1a : Hid (g1 ≠ ga) := Lib.hid (by have := HGp.out; have := HNUM.out; omega)
          have HN2a : Hid (g2 ≠ ga) := Lib.hid (by have := HGp.out; have := HNUM.out; omega)
          have HNa1 : Hid (ga ≠ g1) := Lib.hid (fun e => HN1a.out e.symm)
          have HN21 : Hid (g2 ≠ g1) := Lib.hid (by have := HNUM.out; omega)
          obtain ⟨gi, hgi⟩ : ∃ gi, gi = g i := ⟨_, rfl⟩
          have hgi' : g i = gi := hgi.symm
          cases hfi : f i with
          | true =>
            rw [hfi] at c1
            have hop : (f i || g i) = true := by rw [hfi, ← hgi]; simp
            have hak : ((f i != false) != true) = false := by rw [hfi]; rfl
            have HOP := Lib.hid hop
            have HAK := Lib.hid hak
            clear hop hak hfi hgi
            go_upto_region 28 with fail
            have HB2 := Lib.hid (HBr.out.seta HW6.out i (.bool false))
            have HA2 := Lib.hid (HAr.out.set i (.bool false))
            have H12 := Lib.hid (H1r.out.setOther (a := ⟨ga, i, none⟩) HN1a.out (.bool false))
            have H22 := Lib.hid (H2r.out.setOther (a := ⟨ga, i, none⟩) HN2a.out (.bool false))
            clear c1 p3 ca qa
            generalize wr.setCell ⟨ga, i, none⟩ (.bool false) = wa at *
            have c1 := H12.out.cell hin
            have q1 := H12.out.frozen i
            have c2 := H22.out.cell hin
            rw [if_neg (Nat.lt_irrefl i)] at c1
            rw [hgi'] at c2
            go_upto_region 29 with fail
            have HB3 := Lib.hid (HB2.out.set1 HWG.out HG6.out i (.bool gi))
            have HA3 := Lib.hid (HA2.out.setOther (a := ⟨g1, i, none⟩) HNa1.out (.bool gi))
            have H13 := Lib.hid (H12.out.set i (.bool gi))
            have H23 := Lib.hid (H22.out.setOther (a := ⟨g1, i, none⟩) HN21.out (.bool gi))
            clear c1 q1 c2
            generalize wa.setCell ⟨g1, i, none⟩ (.bool gi) = wb at *
            have k0 : wb.cell? ⟨w.heap.size, 0, none⟩ = some (I 4) := (blk_cell ((HB3.out.keep _ HW0.out HW1g.out).trans HK6.out) 0).trans rfl
            have c1 := H13.out.cell hin
            have q1 := H13.out.frozen i
            have c2 := H23.out.cell hin
            rw [hgi'] at c2
            have HE1 : Hid ((wb.setCell ⟨g1, i, none⟩ (.bool true)).rowIs g1 4 N (fun u => .bool (if u < i + 1 then f u || g u else f u))) := Lib.hid ((H13.out.set i (.bool true)).congr fun u hu => by
              by_cases e : u = i
              · subst e; rw [if_pos (Nat.lt_succ_self u), HOP.out]; simp
              · have hlt : (u < i) ↔ (u < i + 1) := by omega
                simp [e, hlt])
            have HE2 : Hid ((wb.setCell ⟨g1, i, none⟩ (.bool true)).rowIs ga 4 N (fun u => .bool (if u < i + 1 then (f u != false) != true else false))) := Lib.hid ((HA3.out.setOther (a := ⟨g1, i, none⟩) HNa1.out (.bool true)).congr fun u hu => by
              by_cases e : u = i
              · subst e; rw [if_pos (Nat.lt_succ_self u), HAK.out, if_pos rfl]
              · have hlt : (u < i) ↔ (u < i + 1) := by omega
                simp only [e, hlt, if_false])
            have HE3 := Lib.hid (HB3.out.set1 HWG.out HG6.out i (.bool true))
            have HE4 := Lib.hid (H23.out.setOther (a := ⟨g1, i, none⟩) HN21.out (.bool true))
            clear HB2 HB3 HA2 HA3 H12 H13 H22 H23 H1r HAr H2r
            go_wp2
            go_roundw
            case rel => exact ⟨i + 1, by omega, by go_num, HE3, HE1, HE2, HE4⟩
            case measure => simp [intOf]; omega
          | false =>
            rw [hfi] at c1
            have hop : (f i || g i) = gi := by rw [hfi, ← hgi]; simp
            have hak : ((f i != false) != true) = true := by rw [hfi]; rfl
            have HOP := Lib.hid hop
            have HAK := Lib.hid hak
            clear hop hak hfi hgi
            go_upto_region 28 with fail
            have HB2 := Lib.hid (HBr.out.seta HW6.out i (.bool true))
            have HA2 := Lib.hid (HAr.out.set i (.bool true))
            have H12 := Lib.hid (H1r.out.setOther (a := ⟨ga, i, none⟩) HN1a.out (.bool true))
            have H22 := Lib.hid (H2r.out.setOther (a := ⟨ga, i, none⟩) HN2a.out (.bool true))
            clear c1 p3 ca qa
            generalize wr.setCell ⟨ga, i, none⟩ (.bool true) = wa at *
            have c1 := H12.out.cell hin
            have q1 := H12.out.frozen i
            have c2 := H22.out.cell hin
            rw [if_neg (Nat.lt_irrefl i)] at c1
            rw [hgi'] at c2
            go_upto_region 29 with fail
            have HB3 := Lib.hid (HB2.out.set1 HWG.out HG6.out i (.bool false))
            have HA3 := Lib.hid (HA2.out.setOther (a := ⟨g1, i, none⟩) HNa1.out (.bool false))
            have H13 := Lib.hid (H12.out.set i (.bool false))
            have H23 := Lib.hid (H22.out.setOther (a := ⟨g1, i, none⟩) HN21.out (.bool false))
            clear c1 q1 c2
            generalize wa.setCell ⟨g1, i, none⟩ (.bool false) = wb at *
            have k0 : wb.cell? ⟨w.heap.size, 0, none⟩ = some (I 4) := (blk_cell ((HB3.out.keep _ HW0.out HW1g.out).trans HK6.out) 0).trans rfl
            have c1 := H13.out.cell hin
            have q1 := H13.out.frozen i
            have c2 := H23.out.cell hin
            rw [hgi'] at c2
            have HE1 : Hid ((wb.setCell ⟨g1, i, none⟩ (.bool gi)).rowIs g1 4 N (fun u => .bool (if u < i + 1 then f u || g u else f u))) := Lib.hid ((H13.out.set i (.bool gi)).congr fun u hu => by
              by_cases e : u = i
              · subst e; rw [if_pos (Nat.lt_succ_self u), HOP.out]; simp
              · have hlt : (u < i) ↔ (u < i + 1) := by omega
                simp [e, hlt])
            have HE2 : Hid ((wb.setCell ⟨g1, i, none⟩ (.bool gi)).rowIs ga 4 N (fun u => .bool (if u < i + 1 then (f u != false) != true else false))) := Lib.hid ((HA3.out.setOther (a := ⟨g1, i, none⟩) HNa1.out (.bool gi)).congr fun u hu => by
              by_cases e : u = i
              · subst e; rw [if_pos (Nat.lt_succ_self u), HAK.out, if_pos rfl]
              · have hlt : (u < i) ↔ (u < i + 1) := by omega
                simp only [e, hlt, if_false])
            have HE3 := Lib.hid (HB3.out.set1 HWG.out HG6.out i (.bool gi))
            have HE4 := Lib.hid (H23.out.setOther (a := ⟨g1, i, none⟩) HN21.out (.bool gi))
            clear HB2 HB3 HA2 HA3 H12 H13 H22 H23 H1r HAr H2r
            go_wp2
            go_roundw
            case rel => exact ⟨i + 1, by omega, by go_num, HE3, HE1, HE2, HE4⟩
            case measure => simp [intOf]; omega
        · obtain rfl : N = i := by omega
          have HRr := Lib.hid ((HBr.out.keep (w.heap.size + 1) (by have := HNUM.out; omega) (by have := HNUM.out; omega)).trans HR6.out)
          have p0 : wr.cell? ⟨gp, 0, none⟩ = some (.bool false) := (blk_cell HBr.out.pb 0).trans rfl
          have p1 : wr.cell? ⟨gp, 1, none⟩ = some (I 0) := (blk_cell HBr.out.pb 1).trans rfl
          have p2 : wr.cell? ⟨gp, 2, none⟩ = some (I 0) := (blk_cell HBr.out.pb 2).trans rfl
          have p3 : wr.cell? ⟨gp, 3, none⟩ = some (.slice (some ⟨ga, 0, none⟩) N N) := (blk_cell HBr.out.pb 3).trans rfl
          have p4 : wr.cell? ⟨gp, 4, none⟩ = some (.slice (some ⟨gk, 0, none⟩) 2 2) := (blk_cell HBr.out.pb 4).trans rfl
          have r0 : wr.cell? ⟨w.heap.size + 1, 0, none⟩ = some (.bool false) := (blk_cell HRr.out 0).trans rfl
          have r1 : wr.cell? ⟨w.heap.size + 1, 1, none⟩ = some (I 0) := (blk_cell HRr.out 1).trans rfl
          have r2 : wr.cell? ⟨w.heap.size + 1, 2, none⟩ = some (I 0) := (blk_cell HRr.out 2).trans rfl
          have r3 : wr.cell? ⟨w.heap.size + 1, 3, none⟩ = some (.slice none 0 0) := (blk_cell HRr.out 3).trans rfl
          have r4 : wr.cell? ⟨w.heap.size + 1, 4, none⟩ = some (.slice none 0 0) := (blk_cell HRr.out 4).trans rfl
          have s0 := blk_frozen HRr.out 0
          have s1 := blk_frozen HRr.out 1
          have s2 := blk_frozen HRr.out 2
          have s3 := blk_frozen HRr.out 3
          have s4 := blk_frozen HRr.out 4
          go_wp2
          have HFr := Lib.hid (blk_put5 (a := .bool false) (b := I 0) (c := I 0) (d := .slice (some ⟨ga, 0, none⟩) N N) (e := .slice (some ⟨gk, 0, none⟩) 2 2) HRr.out)
          have HBF := Lib.hid (below_put5 (a := .bool false) (b := I 0) (c := I 0) (d := .slice (some ⟨ga, 0, none⟩) N N) (e := .slice (some ⟨gk, 0, none⟩) 2 2) HBr.out.bel (Nat.le_succ _))
          refine bodyPost_ret (results_ct (by rfl) _ _ (w.heap.size + 1) 32 #[.bool false, I 0, I 0, .slice (some ⟨ga, 0, none⟩) N N, .slice (some ⟨gk, 0, none⟩) 2 2] (0, 0) _ (by rfl) HFr.out Try.underlying32 (by rfl) (by kernel_rfl)) rfl ?_
          rw [HQQ.out, HOO.out]
          exact node_end (k := 4) (neg := false) (f := f) (g := g) (op := fun i => if (4 : Int) = 3 then f i && g i else f i || g i) (by decide) hp12 HSZ.out HNUM.out HBr.out (H1r.out.congr fun u hu => by rw [if_pos hu]; rfl) (HAr.out.congr fun u hu => by rw [if_pos hu]; rfl) HP1.out HP2.out HB3.out HBL4.out HBL6.out HGX.out HGY.out HSX.out HB46.out HBF.out
    · have k0 : wc.cell? ⟨w.heap.size, 0, none⟩ = some (I 4) := (blk_cell ((HBN.out.keep _ HW0.out HW1g.out).trans HK6.out) 0).trans rfl
      have p2 : wc.cell? ⟨gp, 2, none⟩ = some (I 0) := (blk_cell HBN.out.pb 2).trans rfl
      have fp2 := blk_frozen HBN.out.pb 2
      go_upto_region 24 with fail
      clear k0 p2 fp2
      replace HT1 := Lib.hid (HT1.out.setOther (a := ⟨gp, 2, none⟩) HN1p.out (I 1))
      replace HT2 := Lib.hid (HT2.out.setOther (a := ⟨gp, 2, none⟩) HN2p.out (I 1))
      replace HTA := Lib.hid (HTA.out.setOther (a := ⟨gp, 2, none⟩) (fun e => HBN.out.n1 e.symm) (I 1))
      replace HBN := Lib.hid (HBN.out.player HW6.out 1)
      generalize wc.setCell ⟨gp, 2, none⟩ (I 1) = wd at *
      go_wp2
      go_loopw [113] (fun y wr => ∃ i : Nat, i ≤ N ∧ y = I i ∧ Hid (Bn w w6 wr g1 ga gp gk N #[.bool q1.toS.f0, I q1.toS.f1, I q1.toS.f2, .slice A3 q1.toS.f3.length c3, .slice A4 q1.toS.f4.length c4, .bool q2.toS.f0, I q2.toS.f1, I q2.toS.f2, .slice B3 q2.toS.f3.length e3, .slice B4 q2.toS.f4.length e4] 1) ∧ Hid (wr.rowIs g1 4 N (fun u => .bool (if u < i then f u || g u else f u))) ∧ Hid (wr.rowIs ga 4 N (fun u => .bool (if u < i then (f u != true) != false else false))) ∧ Hid (wr.rowIs g2 4 N (fun u => .bool (g u)))) (fun y _ => N - (intOf y).toNat)
      case atStart => exact ⟨0, Nat.zero_le _, rfl, HBN, Lib.hid (HT1.out.congr fun u _ => by simp), Lib.hid (HTA.out.congr fun u _ => by simp), HT2⟩
      case round =>
        have HGp : Hid (w6.heap.size ≤ gp ∧ w6.heap.size ≤ ga ∧ gp ≠ ga) := Lib.hid ⟨HBN.out.np, HBN.out.na, HBN.out.n1⟩
        clear HBN HT1 HTA HT2
        obtain ⟨i, hi, rfl, HBr, H1r, HAr, H2r⟩ := hrel
        by_cases hin : i < N
        · have hi0 : (0 : Int) ≤ i := by omega
          have hi1 : (i : Int) < N := by omega
          have c1 := H1r.out.cell hin
          rw [if_neg (Nat.lt_irrefl i)] at c1
          have ca := HAr.out.cell hin
          have qa := HAr.out.frozen i
          have p3 : wr.cell? ⟨gp, 3, none⟩ = some (.slice (some ⟨ga, 0, none⟩) N N) := (blk_cell HBr.out.pb 3).trans rfl
          have HN1a : Hid (g1 ≠ ga) := Lib.hid (by have := HGp.out; have := HNUM.out; omega)
          have HN2a : Hid (g2 ≠ ga) := Lib.hid (by have := HGp.out; have := HNUM.out; omega)
          have HNa1 : Hid (ga ≠ g1) := Lib.hid (fun e => HN1a.out e.symm)
          have HN21 : Hid (g2 ≠ g1) := Lib.hid (by have := HNUM.out; omega)
          obtain ⟨gi, hgi⟩ : ∃ gi, gi = g i := ⟨_, rfl⟩
          have hgi' : g i = gi := hgi.symm
          cases hfi : f i with
          | true =>
            rw [hfi] at c1
            have hop : (f i || g i) = true := by rw [hfi, ← hgi]; simp
            have hak : ((f i != true) != false) = false := by rw [hfi]; rfl
            have HOP := Lib.hid hop
            have HAK := Lib.hid hak
            clear hop hak hfi hgi
            go_upto_region 28 with fail
            have HB2 := Lib.hid (HBr.out.seta HW6.out i (.bool false))
            have HA2 := Lib.hid (HAr.out.set i (.bool false))
            have H12 := Lib.hid (H1r.out.setOther (a := ⟨ga, i, none⟩) HN1a.out (.bool false))
            have H22 := Lib.hid (H2r.out.setOther (a := ⟨ga, i, none⟩) HN2a.out (.bool false))
            clear c1 p3 ca qa
            generalize wr.setCell ⟨ga, i, none⟩ (.bool false) = wa at *
            have c1 := H12.out.cell hin
            have q1 := H12.out.frozen i
            have c2 := H22.out.cell hin
            rw [if_neg (Nat.lt_irrefl i)] at c1
            rw [hgi'] at c2
            go_upto_region 29 with fail
            have HB3 := Lib.hid (HB2.out.set1 HWG.out HG6.out i (.bool gi))
            have HA3 := Lib.hid (HA2.out.setOther (a := ⟨g1, i, none⟩) HNa1.out (.bool gi))
            have H13 := Lib.hid (H12.out.set i (.bool gi))
            have H23 := Lib.hid (H22.out.setOther (a := ⟨g1, i, none⟩) HN21.out (.bool gi))
            clear c1 q1 c2
            generalize wa.setCell ⟨g1, i, none⟩ (.bool gi) = wb at *
            have k0 : wb.cell? ⟨w.heap.size, 0, none⟩ = some (I 4) := (blk_cell ((HB3.out.keep _ HW0.out HW1g.out).trans HK6.out) 0).trans rfl
            have c1 := H13.out.cell hin
            have q1 := H13.out.frozen i
            have c2 := H23.out.cell hin
            rw [hgi'] at c2
            have HE1 : Hid ((wb.setCell ⟨g1, i, none⟩ (.bool true)).rowIs g1 4 N (fun u => .bool (if u < i + 1 then f u || g u else f u))) := Lib.hid ((H13.out.set i (.bool true)).congr fun u hu => by
              by_cases e : u = i
              · subst e; rw [if_pos (Nat.lt_succ_self u), HOP.out]; simp
              · have hlt : (u < i) ↔ (u < i + 1) := by omega
                simp [e, hlt])
            have HE2 : Hid ((wb.setCell ⟨g1, i, none⟩ (.bool true)).rowIs ga 4 N (fun u => .bool (if u < i + 1 then (f u != true) != false else false))) := Lib.hid ((HA3.out.setOther (a := ⟨g1, i, none⟩) HNa1.out (.bool true)).congr fun u hu => by
              by_cases e : u = i
              · subst e; rw [if_pos (Nat.lt_succ_self u), HAK.out, if_pos rfl]
              · have hlt : (u < i) ↔ (u < i + 1) := by omega
                simp only [e, hlt, if_false])
            have HE3 := Lib.hid (HB3.out.set1 HWG.out HG6.out i (.bool true))
            have HE4 := Lib.hid (H23.out.setOther (a := ⟨g1, i, none⟩) HN21.out (.bool true))
            clear HB2 HB3 HA2 HA3 H12 H13 H22 H23 H1r HAr H2r
            go_wp2
            go_roundw
            case rel => exact ⟨i + 1, by omega, by go_num, HE3, HE1, HE2, HE4⟩
            case measure => simp [intOf]; omega
          | false =>
            rw [hfi] at c1
            have hop : (f i || g i) = gi := by rw [hfi, ← hgi]; simp
            have hak : ((f i != true) != false) = true := by rw [hfi]; rfl
            have HOP := Lib.hid hop
            have HAK := Lib.hid hak
            clear hop hak hfi hgi
            go_upto_region 28 with fail
            have HB2 := Lib.hid (HBr.out.seta HW6.out i (.bool true))
            have HA2 := Lib.hid (HAr.out.set i (.bool true))
            have H12 := Lib.hid (H1r.out.setOther (a := ⟨ga, i, none⟩) HN1a.out (.bool true))
            have H22 := Lib.hid (H2r.out.setOther (a := ⟨ga, i, none⟩) HN2a.out (.bool true))
            clear c1 p3 ca qa
            generalize wr.setCell ⟨ga, i, none⟩ (.bool true) = wa at *
            have c1 := H12.out.cell hin
            have q1 := H12.out.frozen i
            have c2 := H22.out.cell hin
            rw [if_neg (Nat.lt_irrefl i)] at c1
            rw [hgi'] at c2
            go_upto_region 29 with fail
            have HB3 := Lib.hid (HB2.out.set1 HWG.out HG6.out i (.bool false))
            have HA3 := Lib.hid (HA2.out.setOther (a := ⟨g1, i, none⟩) HNa1.out (.bool false))
            have H13 := Lib.hid (H12.out.set i (.bool false))
            have H23 := Lib.hid (H22.out.setOther (a := ⟨g1, i, none⟩) HN21.out (.bool false))
            clear c1 q1 c2
            generalize wa.setCell ⟨g1, i, none⟩ (.bool false) = wb at *
            have k0 : wb.cell? ⟨w.heap.size, 0, none⟩ = some (I 4) := (blk_cell ((HB3.out.keep _ HW0.out HW1g.out).trans HK6.out) 0).trans rfl
            have c1 := H13.out.cell hin
            have q1 := H13.out.frozen i
            have c2 := H23.out.cell hin
            rw [hgi'] at c2
            have HE1 : Hid ((wb.setCell ⟨g1, i, none⟩ (.bool gi)).rowIs g1 4 N (fun u => .bool (if u < i + 1 then f u || g u else f u))) := Lib.hid ((H13.out.set i (.bool gi)).congr fun u hu => by
              by_cases e : u = i
              · subst e; rw [if_pos (Nat.lt_succ_self u), HOP.out]; simp
              · have hlt : (u < i) ↔ (u < i + 1) := by omega
                simp [e, hlt])
            have HE2 : Hid ((wb.setCell ⟨g1, i, none⟩ (.bool gi)).rowIs ga 4 N (fun u => .bool (if u < i + 1 then (f u != true) != false else false))) := Lib.hid ((HA3.out.setOther (a := ⟨g1, i, none⟩) HNa1.out (.bool gi)).congr fun u hu => by
              by_cases e : u = i
              · subst e; rw [if_pos (Nat.lt_succ_self u), HAK.out, if_pos rfl]
              · have hlt : (u < i) ↔ (u < i + 1) := by omega
                simp only [e, hlt, if_false])
            have HE3 := Lib.hid (HB3.out.set1 HWG.out HG6.out i (.bool gi))
            have HE4 := Lib.hid (H23.out.setOther (a := ⟨g1, i, none⟩) HN21.out (.bool gi))
            clear HB2 HB3 HA2 HA3 H12 H13 H22 H23 H1r HAr H2r
            go_wp2
            go_roundw
            case rel => exact ⟨i + 1, by omega, by go_num, HE3, HE1, HE2, HE4⟩
            case measure => simp [intOf]; omega
        · obtain rfl : N = i := by omega
          have HRr := Lib.hid ((HBr.out.keep (w.heap.size + 1) (by have := HNUM.out; omega) (by have := HNUM.out; omega)).trans HR6.out)
          have p0 : wr.cell? ⟨gp, 0, none⟩ = some (.bool false) := (blk_cell HBr.out.pb 0).trans rfl
          have p1 : wr.cell? ⟨gp, 1, none⟩ = some (I 0) := (blk_cell HBr.out.pb 1).trans rfl
          have p2 : wr.cell? ⟨gp, 2, none⟩ = some (I 1) := (blk_cell HBr.out.pb 2).trans rfl
          have p3 : wr.cell? ⟨gp, 3, none⟩ = some (.slice (some ⟨ga, 0, none⟩) N N) := (blk_cell HBr.out.pb 3).trans rfl
          have p4 : wr.cell? ⟨gp, 4, none⟩ = some (.slice (some ⟨gk, 0, none⟩) 2 2) := (blk_cell HBr.out.pb 4).trans rfl
          have r0 : wr.cell? ⟨w.heap.size + 1, 0, none⟩ = some (.bool false) := (blk_cell HRr.out 0).trans rfl
          have r1 : wr.cell? ⟨w.heap.size + 1, 1, none⟩ = some (I 0) := (blk_cell HRr.out 1).trans rfl
          have r2 : wr.cell? ⟨w.heap.size + 1, 2, none⟩ = some (I 0) := (blk_cell HRr.out 2).trans rfl
          have r3 : wr.cell? ⟨w.heap.size + 1, 3, none⟩ = some (.slice none 0 0) := (blk_cell HRr.out 3).trans rfl
          have r4 : wr.cell? ⟨w.heap.size + 1, 4, none⟩ = some (.slice none 0 0) := (blk_cell HRr.out 4).trans rfl
          have s0 := blk_frozen HRr.out 0
          have s1 := blk_frozen HRr.out 1
          have s2 := blk_frozen HRr.out 2
          have s3 := blk_frozen HRr.out 3
          have s4 := blk_frozen HRr.out 4
          go_wp2
          have HFr := Lib.hid (blk_put5 (a := .bool false) (b := I 0) (c := I 1) (d := .slice (some ⟨ga, 0, none⟩) N N) (e := .slice (some ⟨gk, 0, none⟩) 2 2) HRr.out)
          have HBF := Lib.hid (below_put5 (a := .bool false) (b := I 0) (c := I 1) (d := .slice (some ⟨ga, 0, none⟩) N N) (e := .slice (some ⟨gk, 0, none⟩) 2 2) HBr.out.bel (Nat.le_succ _))
          refine bodyPost_ret (results_ct (by rfl) _ _ (w.heap.size + 1) 32 #[.bool false, I 0, I 1, .slice (some ⟨ga, 0, none⟩) N N, .slice (some ⟨gk, 0, none⟩) 2 2] (0, 0) _ (by rfl) HFr.out Try.underlying32 (by rfl) (by kernel_rfl)) rfl ?_
          rw [HQQ.out, HOO.out]
          exact node_end (k := 4) (neg := true) (f := f) (g := g) (op := fun i => if (4 : Int) = 3 then f i && g i else f i || g i) (by decide) hp12 HSZ.out HNUM.out HBr.out (H1r.out.congr fun u hu => by rw [if_pos hu]; rfl) (HAr.out.congr fun u hu => by rw [if_pos hu]; rfl) HP1.out HP2.out HB3.out HBL4.out HBL6.out HGX.out HGY.out HSX.out HB46.out HBF.out
end Go.Proofs.Ytpfbommaddaijaa

