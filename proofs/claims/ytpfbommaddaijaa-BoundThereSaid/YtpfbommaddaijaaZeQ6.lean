/- made at a node. -/
import Derived.Test.YtpfbommaddaijaaZeQ5
namespace Go.Proofs.Ytpfbommaddaijaa
open Go.RowKit Go.Proofs.YtpfbommaddaijaaW.PrintWords Go.Proofs.YtpfbommaddaijaaW.PrintLast PBoundTo
set_option linter.unusedVariables false
set_option linter.unusedSimpArgs false

theorem info24' : (Try.prog.info? 24).map (fun i => (i.zero, i.size, i.bytes)) = some (some (.agg #[.int .i64 0, .int .i64 0, .slice none 0 0]), 3, 40) := by kernel_rfl
theorem comb_0 {k : Int} {f g : Fx × Bool} (h : f.2 = false) : comb k f g = (.leaf 0 0, false) := by unfold comb; rw [h]; rfl
theorem comb_1 {k : Int} {f g : Fx × Bool} (h : g.2 = false) : comb k f g = (.leaf 0 0, false) := by unfold comb; rw [h, Bool.and_false]; rfl
theorem comb_2 {k : Int} {f g : Fx × Bool} (h : f.2 = true) (h' : g.2 = true) : comb k f g = (.bin k f.1 g.1, true) := by unfold comb; rw [h, h']; rfl
/-- the kids so far: none, one, two -/
inductive Ks (B : Nat) (q0 q1 : Fx × Bool) (w : World) : Nat → Value → Prop
  | no : Ks B q0 q1 w 0 (.slice none 0 0)
  | one {v : Value} {cs : List Value} {N : Nat} : q0.2 = true → cs.length = 3 → w.ownsRow B 24 3 v 1 cs → FmS B N w q0.1 cs → N ≤ w.heap.size → (∀ k, v.ownBlock = some k → N ≤ k) → Ks B q0 q1 w 1 v
  | two {v : Value} {cs ds : List Value} {N : Nat} : q0.2 = true → q1.2 = true → cs.length = 3 → ds.length = 3 → w.ownsRow B 24 3 v 2 (cs ++ ds) → FmS B w.heap.size w q0.1 cs → FmS B w.heap.size w q1.1 ds → Ks B q0 q1 w 2 v
theorem Ks.drew {B : Nat} {q0 q1 : Fx × Bool} {w : World} {i : Nat} {v : Value} (h : Ks B q0 q1 w i v) : Ks B q0 q1 w.drew i v := by
  cases h with
  | no => exact .no
  | one a b c d e f => exact .one a b c d e f
  | two a b c d e f g => exact .two (N := 0) a b c d e f g
theorem Ks.at0 {B : Nat} {q0 q1 : Fx × Bool} {w : World} {v : Value} (h : Ks B q0 q1 w 0 v) : v = .slice none 0 0 := by cases h; rfl
theorem Ks.at1 {B : Nat} {q0 q1 : Fx × Bool} {w : World} {v : Value} (h : Ks B q0 q1 w 1 v) : ∃ (cs : List Value) (N : Nat), q0.2 = true ∧ cs.length = 3 ∧ w.ownsRow B 24 3 v 1 cs ∧ FmS B N w q0.1 cs ∧ N ≤ w.heap.size ∧ (∀ k, v.ownBlock = some k → N ≤ k) := by
  cases h with
  | one a b c d e f => exact ⟨_, _, a, b, c, d, e, f⟩
theorem Ks.at2 {B : Nat} {q0 q1 : Fx × Bool} {w : World} {v : Value} (h : Ks B q0 q1 w 2 v) : ∃ (cs ds : List Value), q0.2 = true ∧ q1.2 = true ∧ cs.length = 3 ∧ ds.length = 3 ∧ w.ownsRow B 24 3 v 2 (cs ++ ds) ∧ FmS B w.heap.size w q0.1 cs ∧ FmS B w.heap.size w q1.1 ds := by
  cases h with
  | two a b c d e f g => exact ⟨_, _, a, b, c, d, e, f, g⟩
theorem one_cells {k n : Int} {A : Option Addr} {l c : Nat} : ∀ u ∈ [I k, I n, Value.slice A l c], u.oneCell' = true := by
  intro u hu
  simp at hu
  rcases hu with rfl | rfl | rfl <;> rfl
/-- the first kid appended -/
theorem Ks.first {B : Nat} {q0 q1 : Fx × Bool} {w5 w6 w7 : World} {v : Value} {cs : List Value} (hB : B ≤ w5.heap.size) (hq : q0.2 = true) (hc : cs.length = 3) (hf : FmS B w5.heap.size w5 q0.1 cs) (hb : Below w5.heap.size w5 w6) (ho : w7.ownsRow B 24 3 v 1 ([] ++ cs)) (hg : w6.grownBy w7 (Value.slice none 0 0).ownBlock) (hat : v.ownBlock = (Value.slice none 0 0).ownBlock ∨ ∃ b, v.ownBlock = some b ∧ w6.heap.size ≤ b) : Ks B q0 q1 w7 1 v := by
  have hkeep : ∀ k, k < w5.heap.size → w7.heap[k]? = w5.heap[k]? := fun k hk => (hg.block k (Nat.lt_of_lt_of_le hk hb.size) (by simp [Value.ownBlock])).trans (hb.block k hk)
  refine .one (N := w5.heap.size) hq hc (by simpa using ho) (hf.on fun k _ hk => hkeep k hk) (Nat.le_trans hb.size hg.size) (fun k hk => ?_)
  rcases hat with hat | ⟨b, hb1, hb2⟩
  · rw [hat] at hk; simp [Value.ownBlock] at hk
  · rw [hb1] at hk; cases hk; exact Nat.le_trans hb.size hb2
/-- the second kid appended -/
theorem Ks.second {B N : Nat} {q0 q1 : Fx × Bool} {wr w5 w6 w7 : World} {u v : Value} {cs ds : List Value} (h0 : q0.2 = true) (h1 : q1.2 = true) (hc : cs.length = 3) (hd : ds.length = 3) (hu : wr.ownsRow B 24 3 u 1 cs) (hf : FmS B N wr q0.1 cs) (hN : N ≤ wr.heap.size) (hNu : ∀ k, u.ownBlock = some k → N ≤ k) (hb5 : Below wr.heap.size wr w5) (hf1 : FmS wr.heap.size w5.heap.size w5 q1.1 ds) (hBw : B ≤ wr.heap.size) (hb : Below w5.heap.size w5 w6) (ho : w7.ownsRow B 24 3 v 2 (cs ++ ds)) (hg : w6.grownBy w7 u.ownBlock) : Ks B q0 q1 w7 2 v := by
  have hlt : ∀ k, u.ownBlock = some k → k < wr.heap.size := fun k hk => own_lt hu k hk
  have hs : w5.heap.size ≤ w7.heap.size := Nat.le_trans hb.size hg.size
  refine .two (N := 0) h0 h1 hc hd ho ?_ ?_
  · refine (hf.on fun k h1 h2 => ?_).wide (Nat.le_refl _) (Nat.le_trans hN (Nat.le_trans hb5.size hs))
    have k1 : k < wr.heap.size := by omega
    have k2 : k < w5.heap.size := Nat.lt_of_lt_of_le k1 hb5.size
    exact (hg.block k (Nat.lt_of_lt_of_le k2 hb.size) (fun e => by have := hNu k e.symm; omega)).trans ((hb.block k k2).trans (hb5.block k k1))
  · refine (hf1.on fun k h1 h2 => ?_).wide hBw hs
    exact (hg.block k (Nat.lt_of_lt_of_le h2 hb.size) (fun e => by have := hlt k e.symm; omega)).trans (hb.block k h2)
/-- the node over its kids -/
theorem Ks.node {B : Nat} {q0 q1 : Fx × Bool} {w w' : World} {v : Value} {k : Int} (h : Ks B q0 q1 w 2 v) (hs : w'.heap.size = w.heap.size) (hk : ∀ j, B ≤ j → w'.heap[j]? = w.heap[j]?) : ∃ A c, v = .slice A 2 c ∧ FmS B w'.heap.size w' (.bin k q0.1 q1.1) [I k, I 0, .slice A 2 c] ∧ q0.2 = true ∧ q1.2 = true := by
  obtain ⟨cs, ds, h0, h1, hc, hd, ho, hf, hf1⟩ := h.at2
  obtain ⟨hl, ho⟩ := ho
  rcases ho with ⟨_, h2⟩ | ⟨g, cap, cur, rfl, hg, hh, hcap, _, hcur, htk⟩
  · cases h2
  · refine ⟨_, _, rfl, fun w'' hw => ?_, h0, h1⟩
    have hgl : g < w.heap.size := blk_lt hh
    have hrow : w''.heap[g]? = some (.cells cur 24 (0, 0)) := (hw g hg (by omega)).trans ((hk g hg).trans hh)
    have cell : ∀ i u, (cs ++ ds)[i]? = some u → w''.cell? ⟨g, i, none⟩ = some u := fun i u hu => by
      rw [blk_cell hrow i]
      rw [← htk] at hu
      have hi : i < 2 * 3 := by
        have := (List.getElem?_eq_some_iff.1 hu).1
        simp at this; omega
      rw [List.getElem?_take, if_pos hi] at hu
      simpa using hu
    have agree : ∀ j, B ≤ j → j < w.heap.size → w''.heap[j]? = w.heap[j]? := fun j h1 h2 => (hw j h1 (by omega)).trans (hk j h1)
    refine ⟨⟨g, 0, none⟩, cap, cs, ds, rfl, hcap, hc, hd, fun i u hu => ?_, fun i u hu => ?_, hf w'' agree, hf1 w'' agree⟩
    · rw [add_plain]
      exact cell i u (by rw [List.getElem?_append_left (List.getElem?_eq_some_iff.1 hu).1]; exact hu)
    · rw [add_plain]
      exact cell (3 + i) u (by rw [List.getElem?_append_right (by omega), hc, Nat.add_sub_cancel_left]; exact hu)
set_option maxHeartbeats 8000000 in
set_option maxRecDepth 100000 in
theorem made_node0 {W : World} {na nb la c3 c4 ca cb : Nat} {A3 A B : Option Addr} {ad : Addr} {zz oo : List Int} {f0 f1 : Fx × Bool} {x0 x1 x2 x3 x4 y0 y1 y2 y3 y4 : Value} (ha : na ≠ 0) (hb : nb ≠ 0)
    (px0 : W.cell? (ad.add 0) = some x0) (px1 : W.cell? (ad.add 1) = some x1) (px2 : W.cell? (ad.add 2) = some x2) (px3 : W.cell? (ad.add 3) = some x3) (px4 : W.cell? (ad.add 4) = some x4)
    (py0 : W.cell? (ad.add 5) = some y0) (py1 : W.cell? (ad.add 6) = some y1) (py2 : W.cell? (ad.add 7) = some y2) (py3 : W.cell? (ad.add 8) = some y3) (py4 : W.cell? (ad.add 9) = some y4)
    (HSP : ∀ w' : World, Below W.heap.size W w' → Calls Try.prog 150 #[.slice A na ca, .slice A3 la c3] w' (Two w' zz oo))
    (HX : ∀ (w' : World) (Z : Option Addr) (d : Nat), Below W.heap.size W w' → zz.length ≤ d → Kd.C (Kd.int .i64) w' Z zz.length zz → Calls Try.prog 135 #[.agg #[x0, x1, x2, x3, x4], .slice Z zz.length d, .slice B nb cb] w' (MR w' f0))
    (HY : ∀ (w' : World) (Z : Option Addr) (d : Nat), Below W.heap.size W w' → oo.length ≤ d → Kd.C (Kd.int .i64) w' Z oo.length oo → Calls Try.prog 135 #[.agg #[y0, y1, y2, y3, y4], .slice Z oo.length d, .slice B nb cb] w' (MR w' f1)) :
    Calls Try.prog 135 #[.agg #[.bool false, I 0, I 0, .slice A3 la c3, .slice (some ad) 2 c4], .slice A na ca, .slice B nb cb] W (MR W (comb 4 f0 f1)) := by
  unfold MR at HX HY ⊢
  unfold Two at HSP
  replace HSP := Lib.hid HSP
  replace HX := Lib.hid HX
  replace HY := Lib.hid HY
  rw [Addr.add_zero'] at px0
  have h1 : ((na : Int) == 0) = false := by rw [beq_eq_false_iff_ne]; omega
  have h2 : (na == 0) = false := by rw [beq_eq_false_iff_ne]; exact ha
  have h3 : ((nb : Int) == 0) = false := by rw [beq_eq_false_iff_ne]; omega
  have h4 : (nb == 0) = false := by rw [beq_eq_false_iff_ne]; exact hb
  clear ha hb
  have Px0 : Hid (W.cell? ad = some x0) := Lib.hid px0
  have Px1 : Hid (W.cell? ⟨ad.block, ad.off + 1, none⟩ = some x1) := Lib.hid px1
  have Px2 : Hid (W.cell? ⟨ad.block, ad.off + 2, none⟩ = some x2) := Lib.hid px2
  have Px3 : Hid (W.cell? ⟨ad.block, ad.off + 3, none⟩ = some x3) := Lib.hid px3
  have Px4 : Hid (W.cell? ⟨ad.block, ad.off + 4, none⟩ = some x4) := Lib.hid px4
  have Py0 : Hid (W.cell? ⟨ad.block, ad.off + 5, none⟩ = some y0) := Lib.hid py0
  have Py1 : Hid (W.cell? ⟨ad.block, ad.off + 5 + 1, none⟩ = some y1) := Lib.hid py1
  have Py2 : Hid (W.cell? ⟨ad.block, ad.off + 5 + 2, none⟩ = some y2) := Lib.hid py2
  have Py3 : Hid (W.cell? ⟨ad.block, ad.off + 5 + 3, none⟩ = some y3) := Lib.hid py3
  have Py4 : Hid (W.cell? ⟨ad.block, ad.off + 5 + 4, none⟩ = some y4) := Lib.hid py4
  clear px0 px1 px2 px3 px4 py0 py1 py2 py3 py4
  obtain ⟨W1, hW1⟩ : ∃ W1, W1 = W.alloc (.cells #[.bool false, I 0, I 0, .slice A3 la c3, .slice (some ad) 2 c4] 32) := ⟨_, rfl⟩
  obtain ⟨W2, hW2⟩ : ∃ W2, W2 = W1.alloc (.cells #[I 0, I 0, .slice none 0 0] 24) := ⟨_, rfl⟩
  have hs1 : W1.heap.size = W.heap.size + 1 := by rw [hW1]; exact World.size_alloc _ _
  have BK1 : W1.heap[W.heap.size]? = some (.cells #[.bool false, I 0, I 0, .slice A3 la c3, .slice (some ad) 2 c4] 32 (0, 0)) := by rw [hW1]; exact blk_new _ _
  have HBK : Hid (W2.heap[W.heap.size]? = some (.cells #[.bool false, I 0, I 0, .slice A3 la c3, .slice (some ad) 2 c4] 32 (0, 0))) := Lib.hid (by rw [hW2]; exact blk_alloc BK1 _)
  have HRB : Hid (W2.heap[W.heap.size + 1]? = some (.cells #[I 0, I 0, .slice none 0 0] 24 (0, 0))) := Lib.hid (by rw [hW2, ← hs1]; exact blk_new _ _)
  have HB2 : Hid (Below W.heap.size W W2) := Lib.hid (by rw [hW2]; exact below_alloc (by rw [hW1]; exact below_alloc (Below.refl _ _) _) _)
  have k0 : W2.cell? ⟨W.heap.size, 0, none⟩ = some (.bool false) := (blk_cell HBK.out 0).trans rfl
  have k2 : W2.cell? ⟨W.heap.size, 2, none⟩ = some (I 0) := (blk_cell HBK.out 2).trans rfl
  have k3 : W2.cell? ⟨W.heap.size, 3, none⟩ = some (.slice A3 la c3) := (blk_cell HBK.out 3).trans rfl
  clear BK1
  go_enter Try.func135, Try.ntmps135
  go_upto_region 1 with fail
  rw [← hW1, ← hW2]
  clear hW1 hW2 hs1
  go_wp2_with (go_at_call 150; (with_reducible refine (HSP.out _ HB2.out).mono ?_); rintro e w3 ⟨ZA, OA, zc, oc, rfl, hz, ho, lz, lo, hb⟩; have HB3 := Lib.hid hb; have HZ := Lib.hid hz; have HO := Lib.hid ho; have HLZ := Lib.hid lz; have HLO := Lib.hid lo; clear hz ho hb lz lo)
  obtain ⟨W4, hW4⟩ : ∃ W4, W4 = w3.alloc (.cells #[.slice ZA zz.length zc, .slice OA oo.length oc] 52) := ⟨_, rfl⟩
  rw [← hW4]
  have HB34 : Hid (Below w3.heap.size w3 W4) := Lib.hid (by rw [hW4]; exact below_alloc (Below.refl _ _) _)
  have HGB : Hid (W4.heap[w3.heap.size]? = some (.cells #[.slice ZA zz.length zc, .slice OA oo.length oc] 52 (0, 0))) := Lib.hid (by rw [hW4]; exact blk_new _ _)
  have HB24 : Hid (Below W2.heap.size W2 W4) := Lib.hid (HB3.out.trans (HB34.out.mono HB3.out.size))
  have HB4 : Hid (Below W.heap.size W W4) := Lib.hid (HB2.out.trans (HB24.out.mono HB2.out.size))
  have HBK4 : Hid (W4.heap[W.heap.size]? = some (.cells #[.bool false, I 0, I 0, .slice A3 la c3, .slice (some ad) 2 c4] 32 (0, 0))) := Lib.hid (blk_below HBK.out HB24.out)
  have HRB4 : Hid (W4.heap[W.heap.size + 1]? = some (.cells #[I 0, I 0, .slice none 0 0] 24 (0, 0))) := Lib.hid (blk_below HRB.out HB24.out)
  clear hW4 k0 k2 k3 HBK HRB
  go_loopw [15, 83] (fun v15 v83 wr => ∃ i : Nat, i ≤ 2 ∧ v83 = I i ∧ Hid (Ks W4.heap.size f0 f1 wr i v15) ∧ Hid (Below W4.heap.size W4 wr)) (fun _ y _ => 2 - (intOf y).toNat)
  case atStart => exact ⟨0, by omega, rfl, Lib.hid .no, Lib.hid (Below.refl _ _)⟩
  case round =>
    obtain ⟨i, hi, rfl, HK, HBR⟩ := hrel
    have HBW : Hid (Below W.heap.size W wr) := Lib.hid (HB4.out.trans (HBR.out.mono HB4.out.size))
    have k2 : wr.cell? ⟨W.heap.size, 2, none⟩ = some (I 0) := (blk_cell (blk_below HBK4.out HBR.out) 2).trans rfl
    have k4 : wr.cell? ⟨W.heap.size, 4, none⟩ = some (.slice (some ad) 2 c4) := (blk_cell (blk_below HBK4.out HBR.out) 4).trans rfl
    have g0 : wr.cell? ⟨w3.heap.size, 0, none⟩ = some (.slice ZA zz.length zc) := (blk_cell (blk_below HGB.out HBR.out) 0).trans rfl
    have g1 : wr.cell? ⟨w3.heap.size, 1, none⟩ = some (.slice OA oo.length oc) := (blk_cell (blk_below HGB.out HBR.out) 1).trans rfl
    have hi3 : i = 0 ∨ i = 1 ∨ i = 2 := by omega
    rcases hi3 with rfl | rfl | rfl
    · have hv := HK.out.at0
      subst hv
      have e0 : wr.cell? ad = some x0 := cell_keep' HBW.out Px0.out
      have e1 : wr.cell? ⟨ad.block, ad.off + 1, none⟩ = some x1 := cell_keep' HBW.out Px1.out
      have e2 : wr.cell? ⟨ad.block, ad.off + 2, none⟩ = some x2 := cell_keep' HBW.out Px2.out
      have e3 : wr.cell? ⟨ad.block, ad.off + 3, none⟩ = some x3 := cell_keep' HBW.out Px3.out
      have e4 : wr.cell? ⟨ad.block, ad.off + 4, none⟩ = some x4 := cell_keep' HBW.out Px4.out
      have HCZ : Hid (Kd.C (Kd.int .i64) wr ZA zz.length zz) := Lib.hid (Kd.C_below HZ.out (HB34.out.trans (HBR.out.mono HB34.out.size)))
      obtain ⟨bq, hbq⟩ : ∃ b, b = f0.2 := ⟨_, rfl⟩
      have HC := Lib.hid (HX.out wr ZA zc HBW.out HLZ.out HCZ.out)
      rw [← hbq] at HC
      have HBQ := Lib.hid hbq
      clear hbq
      cases bq with
      | false =>
        go_wp2_with (go_at_call 135; (with_reducible refine HC.out.mono ?_); rintro e w5 ⟨kk, nn, ka, kl, kc, rfl, hf, hb⟩; have HB5 := Lib.hid hb; have HRB5 := Lib.hid (blk_alloc (blk_below HRB4.out (HBR.out.trans (hb.mono HBR.out.size))) (.cells #[I kk, I nn, .slice ka kl kc] 24)); have u0 : (w5.alloc (.cells #[I kk, I nn, .slice ka kl kc] 24)).cell? ⟨W.heap.size + 1, 0, none⟩ = some (I 0) := (blk_cell HRB5.out 0).trans rfl; have u1 : (w5.alloc (.cells #[I kk, I nn, .slice ka kl kc] 24)).cell? ⟨W.heap.size + 1, 1, none⟩ = some (I 0) := (blk_cell HRB5.out 1).trans rfl; have u2 : (w5.alloc (.cells #[I kk, I nn, .slice ka kl kc] 24)).cell? ⟨W.heap.size + 1, 2, none⟩ = some (.slice none 0 0) := (blk_cell HRB5.out 2).trans rfl; have s0 := blk_frozen HRB5.out 0; have s1 := blk_frozen HRB5.out 1; have s2 := blk_frozen HRB5.out 2; clear hf hb)
        have HFIN : Hid ((pt3 (w5.alloc (.cells #[I kk, I nn, .slice ka kl kc] 24)) (W.heap.size + 1) (I 0) (I 0) (.slice none 0 0)).heap[W.heap.size + 1]? = some (.cells #[I 0, I 0, .slice none 0 0] 24 (0, 0))) := Lib.hid (blk_pt3 HRB5.out)
        have HBF : Hid (Below W.heap.size W (pt3 (w5.alloc (.cells #[I kk, I nn, .slice ka kl kc] 24)) (W.heap.size + 1) (I 0) (I 0) (.slice none 0 0))) := Lib.hid (below_pt3 (below_alloc (HBW.out.trans (HB5.out.mono HBW.out.size)) _) (Nat.le_succ _))
        refine bodyPost_ret (results_ct (by rfl) _ _ (W.heap.size + 1) 24 #[I 0, I 0, .slice none 0 0] (0, 0) _ (by rfl) HFIN.out Try.underlying24 (by rfl) (by kernel_rfl)) rfl ?_
        rw [comb_0 HBQ.out.symm]
        exact ⟨_, _, _, _, _, rfl, FmS.leaf, HBF.out⟩
      | true =>
        have hsl : (0 : Nat) < 1 := by decide
        go_wp2_with (first
          | (go_at_call 135; (with_reducible refine HC.out.mono ?_); rintro e w5 ⟨kk, nn, ka, kl, kc, rfl, hf, hb⟩; have HB5 := Lib.hid hb; have HFM := Lib.hid hf; have z0 : (w5.alloc (.cells #[I kk, I nn, .slice ka kl kc] 24)).cell? ⟨w5.heap.size, 0, none⟩ = some (I kk) := (blk_cell (blk_new w5 (.cells #[I kk, I nn, .slice ka kl kc] 24)) 0).trans rfl; have z1 : (w5.alloc (.cells #[I kk, I nn, .slice ka kl kc] 24)).cell? ⟨w5.heap.size, 1, none⟩ = some (I nn) := (blk_cell (blk_new w5 (.cells #[I kk, I nn, .slice ka kl kc] 24)) 1).trans rfl; have z2 : (w5.alloc (.cells #[I kk, I nn, .slice ka kl kc] 24)).cell? ⟨w5.heap.size, 2, none⟩ = some (.slice ka kl kc) := (blk_cell (blk_new w5 (.cells #[I kk, I nn, .slice ka kl kc] 24)) 2).trans rfl; have HB6 : Hid (Below W4.heap.size W4 (w5.alloc (.cells #[I kk, I nn, .slice ka kl kc] 24))) := Lib.hid (below_alloc (HBR.out.trans (hb.mono HBR.out.size)) _); clear hf hb)
          | (at_builtin; refine print_append_cells W4.heap.size rfl (.tmp 109) (.tmp 111) 22 24 (.agg #[I 0, I 0, .slice none 0 0]) 3 40 rfl Try.underlying22 info24' rfl (by decide) (by decide) _ 0 [] [I kk, I nn, .slice ka kl kc] rfl (by rw [World.size_alloc]; rfl) rfl one_cells (own_nil _ _ _ _) HB6.out HB6.out.size (by decide) ?_; intro v1 w7 ho hb hg hat; have HO7 := Lib.hid ho; have HB7 := Lib.hid hb; have HG7 := Lib.hid hg; have HA7 := Lib.hid hat; clear ho hb hg hat))
        have HBX : Hid (Below w5.heap.size w5 (w5.alloc (.cells #[I kk, I nn, .slice ka kl kc] 24))) := Lib.hid (below_alloc (Below.refl _ _) _)
        clear z0 z1 z2
        go_roundw
        case rel => exact ⟨1, by omega, by go_num, Lib.hid (Ks.first (Nat.le_trans HBR.out.size HB5.out.size) HBQ.out.symm rfl (HFM.out.wide HBR.out.size (Nat.le_refl _)) HBX.out HO7.out HG7.out HA7.out), HB7⟩
        case measure => simp [intOf]
    · obtain ⟨cs, N, hq0, hcl, hown, hfs, hN, hNu⟩ := HK.out.at1
      obtain ⟨va, vc, rfl⟩ := own_slice hown
      have HQ0 := Lib.hid hq0
      have HCL := Lib.hid hcl
      have HOW := Lib.hid hown
      have HFS := Lib.hid hfs
      have HN := Lib.hid hN
      have HNU := Lib.hid hNu
      clear hq0 hcl hown hfs hN hNu
      have e0 : wr.cell? ⟨ad.block, ad.off + 5, none⟩ = some y0 := cell_keep' HBW.out Py0.out
      have e1 : wr.cell? ⟨ad.block, ad.off + 5 + 1, none⟩ = some y1 := cell_keep' HBW.out Py1.out
      have e2 : wr.cell? ⟨ad.block, ad.off + 5 + 2, none⟩ = some y2 := cell_keep' HBW.out Py2.out
      have e3 : wr.cell? ⟨ad.block, ad.off + 5 + 3, none⟩ = some y3 := cell_keep' HBW.out Py3.out
      have e4 : wr.cell? ⟨ad.block, ad.off + 5 + 4, none⟩ = some y4 := cell_keep' HBW.out Py4.out
      have HCZ : Hid (Kd.C (Kd.int .i64) wr OA oo.length oo) := Lib.hid (Kd.C_below HO.out (HB34.out.trans (HBR.out.mono HB34.out.size)))
      obtain ⟨bq, hbq⟩ : ∃ b, b = f1.2 := ⟨_, rfl⟩
      have HC := Lib.hid (HY.out wr OA oc HBW.out HLO.out HCZ.out)
      rw [← hbq] at HC
      have HBQ := Lib.hid hbq
      clear hbq
      cases bq with
      | false =>
        go_wp2_with (go_at_call 135; (with_reducible refine HC.out.mono ?_); rintro e w5 ⟨kk, nn, ka, kl, kc, rfl, hf, hb⟩; have HB5 := Lib.hid hb; have HRB5 := Lib.hid (blk_alloc (blk_below HRB4.out (HBR.out.trans (hb.mono HBR.out.size))) (.cells #[I kk, I nn, .slice ka kl kc] 24)); have u0 : (w5.alloc (.cells #[I kk, I nn, .slice ka kl kc] 24)).cell? ⟨W.heap.size + 1, 0, none⟩ = some (I 0) := (blk_cell HRB5.out 0).trans rfl; have u1 : (w5.alloc (.cells #[I kk, I nn, .slice ka kl kc] 24)).cell? ⟨W.heap.size + 1, 1, none⟩ = some (I 0) := (blk_cell HRB5.out 1).trans rfl; have u2 : (w5.alloc (.cells #[I kk, I nn, .slice ka kl kc] 24)).cell? ⟨W.heap.size + 1, 2, none⟩ = some (.slice none 0 0) := (blk_cell HRB5.out 2).trans rfl; have s0 := blk_frozen HRB5.out 0; have s1 := blk_frozen HRB5.out 1; have s2 := blk_frozen HRB5.out 2; clear hf hb)
        have HFIN : Hid ((pt3 (w5.alloc (.cells #[I kk, I nn, .slice ka kl kc] 24)) (W.heap.size + 1) (I 0) (I 0) (.slice none 0 0)).heap[W.heap.size + 1]? = some (.cells #[I 0, I 0, .slice none 0 0] 24 (0, 0))) := Lib.hid (blk_pt3 HRB5.out)
        have HBF : Hid (Below W.heap.size W (pt3 (w5.alloc (.cells #[I kk, I nn, .slice ka kl kc] 24)) (W.heap.size + 1) (I 0) (I 0) (.slice none 0 0))) := Lib.hid (below_pt3 (below_alloc (HBW.out.trans (HB5.out.mono HBW.out.size)) _) (Nat.le_succ _))
        refine bodyPost_ret (results_ct (by rfl) _ _ (W.heap.size + 1) 24 #[I 0, I 0, .slice none 0 0] (0, 0) _ (by rfl) HFIN.out Try.underlying24 (by rfl) (by kernel_rfl)) rfl ?_
        rw [comb_1 HBQ.out.symm]
        exact ⟨_, _, _, _, _, rfl, FmS.leaf, HBF.out⟩
      | true =>
        have hsl : (0 : Nat) < 1 := by decide
        go_wp2_with (first
          | (go_at_call 135; (with_reducible refine HC.out.mono ?_); rintro e w5 ⟨kk, nn, ka, kl, kc, rfl, hf, hb⟩; have HB5 := Lib.hid hb; have HFM := Lib.hid hf; have z0 : (w5.alloc (.cells #[I kk, I nn, .slice ka kl kc] 24)).cell? ⟨w5.heap.size, 0, none⟩ = some (I kk) := (blk_cell (blk_new w5 (.cells #[I kk, I nn, .slice ka kl kc] 24)) 0).trans rfl; have z1 : (w5.alloc (.cells #[I kk, I nn, .slice ka kl kc] 24)).cell? ⟨w5.heap.size, 1, none⟩ = some (I nn) := (blk_cell (blk_new w5 (.cells #[I kk, I nn, .slice ka kl kc] 24)) 1).trans rfl; have z2 : (w5.alloc (.cells #[I kk, I nn, .slice ka kl kc] 24)).cell? ⟨w5.heap.size, 2, none⟩ = some (.slice ka kl kc) := (blk_cell (blk_new w5 (.cells #[I kk, I nn, .slice ka kl kc] 24)) 2).trans rfl; have HB6 : Hid (Below W4.heap.size W4 (w5.alloc (.cells #[I kk, I nn, .slice ka kl kc] 24))) := Lib.hid (below_alloc (HBR.out.trans (hb.mono HBR.out.size)) _); clear hf hb)
          | (at_builtin; refine print_append_cells W4.heap.size rfl (.tmp 109) (.tmp 111) 22 24 (.agg #[I 0, I 0, .slice none 0 0]) 3 40 rfl Try.underlying22 info24' rfl (by decide) (by decide) _ 1 cs [I kk, I nn, .slice ka kl kc] rfl (by rw [World.size_alloc]; rfl) rfl one_cells ((pw_own_below (pw_own_below HOW.out HB5.out) (below_alloc (Below.refl _ _) _))) HB6.out HB6.out.size (by decide) ?_; intro v1 w7 ho hb hg hat; have HO7 := Lib.hid ho; have HB7 := Lib.hid hb; have HG7 := Lib.hid hg; have HA7 := Lib.hid hat; clear ho hb hg hat))
        have HBX : Hid (Below w5.heap.size w5 (w5.alloc (.cells #[I kk, I nn, .slice ka kl kc] 24))) := Lib.hid (below_alloc (Below.refl _ _) _)
        clear z0 z1 z2
        go_roundw
        case rel => exact ⟨2, by omega, by go_num, Lib.hid (Ks.second HQ0.out HBQ.out.symm HCL.out rfl HOW.out HFS.out HN.out HNU.out HB5.out HFM.out HBR.out.size HBX.out HO7.out HG7.out), HB7⟩
        case measure => simp [intOf]
    · have HRB5 := Lib.hid (blk_below HRB4.out HBR.out)
      have r0 : wr.cell? ⟨W.heap.size + 1, 0, none⟩ = some (I 0) := (blk_cell HRB5.out 0).trans rfl
      have r1 : wr.cell? ⟨W.heap.size + 1, 1, none⟩ = some (I 0) := (blk_cell HRB5.out 1).trans rfl
      have r2 : wr.cell? ⟨W.heap.size + 1, 2, none⟩ = some (.slice none 0 0) := (blk_cell HRB5.out 2).trans rfl
      have s0 := blk_frozen HRB5.out 0
      have s1 := blk_frozen HRB5.out 1
      have s2 := blk_frozen HRB5.out 2
      have hlt : W.heap.size + 1 < W4.heap.size := blk_lt HRB4.out
      obtain ⟨ka, kc, hv, hfm, hq0, hq1⟩ := HK.out.node (w' := pt3 wr (W.heap.size + 1) (I 4) (I 0) u15) (k := 4) (by show (((wr.setCell _ _).setCell _ _).setCell _ _).heap.size = _; rw [World.size_setCell, World.size_setCell, World.size_setCell]) (fun j hj => by
        have hne : j ≠ W.heap.size + 1 := by omega
        show (((wr.setCell ⟨W.heap.size + 1, 0, none⟩ _).setCell ⟨W.heap.size + 1, 1, none⟩ _).setCell ⟨W.heap.size + 1, 2, none⟩ _).heap[j]? = _
        rw [one_other hne, one_other hne, one_other hne])
      subst hv
      have HFM := Lib.hid hfm
      have HQ0 := Lib.hid hq0
      have HQ1 := Lib.hid hq1
      have HFIN : Hid ((pt3 wr (W.heap.size + 1) (I 4) (I 0) (.slice ka 2 kc)).heap[W.heap.size + 1]? = some (.cells #[I 4, I 0, .slice ka 2 kc] 24 (0, 0))) := Lib.hid (blk_pt3 HRB5.out)
      have HBF : Hid (Below W.heap.size W (pt3 wr (W.heap.size + 1) (I 4) (I 0) (.slice ka 2 kc))) := Lib.hid (below_pt3 HBW.out (Nat.le_succ _))
      clear hfm hq0 hq1 hlt
      go_wp2
      refine bodyPost_ret (results_ct (by rfl) _ _ (W.heap.size + 1) 24 #[I 4, I 0, .slice ka 2 kc] (0, 0) _ (by rfl) HFIN.out Try.underlying24 (by rfl) (by kernel_rfl)) rfl ?_
      rw [comb_2 HQ0.out HQ1.out]
      exact ⟨_, _, _, _, _, rfl, HFM.out.wide HB4.out.size (Nat.le_refl _), HBF.out⟩
set_option maxHeartbeats 8000000 in
set_option maxRecDepth 100000 in
theorem made_node1 {W : World} {na nb la c3 c4 ca cb : Nat} {A3 A B : Option Addr} {ad : Addr} {zz oo : List Int} {f0 f1 : Fx × Bool} {x0 x1 x2 x3 x4 y0 y1 y2 y3 y4 : Value} (ha : na ≠ 0) (hb : nb ≠ 0)
    (px0 : W.cell? (ad.add 0) = some x0) (px1 : W.cell? (ad.add 1) = some x1) (px2 : W.cell? (ad.add 2) = some x2) (px3 : W.cell? (ad.add 3) = some x3) (px4 : W.cell? (ad.add 4) = some x4)
    (py0 : W.cell? (ad.add 5) = some y0) (py1 : W.cell? (ad.add 6) = some y1) (py2 : W.cell? (ad.add 7) = some y2) (py3 : W.cell? (ad.add 8) = some y3) (py4 : W.cell? (ad.add 9) = some y4)
    (HSP : ∀ w' : World, Below W.heap.size W w' → Calls Try.prog 150 #[.slice B nb cb, .slice A3 la c3] w' (Two w' zz oo))
    (HX : ∀ (w' : World) (Z : Option Addr) (d : Nat), Below W.heap.size W w' → zz.length ≤ d → Kd.C (Kd.int .i64) w' Z zz.length zz → Calls Try.prog 135 #[.agg #[x0, x1, x2, x3, x4], .slice A na ca, .slice Z zz.length d] w' (MR w' f0))
    (HY : ∀ (w' : World) (Z : Option Addr) (d : Nat), Below W.heap.size W w' → oo.length ≤ d → Kd.C (Kd.int .i64) w' Z oo.length oo → Calls Try.prog 135 #[.agg #[y0, y1, y2, y3, y4], .slice A na ca, .slice Z oo.length d] w' (MR w' f1)) :
    Calls Try.prog 135 #[.agg #[.bool false, I 0, I 1, .slice A3 la c3, .slice (some ad) 2 c4], .slice A na ca, .slice B nb cb] W (MR W (comb 3 f0 f1)) := by
  unfold MR at HX HY ⊢
  unfold Two at HSP
  replace HSP := Lib.hid HSP
  replace HX := Lib.hid HX
  replace HY := Lib.hid HY
  rw [Addr.add_zero'] at px0
  have h1 : ((na : Int) == 0) = false := by rw [beq_eq_false_iff_ne]; omega
  have h2 : (na == 0) = false := by rw [beq_eq_false_iff_ne]; exact ha
  have h3 : ((nb : Int) == 0) = false := by rw [beq_eq_false_iff_ne]; omega
  have h4 : (nb == 0) = false := by rw [beq_eq_false_iff_ne]; exact hb
  clear ha hb
  have Px0 : Hid (W.cell? ad = some x0) := Lib.hid px0
  have Px1 : Hid (W.cell? ⟨ad.block, ad.off + 1, none⟩ = some x1) := Lib.hid px1
  have Px2 : Hid (W.cell? ⟨ad.block, ad.off + 2, none⟩ = some x2) := Lib.hid px2
  have Px3 : Hid (W.cell? ⟨ad.block, ad.off + 3, none⟩ = some x3) := Lib.hid px3
  have Px4 : Hid (W.cell? ⟨ad.block, ad.off + 4, none⟩ = some x4) := Lib.hid px4
  have Py0 : Hid (W.cell? ⟨ad.block, ad.off + 5, none⟩ = some y0) := Lib.hid py0
  have Py1 : Hid (W.cell? ⟨ad.block, ad.off + 5 + 1, none⟩ = some y1) := Lib.hid py1
  have Py2 : Hid (W.cell? ⟨ad.block, ad.off + 5 + 2, none⟩ = some y2) := Lib.hid py2
  have Py3 : Hid (W.cell? ⟨ad.block, ad.off + 5 + 3, none⟩ = some y3) := Lib.hid py3
  have Py4 : Hid (W.cell? ⟨ad.block, ad.off + 5 + 4, none⟩ = some y4) := Lib.hid py4
  clear px0 px1 px2 px3 px4 py0 py1 py2 py3 py4
  obtain ⟨W1, hW1⟩ : ∃ W1, W1 = W.alloc (.cells #[.bool false, I 0, I 1, .slice A3 la c3, .slice (some ad) 2 c4] 32) := ⟨_, rfl⟩
  obtain ⟨W2, hW2⟩ : ∃ W2, W2 = W1.alloc (.cells #[I 0, I 0, .slice none 0 0] 24) := ⟨_, rfl⟩
  have hs1 : W1.heap.size = W.heap.size + 1 := by rw [hW1]; exact World.size_alloc _ _
  have BK1 : W1.heap[W.heap.size]? = some (.cells #[.bool false, I 0, I 1, .slice A3 la c3, .slice (some ad) 2 c4] 32 (0, 0)) := by rw [hW1]; exact blk_new _ _
  have HBK : Hid (W2.heap[W.heap.size]? = some (.cells #[.bool false, I 0, I 1, .slice A3 la c3, .slice (some ad) 2 c4] 32 (0, 0))) := Lib.hid (by rw [hW2]; exact blk_alloc BK1 _)
  have HRB : Hid (W2.heap[W.heap.size + 1]? = some (.cells #[I 0, I 0, .slice none 0 0] 24 (0, 0))) := Lib.hid (by rw [hW2, ← hs1]; exact blk_new _ _)
  have HB2 : Hid (Below W.heap.size W W2) := Lib.hid (by rw [hW2]; exact below_alloc (by rw [hW1]; exact below_alloc (Below.refl _ _) _) _)
  have k0 : W2.cell? ⟨W.heap.size, 0, none⟩ = some (.bool false) := (blk_cell HBK.out 0).trans rfl
  have k2 : W2.cell? ⟨W.heap.size, 2, none⟩ = some (I 1) := (blk_cell HBK.out 2).trans rfl
  have k3 : W2.cell? ⟨W.heap.size, 3, none⟩ = some (.slice A3 la c3) := (blk_cell HBK.out 3).trans rfl
  clear BK1
  go_enter Try.func135, Try.ntmps135
  go_upto_region 1 with fail
  rw [← hW1, ← hW2]
  clear hW1 hW2 hs1
  go_wp2_with (go_at_call 150; (with_reducible refine (HSP.out _ HB2.out).mono ?_); rintro e w3 ⟨ZA, OA, zc, oc, rfl, hz, ho, lz, lo, hb⟩; have HB3 := Lib.hid hb; have HZ := Lib.hid hz; have HO := Lib.hid ho; have HLZ := Lib.hid lz; have HLO := Lib.hid lo; clear hz ho hb lz lo)
  obtain ⟨W4, hW4⟩ : ∃ W4, W4 = w3.alloc (.cells #[.slice ZA zz.length zc, .slice OA oo.length oc] 52) := ⟨_, rfl⟩
  rw [← hW4]
  have HB34 : Hid (Below w3.heap.size w3 W4) := Lib.hid (by rw [hW4]; exact below_alloc (Below.refl _ _) _)
  have HGB : Hid (W4.heap[w3.heap.size]? = some (.cells #[.slice ZA zz.length zc, .slice OA oo.length oc] 52 (0, 0))) := Lib.hid (by rw [hW4]; exact blk_new _ _)
  have HB24 : Hid (Below W2.heap.size W2 W4) := Lib.hid (HB3.out.trans (HB34.out.mono HB3.out.size))
  have HB4 : Hid (Below W.heap.size W W4) := Lib.hid (HB2.out.trans (HB24.out.mono HB2.out.size))
  have HBK4 : Hid (W4.heap[W.heap.size]? = some (.cells #[.bool false, I 0, I 1, .slice A3 la c3, .slice (some ad) 2 c4] 32 (0, 0))) := Lib.hid (blk_below HBK.out HB24.out)
  have HRB4 : Hid (W4.heap[W.heap.size + 1]? = some (.cells #[I 0, I 0, .slice none 0 0] 24 (0, 0))) := Lib.hid (blk_below HRB.out HB24.out)
  clear hW4 k0 k2 k3 HBK HRB
  go_loopw [15, 83] (fun v15 v83 wr => ∃ i : Nat, i ≤ 2 ∧ v83 = I i ∧ Hid (Ks W4.heap.size f0 f1 wr i v15) ∧ Hid (Below W4.heap.size W4 wr)) (fun _ y _ => 2 - (intOf y).toNat)
  case atStart => exact ⟨0, by omega, rfl, Lib.hid .no, Lib.hid (Below.refl _ _)⟩
  case round =>
    obtain ⟨i, hi, rfl, HK, HBR⟩ := hrel
    have HBW : Hid (Below W.heap.size W wr) := Lib.hid (HB4.out.trans (HBR.out.mono HB4.out.size))
    have k2 : wr.cell? ⟨W.heap.size, 2, none⟩ = some (I 1) := (blk_cell (blk_below HBK4.out HBR.out) 2).trans rfl
    have k4 : wr.cell? ⟨W.heap.size, 4, none⟩ = some (.slice (some ad) 2 c4) := (blk_cell (blk_below HBK4.out HBR.out) 4).trans rfl
    have g0 : wr.cell? ⟨w3.heap.size, 0, none⟩ = some (.slice ZA zz.length zc) := (blk_cell (blk_below HGB.out HBR.out) 0).trans rfl
    have g1 : wr.cell? ⟨w3.heap.size, 1, none⟩ = some (.slice OA oo.length oc) := (blk_cell (blk_below HGB.out HBR.out) 1).trans rfl
    have hi3 : i = 0 ∨ i = 1 ∨ i = 2 := by omega
    rcases hi3 with rfl | rfl | rfl
    · have hv := HK.out.at0
      subst hv
      have e0 : wr.cell? ad = some x0 := cell_keep' HBW.out Px0.out
      have e1 : wr.cell? ⟨ad.block, ad.off + 1, none⟩ = some x1 := cell_keep' HBW.out Px1.out
      have e2 : wr.cell? ⟨ad.block, ad.off + 2, none⟩ = some x2 := cell_keep' HBW.out Px2.out
      have e3 : wr.cell? ⟨ad.block, ad.off + 3, none⟩ = some x3 := cell_keep' HBW.out Px3.out
      have e4 : wr.cell? ⟨ad.block, ad.off + 4, none⟩ = some x4 := cell_keep' HBW.out Px4.out
      have HCZ : Hid (Kd.C (Kd.int .i64) wr ZA zz.length zz) := Lib.hid (Kd.C_below HZ.out (HB34.out.trans (HBR.out.mono HB34.out.size)))
      obtain ⟨bq, hbq⟩ : ∃ b, b = f0.2 := ⟨_, rfl⟩
      have HC := Lib.hid (HX.out wr ZA zc HBW.out HLZ.out HCZ.out)
      rw [← hbq] at HC
      have HBQ := Lib.hid hbq
      clear hbq
      cases bq with
      | false =>
        go_wp2_with (go_at_call 135; (with_reducible refine HC.out.mono ?_); rintro e w5 ⟨kk, nn, ka, kl, kc, rfl, hf, hb⟩; have HB5 := Lib.hid hb; have HRB5 := Lib.hid (blk_alloc (blk_below HRB4.out (HBR.out.trans (hb.mono HBR.out.size))) (.cells #[I kk, I nn, .slice ka kl kc] 24)); have u0 : (w5.alloc (.cells #[I kk, I nn, .slice ka kl kc] 24)).cell? ⟨W.heap.size + 1, 0, none⟩ = some (I 0) := (blk_cell HRB5.out 0).trans rfl; have u1 : (w5.alloc (.cells #[I kk, I nn, .slice ka kl kc] 24)).cell? ⟨W.heap.size + 1, 1, none⟩ = some (I 0) := (blk_cell HRB5.out 1).trans rfl; have u2 : (w5.alloc (.cells #[I kk, I nn, .slice ka kl kc] 24)).cell? ⟨W.heap.size + 1, 2, none⟩ = some (.slice none 0 0) := (blk_cell HRB5.out 2).trans rfl; have s0 := blk_frozen HRB5.out 0; have s1 := blk_frozen HRB5.out 1; have s2 := blk_frozen HRB5.out 2; clear hf hb)
        have HFIN : Hid ((pt3 (w5.alloc (.cells #[I kk, I nn, .slice ka kl kc] 24)) (W.heap.size + 1) (I 0) (I 0) (.slice none 0 0)).heap[W.heap.size + 1]? = some (.cells #[I 0, I 0, .slice none 0 0] 24 (0, 0))) := Lib.hid (blk_pt3 HRB5.out)
        have HBF : Hid (Below W.heap.size W (pt3 (w5.alloc (.cells #[I kk, I nn, .slice ka kl kc] 24)) (W.heap.size + 1) (I 0) (I 0) (.slice none 0 0))) := Lib.hid (below_pt3 (below_alloc (HBW.out.trans (HB5.out.mono HBW.out.size)) _) (Nat.le_succ _))
        refine bodyPost_ret (results_ct (by rfl) _ _ (W.heap.size + 1) 24 #[I 0, I 0, .slice none 0 0] (0, 0) _ (by rfl) HFIN.out Try.underlying24 (by rfl) (by kernel_rfl)) rfl ?_
        rw [comb_0 HBQ.out.symm]
        exact ⟨_, _, _, _, _, rfl, FmS.leaf, HBF.out⟩
      | true =>
        have hsl : (0 : Nat) < 1 := by decide
        go_wp2_with (first
          | (go_at_call 135; (with_reducible refine HC.out.mono ?_); rintro e w5 ⟨kk, nn, ka, kl, kc, rfl, hf, hb⟩; have HB5 := Lib.hid hb; have HFM := Lib.hid hf; have z0 : (w5.alloc (.cells #[I kk, I nn, .slice ka kl kc] 24)).cell? ⟨w5.heap.size, 0, none⟩ = some (I kk) := (blk_cell (blk_new w5 (.cells #[I kk, I nn, .slice ka kl kc] 24)) 0).trans rfl; have z1 : (w5.alloc (.cells #[I kk, I nn, .slice ka kl kc] 24)).cell? ⟨w5.heap.size, 1, none⟩ = some (I nn) := (blk_cell (blk_new w5 (.cells #[I kk, I nn, .slice ka kl kc] 24)) 1).trans rfl; have z2 : (w5.alloc (.cells #[I kk, I nn, .slice ka kl kc] 24)).cell? ⟨w5.heap.size, 2, none⟩ = some (.slice ka kl kc) := (blk_cell (blk_new w5 (.cells #[I kk, I nn, .slice ka kl kc] 24)) 2).trans rfl; have HB6 : Hid (Below W4.heap.size W4 (w5.alloc (.cells #[I kk, I nn, .slice ka kl kc] 24))) := Lib.hid (below_alloc (HBR.out.trans (hb.mono HBR.out.size)) _); clear hf hb)
          | (at_builtin; refine print_append_cells W4.heap.size rfl (.tmp 109) (.tmp 111) 22 24 (.agg #[I 0, I 0, .slice none 0 0]) 3 40 rfl Try.underlying22 info24' rfl (by decide) (by decide) _ 0 [] [I kk, I nn, .slice ka kl kc] rfl (by rw [World.size_alloc]; rfl) rfl one_cells (own_nil _ _ _ _) HB6.out HB6.out.size (by decide) ?_; intro v1 w7 ho hb hg hat; have HO7 := Lib.hid ho; have HB7 := Lib.hid hb; have HG7 := Lib.hid hg; have HA7 := Lib.hid hat; clear ho hb hg hat))
        have HBX : Hid (Below w5.heap.size w5 (w5.alloc (.cells #[I kk, I nn, .slice ka kl kc] 24))) := Lib.hid (below_alloc (Below.refl _ _) _)
        clear z0 z1 z2
        go_roundw
        case rel => exact ⟨1, by omega, by go_num, Lib.hid (Ks.first (Nat.le_trans HBR.out.size HB5.out.size) HBQ.out.symm rfl (HFM.out.wide HBR.out.size (Nat.le_refl _)) HBX.out HO7.out HG7.out HA7.out), HB7⟩
        case measure => simp [intOf]
    · obtain ⟨cs, N, hq0, hcl, hown, hfs, hN, hNu⟩ := HK.out.at1
      obtain ⟨va, vc, rfl⟩ := own_slice hown
      have HQ0 := Lib.hid hq0
      have HCL := Lib.hid hcl
      have HOW := Lib.hid hown
      have HFS := Lib.hid hfs
      have HN := Lib.hid hN
      have HNU := Lib.hid hNu
      clear hq0 hcl hown hfs hN hNu
      have e0 : wr.cell? ⟨ad.block, ad.off + 5, none⟩ = some y0 := cell_keep' HBW.out Py0.out
      have e1 : wr.cell? ⟨ad.block, ad.off + 5 + 1, none⟩ = some y1 := cell_keep' HBW.out Py1.out
      have e2 : wr.cell? ⟨ad.block, ad.off + 5 + 2, none⟩ = some y2 := cell_keep' HBW.out Py2.out
      have e3 : wr.cell? ⟨ad.block, ad.off + 5 + 3, none⟩ = some y3 := cell_keep' HBW.out Py3.out
      have e4 : wr.cell? ⟨ad.block, ad.off + 5 + 4, none⟩ = some y4 := cell_keep' HBW.out Py4.out
      have HCZ : Hid (Kd.C (Kd.int .i64) wr OA oo.length oo) := Lib.hid (Kd.C_below HO.out (HB34.out.trans (HBR.out.mono HB34.out.size)))
      obtain ⟨bq, hbq⟩ : ∃ b, b = f1.2 := ⟨_, rfl⟩
      have HC := Lib.hid (HY.out wr OA oc HBW.out HLO.out HCZ.out)
      rw [← hbq] at HC
      have HBQ := Lib.hid hbq
      clear hbq
      cases bq with
      | false =>
        go_wp2_with (go_at_call 135; (with_reducible refine HC.out.mono ?_); rintro e w5 ⟨kk, nn, ka, kl, kc, rfl, hf, hb⟩; have HB5 := Lib.hid hb; have HRB5 := Lib.hid (blk_alloc (blk_below HRB4.out (HBR.out.trans (hb.mono HBR.out.size))) (.cells #[I kk, I nn, .slice ka kl kc] 24)); have u0 : (w5.alloc (.cells #[I kk, I nn, .slice ka kl kc] 24)).cell? ⟨W.heap.size + 1, 0, none⟩ = some (I 0) := (blk_cell HRB5.out 0).trans rfl; have u1 : (w5.alloc (.cells #[I kk, I nn, .slice ka kl kc] 24)).cell? ⟨W.heap.size + 1, 1, none⟩ = some (I 0) := (blk_cell HRB5.out 1).trans rfl; have u2 : (w5.alloc (.cells #[I kk, I nn, .slice ka kl kc] 24)).cell? ⟨W.heap.size + 1, 2, none⟩ = some (.slice none 0 0) := (blk_cell HRB5.out 2).trans rfl; have s0 := blk_frozen HRB5.out 0; have s1 := blk_frozen HRB5.out 1; have s2 := blk_frozen HRB5.out 2; clear hf hb)
        have HFIN : Hid ((pt3 (w5.alloc (.cells #[I kk, I nn, .slice ka kl kc] 24)) (W.heap.size + 1) (I 0) (I 0) (.slice none 0 0)).heap[W.heap.size + 1]? = some (.cells #[I 0, I 0, .slice none 0 0] 24 (0, 0))) := Lib.hid (blk_pt3 HRB5.out)
        have HBF : Hid (Below W.heap.size W (pt3 (w5.alloc (.cells #[I kk, I nn, .slice ka kl kc] 24)) (W.heap.size + 1) (I 0) (I 0) (.slice none 0 0))) := Lib.hid (below_pt3 (below_alloc (HBW.out.trans (HB5.out.mono HBW.out.size)) _) (Nat.le_succ _))
        refine bodyPost_ret (results_ct (by rfl) _ _ (W.heap.size + 1) 24 #[I 0, I 0, .slice none 0 0] (0, 0) _ (by rfl) HFIN.out Try.underlying24 (by rfl) (by kernel_rfl)) rfl ?_
        rw [comb_1 HBQ.out.symm]
        exact ⟨_, _, _, _, _, rfl, FmS.leaf, HBF.out⟩
      | true =>
        have hsl : (0 : Nat) < 1 := by decide
        go_wp2_with (first
          | (go_at_call 135; (with_reducible refine HC.out.mono ?_); rintro e w5 ⟨kk, nn, ka, kl, kc, rfl, hf, hb⟩; have HB5 := Lib.hid hb; have HFM := Lib.hid hf; have z0 : (w5.alloc (.cells #[I kk, I nn, .slice ka kl kc] 24)).cell? ⟨w5.heap.size, 0, none⟩ = some (I kk) := (blk_cell (blk_new w5 (.cells #[I kk, I nn, .slice ka kl kc] 24)) 0).trans rfl; have z1 : (w5.alloc (.cells #[I kk, I nn, .slice ka kl kc] 24)).cell? ⟨w5.heap.size, 1, none⟩ = some (I nn) := (blk_cell (blk_new w5 (.cells #[I kk, I nn, .slice ka kl kc] 24)) 1).trans rfl; have z2 : (w5.alloc (.cells #[I kk, I nn, .slice ka kl kc] 24)).cell? ⟨w5.heap.size, 2, none⟩ = some (.slice ka kl kc) := (blk_cell (blk_new w5 (.cells #[I kk, I nn, .slice ka kl kc] 24)) 2).trans rfl; have HB6 : Hid (Below W4.heap.size W4 (w5.alloc (.cells #[I kk, I nn, .slice ka kl kc] 24))) := Lib.hid (below_alloc (HBR.out.trans (hb.mono HBR.out.size)) _); clear hf hb)
          | (at_builtin; refine print_append_cells W4.heap.size rfl (.tmp 109) (.tmp 111) 22 24 (.agg #[I 0, I 0, .slice none 0 0]) 3 40 rfl Try.underlying22 info24' rfl (by decide) (by decide) _ 1 cs [I kk, I nn, .slice ka kl kc] rfl (by rw [World.size_alloc]; rfl) rfl one_cells ((pw_own_below (pw_own_below HOW.out HB5.out) (below_alloc (Below.refl _ _) _))) HB6.out HB6.out.size (by decide) ?_; intro v1 w7 ho hb hg hat; have HO7 := Lib.hid ho; have HB7 := Lib.hid hb; have HG7 := Lib.hid hg; have HA7 := Lib.hid hat; clear ho hb hg hat))
        have HBX : Hid (Below w5.heap.size w5 (w5.alloc (.cells #[I kk, I nn, .slice ka kl kc] 24))) := Lib.hid (below_alloc (Below.refl _ _) _)
        clear z0 z1 z2
        go_roundw
        case rel => exact ⟨2, by omega, by go_num, Lib.hid (Ks.second HQ0.out HBQ.out.symm HCL.out rfl HOW.out HFS.out HN.out HNU.out HB5.out HFM.out HBR.out.size HBX.out HO7.out HG7.out), HB7⟩
        case measure => simp [intOf]
    · have HRB5 := Lib.hid (blk_below HRB4.out HBR.out)
      have r0 : wr.cell? ⟨W.heap.size + 1, 0, none⟩ = some (I 0) := (blk_cell HRB5.out 0).trans rfl
      have r1 : wr.cell? ⟨W.heap.size + 1, 1, none⟩ = some (I 0) := (blk_cell HRB5.out 1).trans rfl
      have r2 : wr.cell? ⟨W.heap.size + 1, 2, none⟩ = some (.slice none 0 0) := (blk_cell HRB5.out 2).trans rfl
      have s0 := blk_frozen HRB5.out 0
      have s1 := blk_frozen HRB5.out 1
      have s2 := blk_frozen HRB5.out 2
      have hlt : W.heap.size + 1 < W4.heap.size := blk_lt HRB4.out
      obtain ⟨ka, kc, hv, hfm, hq0, hq1⟩ := HK.out.node (w' := pt3 wr (W.heap.size + 1) (I 3) (I 0) u15) (k := 3) (by show (((wr.setCell _ _).setCell _ _).setCell _ _).heap.size = _; rw [World.size_setCell, World.size_setCell, World.size_setCell]) (fun j hj => by
        have hne : j ≠ W.heap.size + 1 := by omega
        show (((wr.setCell ⟨W.heap.size + 1, 0, none⟩ _).setCell ⟨W.heap.size + 1, 1, none⟩ _).setCell ⟨W.heap.size + 1, 2, none⟩ _).heap[j]? = _
        rw [one_other hne, one_other hne, one_other hne])
      subst hv
      have HFM := Lib.hid hfm
      have HQ0 := Lib.hid hq0
      have HQ1 := Lib.hid hq1
      have HFIN : Hid ((pt3 wr (W.heap.size + 1) (I 3) (I 0) (.slice ka 2 kc)).heap[W.heap.size + 1]? = some (.cells #[I 3, I 0, .slice ka 2 kc] 24 (0, 0))) := Lib.hid (blk_pt3 HRB5.out)
      have HBF : Hid (Below W.heap.size W (pt3 wr (W.heap.size + 1) (I 3) (I 0) (.slice ka 2 kc))) := Lib.hid (below_pt3 HBW.out (Nat.le_succ _))
      clear hfm hq0 hq1 hlt
      go_wp2
      refine bodyPost_ret (results_ct (by rfl) _ _ (W.heap.size + 1) 24 #[I 3, I 0, .slice ka 2 kc] (0, 0) _ (by rfl) HFIN.out Try.underlying24 (by rfl) (by kernel_rfl)) rfl ?_
      rw [comb_2 HQ0.out HQ1.out]
      exact ⟨_, _, _, _, _, rfl, HFM.out.wide HB4.out.size (Nat.le_refl _), HBF.out⟩
theorem zs_mem {ask : List Bool} {xs : List Int} {x : Int} (h : x ∈ zs ask xs) : x ∈ xs := (List.mem_filter.1 h).1
theorem os_mem {ask : List Bool} {xs : List Int} {x : Int} (h : x ∈ os ask xs) : x ∈ xs := (List.mem_filter.1 h).1
theorem zs_len (ask : List Bool) (xs : List Int) : (zs ask xs).length ≤ xs.length := List.length_filter_le _ _
theorem os_len (ask : List Bool) (xs : List Int) : (os ask xs).length ≤ xs.length := List.length_filter_le _ _
/-- what made needs of a list -/
structure Ml (W : World) (n : Nat) (A : Option Addr) (a : List Int) : Prop where
  c : Kd.C (Kd.int .i64) W A a.length a
  b : ∀ x ∈ a, 0 ≤ x ∧ x < ((2 ^ n : Nat) : Int)
  l : a.length ≤ 8192
theorem Ml.keep {W W' : World} {n : Nat} {A : Option Addr} {a : List Int} (h : Ml W n A a) (hb : Below W.heap.size W W') : Ml W' n A a := ⟨Kd.C_below h.c hb, h.b, h.l⟩
/-- made, whatever the protocol -/
theorem made_any {n : Nat} (hn : n ≤ 12) : ∀ (t : Pt), t.ok n → ∀ {W : World} {A3 A4 A B : Option Addr} {c3 c4 ca cb : Nat} {a b : List Int}, Kd.C Kd.bool W A3 t.toS.f3.length t.toS.f3 → t.toS.f3.length ≤ c3 → Kd.C k32 W A4 t.toS.f4.length t.toS.f4 → Ml W n A a → Ml W n B b → a.length ≤ ca → b.length ≤ cb →
    Calls Try.prog 135 #[.agg #[.bool t.toS.f0, I t.toS.f1, I t.toS.f2, .slice A3 t.toS.f3.length c3, .slice A4 t.toS.f4.length c4], .slice A a.length ca, .slice B b.length cb] W (MR W (md t a b))
  | .leaf v, ho, W, A3, A4, A, B, c3, c4, ca, cb, a, b, h3, l3, h4, ha, hb, la, lb => by
    rw [md]
    by_cases ea : a.length = 0
    · rw [if_pos ea, ea]; exact made_noA
    rw [if_neg ea]
    by_cases eb : b.length = 0
    · rw [if_pos eb, eb]; exact made_noB ea
    rw [if_neg eb]
    have h4096 : 2 ^ n ≤ 4096 := Nat.pow_le_pow_right (n := 2) (by decide) hn
    obtain ⟨ho1, ho2⟩ := ho
    obtain ⟨u, rfl⟩ : ∃ u : Nat, v = u := ⟨v.toNat, by omega⟩
    have hu : u < 12 := by omega
    obtain ⟨ad, rfl, c0⟩ := Kd.at_int ha.c (0 : Int) (by omega) (by omega)
    obtain ⟨bd, rfl, _⟩ := Kd.at_int hb.c (0 : Int) (by omega) (by omega)
    have hm : a.getD 0 0 ∈ a := by
      rw [show a.getD 0 0 = a[0]'(by omega) by simp [List.getD, show 0 < a.length by omega]]
      exact List.getElem_mem _
    obtain ⟨x, hx⟩ : ∃ x : Nat, a.getD 0 0 = x := ⟨(a.getD 0 0).toNat, by have := (ha.b _ hm).1; omega⟩
    have hx8 : x < 8192 := by have := (ha.b _ hm).2; omega
    rw [show rd a 0 = a.getD 0 0 from rfl, hx, show ((0 : Int)).toNat = 0 from rfl, Addr.add_zero'] at c0
    have ba : ∀ x ∈ a, 0 ≤ x ∧ x < 4096 := fun x h => by have := ha.b x h; omega
    have bb : ∀ x ∈ b, 0 ≤ x ∧ x < 4096 := fun x h => by have := hb.b x h; omega
    rw [hx, Int.toNat_natCast, Int.toNat_natCast]
    cases e : x.testBit u with
    | true =>
      rw [if_pos rfl]
      exact made_leaf_true (ra := anyb u true a) (rb := anyb u false b) ea eb (by omega) hx8 e c0 (fun w' bp bi hW hp hi => cont149 hu hp hi (Kd.C_below ha.c hW) ba) (fun w' bp bi hW hp hi => cont149 hu hp hi (Kd.C_below hb.c hW) bb)
    | false =>
      rw [if_neg (by decide)]
      exact made_leaf_false (ra := anyb u false a) (rb := anyb u true b) ea eb (by omega) hx8 e c0 (fun w' bp bi hW hp hi => cont149 hu hp hi (Kd.C_below ha.c hW) ba) (fun w' bp bi hW hp hi => cont149 hu hp hi (Kd.C_below hb.c hW) bb)
  | .node pl ask l r, ho, W, A3, A4, A, B, c3, c4, ca, cb, a, b, h3, l3, h4, ha, hb, la, lb => by
    rw [md]
    by_cases ea : a.length = 0
    · rw [if_pos ea, ea]; exact made_noA
    rw [if_neg ea]
    by_cases eb : b.length = 0
    · rw [if_pos eb, eb]; exact made_noB ea
    rw [if_neg eb]
    obtain ⟨ho1, ho2, ho3, ho4⟩ := ho
    have j3 : Kd.C Kd.bool W A3 ask.length ask := h3
    have j4 : Kd.C k32 W A4 ([l.toS, r.toS] : List S32).length [l.toS, r.toS] := h4
    have k3 : ask.length ≤ c3 := l3
    obtain ⟨ad, B3, d3, B4, d4, rfl, x0, x1, x2, x3, x4, m3, i3, m4, i4⟩ := at_T32 j4 (0 : Int) (by omega) (by simp)
    obtain ⟨ad', C3, f3, C4, f4, he, y0, y1, y2, y3, y4, m3', i3', m4', i4'⟩ := at_T32 j4 (1 : Int) (by omega) (by simp)
    cases he
    have ba : ∀ x ∈ a, 0 ≤ x ∧ x < ask.length := fun x h => by have := ha.b x h; omega
    have bb : ∀ x ∈ b, 0 ≤ x ∧ x < ask.length := fun x h => by have := hb.b x h; omega
    have za := zs_len ask a
    have oa := os_len ask a
    have zb := zs_len ask b
    have ob := os_len ask b
    have la' := ha.l
    have lb' := hb.l
    rcases ho1 with rfl | rfl
    · rw [if_neg (by decide)]
      exact made_node0 (la := ask.length) (c3 := c3) (c4 := c4) (ca := ca) (cb := cb) ea eb x0 x1 x2 x3 x4 y0 y1 y2 y3 y4 (fun w' hW => split_any (Kd.C_below ha.c hW) la (Kd.C_below j3 hW) k3 la' ba)
        (fun w' Z d hW hl hz => made_any hn l ho3 (Kd.C_below i3 hW) m3 (Kd.C_below i4 hW) ⟨hz, fun x h => ha.b x (zs_mem h), by omega⟩ (hb.keep hW) hl lb)
        (fun w' Z d hW hl hz => made_any hn r ho4 (Kd.C_below i3' hW) m3' (Kd.C_below i4' hW) ⟨hz, fun x h => ha.b x (os_mem h), by omega⟩ (hb.keep hW) hl lb)
    · rw [if_pos rfl]
      exact made_node1 (la := ask.length) (c3 := c3) (c4 := c4) (ca := ca) (cb := cb) ea eb x0 x1 x2 x3 x4 y0 y1 y2 y3 y4 (fun w' hW => split_any (Kd.C_below hb.c hW) lb (Kd.C_below j3 hW) k3 lb' bb)
        (fun w' Z d hW hl hz => made_any hn l ho3 (Kd.C_below i3 hW) m3 (Kd.C_below i4 hW) (ha.keep hW) ⟨hz, fun x h => hb.b x (zs_mem h), by omega⟩ la hl)
        (fun w' Z d hW hl hz => made_any hn r ho4 (Kd.C_below i3' hW) m3' (Kd.C_below i4' hW) (ha.keep hW) ⟨hz, fun x h => hb.b x (os_mem h), by omega⟩ la hl)
end Go.Proofs.Ytpfbommaddaijaa

