/- LeastFormula's closure: words; LeastFormula's closure at a node; LeastFormula's closure: every function; LeastFormula. -/
import Derived.Test.YtpfbommaddaijaaXc
import Derived.Test.YtpfbommaddaijaaXa
import Derived.Deep.RegionHeld3
namespace Go.Proofs.Ytpfbommaddaijaa
open Go.RowKit Go.Maps
set_option linter.unusedVariables false
set_option linter.unusedSimpArgs false

/-- what the closure has at hand -/
structure Cap (w : World) (n N g ga gb gc gm : Nat) (E : Nat → Ent) : Prop where
  row : w.rowIs g 95 (5 * N) (Es E)
  ca : w.cell? ⟨ga, 0, none⟩ = some (.slice (some ⟨g, 0, none⟩) N N)
  cb : w.cell? ⟨gb, 0, none⟩ = some (.map (some gm))
  own : w.ownsMap Try.prog 3 frm gm (n + 1) (Dl n n)
  cc : w.cell? ⟨gc, 0, none⟩ = some (.func (.func 79) #[] #[.pointer (some ⟨ga, 0, none⟩), .pointer (some ⟨gb, 0, none⟩), .pointer (some ⟨gc, 0, none⟩)])
theorem Cap.keep {w w' : World} {n N g ga gb gc gm : Nat} {E : Nat → Ent} (h : Cap w n N g ga gb gc gm E) (hb : Below w.heap.size w w') : Cap w' n N g ga gb gc gm E :=
  ⟨h.row.of_block (hb.block _ h.row.lt), cell_keep hb h.ca, cell_keep hb h.cb, h.own.kept (row := none) ⟨hb.os, hb.tape, hb.output, hb.size, fun k hk _ => hb.block k hk⟩ (by simp), cell_keep hb h.cc⟩
theorem zero24 (w : World) : (zeroValue 24).run Try.prog w = .ok (.agg #[I 0, I 0, .slice none 0 0]) w := by kernel_rfl
theorem at_leaf (n : Nat) (z : DataW Unit) : ∀ (k : Nat) {x : Nat}, (x = 0 ∨ ∃ v, v < k ∧ x = lf v (2 ^ n)) →
    (x = 0 ∧ (Dl n k).atKey (.int .i64 (x : Int)) z = .agg [.lit (.int .i64 1), .lit (.int .i64 0)]) ∨ ∃ v, v < k ∧ x = lf v (2 ^ n) ∧ (Dl n k).atKey (.int .i64 (x : Int)) z = .agg [.lit (.int .i64 0), .lit (.int .i64 v)]
  | 0, x, h => by
    have hx : x = 0 := by rcases h with h | ⟨v, h, _⟩; exact h; omega
    subst hx
    rw [Dl]
    exact .inl ⟨rfl, atKey_put_same (H := Unit) (D := .map []) (k := .int .i64 0) isMap_empty trivial _ _⟩
  | k + 1, x, h => by
    rw [Dl]
    by_cases e : x = lf k (2 ^ n)
    · rw [e]
      exact .inr ⟨k, by omega, rfl, atKey_put_same (k := .int .i64 (lf k (2 ^ n) : Int)) (isMap_Dl n k) trivial _ _⟩
    · have hx : x = 0 ∨ ∃ v, v < k ∧ x = lf v (2 ^ n) := by
        rcases h with h | ⟨v, h1, h2⟩
        · exact .inl h
        · refine .inr ⟨v, ?_, h2⟩
          by_cases ev : v = k
          · subst ev; exact absurd h2 e
          · omega
      have ho : ((Dl n k).put (.int .i64 (lf k (2 ^ n) : Int)) (.agg [.lit (.int .i64 0), .lit (.int .i64 k)])).atKey (.int .i64 (x : Int)) z = (Dl n k).atKey (.int .i64 (x : Int)) z := atKey_put_other (by intro e'; injection e' with e1 e2; exact e (by omega)) _ _
      rw [ho]
      rcases at_leaf n z k hx with h1 | ⟨v, h1, h2⟩
      · exact .inl h1
      · exact .inr ⟨v, by omega, h2⟩
theorem wf256 : ∀ x : Fin 256, (Lit.int .i64 (x.val : Int)).wf = true := by decide +kernel
/-- a look into the map: some leaf; the right one where there is one -/
theorem Cap.look {w : World} {n N g ga gb gc gm : Nat} {E : Nat → Ent} (h : Cap w n N g ga gb gc gm E) {x : Nat} (hx : x < 256) : ∃ p q : Int, (Instr.lookup 97 (.map (some gm)) (I x) false).run Try.prog w = .ok (.agg #[I p, I q, .slice none 0 0]) w ∧
    (LS n x → (x = 0 ∧ p = 1 ∧ q = 0) ∨ ∃ v : Nat, v < n ∧ x = lf v (2 ^ n) ∧ p = 0 ∧ q = v) := by
  have hwf : (Lit.int .i64 (x : Int)).wf = true := wf256 ⟨x, hx⟩
  obtain ⟨v, ps, hrun, hv⟩ := h.own.lookup law3 Try.underlying97 (zero24 w) (frm_mk 0 0) (keyOf_int_mk Try.underlying3 hwf)
  obtain ⟨p, rfl, hp⟩ := frm_inv _ _ hv
  refine ⟨p.1, p.2, hrun, fun hl => ?_⟩
  simp only [Prod.mk.injEq] at hp
  rcases at_leaf n (.agg [.lit (.int .i64 0), .lit (.int .i64 0)]) n (x := x) hl with ⟨h1, h2⟩ | ⟨v, h1, h2, h3⟩
  · rw [h2] at hp
    have h5 := hp.1
    simp at h5
    exact .inl ⟨h1, h5.1.symm, h5.2.symm⟩
  · rw [h3] at hp
    have h5 := hp.1
    simp at h5
    exact .inr ⟨v, h1, h2, h5.1.symm, h5.2.symm⟩
/-- a box of three cells -/
def Z3 (w : World) (b : Nat) (x y z : Value) : Prop := w.heap[b]? = some (.cells #[x, y, z] 24 (0, 0))
abbrev put3 (w : World) (b : Nat) (x y z : Value) : World := ((w.setCell ⟨b, 0, none⟩ x).setCell ⟨b, 1, none⟩ y).setCell ⟨b, 2, none⟩ z
theorem Z3.new (w : World) (x y z : Value) : Z3 (w.alloc (.cells #[x, y, z] 24)) w.heap.size x y z := Deep.blk_alloc_new _ _
theorem Z3.lt {w : World} {b : Nat} {x y z : Value} (h : Z3 w b x y z) : b < w.heap.size := (Array.getElem?_eq_some_iff.1 h).1
theorem Z3.c0 {w : World} {b : Nat} {x y z : Value} (h : Z3 w b x y z) : w.cell? ⟨b, 0, none⟩ = some x := by unfold Z3 at h; simp [World.cell?, h]
theorem Z3.c1 {w : World} {b : Nat} {x y z : Value} (h : Z3 w b x y z) : w.cell? ⟨b, 1, none⟩ = some y := by unfold Z3 at h; simp [World.cell?, h]
theorem Z3.c2 {w : World} {b : Nat} {x y z : Value} (h : Z3 w b x y z) : w.cell? ⟨b, 2, none⟩ = some z := by unfold Z3 at h; simp [World.cell?, h]
theorem Z3.fr {w : World} {b : Nat} {x y z : Value} (h : Z3 w b x y z) (i : Nat) : w.frozen? ⟨b, i, none⟩ = false := by unfold Z3 at h; simp [World.frozen?, h]
theorem Z3.keep {w w' : World} {b : Nat} {x y z : Value} (h : Z3 w b x y z) (hb : Below w.heap.size w w') : Z3 w' b x y z := by unfold Z3; rw [hb.block _ h.lt]; exact h
theorem Z3.alloc {w : World} {b : Nat} {x y z : Value} (h : Z3 w b x y z) (o : Obj) : Z3 (w.alloc o) b x y z := h.keep ((Below.refl _ _).alloc (Nat.le_refl _) _)
theorem Z3.put {w : World} {b : Nat} {x y z : Value} (h : Z3 w b x y z) (x' y' z' : Value) : Z3 (put3 w b x' y' z') b x' y' z' := by unfold Z3 at h ⊢; simp [put3, World.setCell, Array.getElem?_modify, h]
theorem put3_other {w : World} {b k : Nat} (x y z : Value) (h : k ≠ b) : (put3 w b x y z).heap[k]? = w.heap[k]? := by
  rw [put3, Deep.blk_setCell_other _ _ _ _ h, Deep.blk_setCell_other _ _ _ _ h, Deep.blk_setCell_other _ _ _ _ h]
theorem Z3.other {w : World} {b b' : Nat} {x y z : Value} (h : Z3 w b x y z) (x' y' z' : Value) (hne : b ≠ b') : Z3 (put3 w b' x' y' z') b x y z := by unfold Z3; rw [put3_other _ _ _ hne]; exact h
theorem put3_below {B : Nat} {w W : World} {b : Nat} (h : Below B w W) (x y z : Value) (hb : B ≤ b) : Below B w (put3 W b x y z) :=
  ((h.setCell (p := ⟨b, 0, none⟩) hb _).setCell (p := ⟨b, 1, none⟩) hb _).setCell (p := ⟨b, 2, none⟩) hb _
theorem put3_size (W : World) (b : Nat) (x y z : Value) : (put3 W b x y z).heap.size = W.heap.size := by simp [put3, World.setCell]
/-- the worlds of the closure's beginning -/
structure Beg (w W1 W2 W3 : World) (n N g ga gb gc gm f : Nat) (E : Nat → Ent) (ec ek eb : Int) (x : Nat) (en : Bool) (p q : Int) : Prop where
  h1 : W1 = w.alloc (.cells #[I 0, I 0, .slice none 0 0] 24)
  h2 : W2 = W1.alloc (.cells #[I ec, I ek, I x, I eb, .bool en] 95)
  h3 : W3 = W2.alloc (.cells #[I p, I q, .slice none 0 0] 24)
  a0 : W1.cell? ⟨ga, 0, none⟩ = some (.slice (some ⟨g, 0, none⟩) N N)
  k0 : W1.cell? ⟨g, f * 5, none⟩ = some (I ec)
  k1 : W1.cell? ⟨g, f * 5 + 1, none⟩ = some (I ek)
  k2 : W1.cell? ⟨g, f * 5 + 2, none⟩ = some (I x)
  k3 : W1.cell? ⟨g, f * 5 + 3, none⟩ = some (I eb)
  k4 : W1.cell? ⟨g, f * 5 + 4, none⟩ = some (.bool en)
  b0 : W2.cell? ⟨gb, 0, none⟩ = some (.map (some gm))
  e2 : W2.cell? ⟨w.heap.size + 1, 2, none⟩ = some (I x)
  hr : (Instr.lookup 97 (.map (some gm)) (I x) false).run Try.prog W2 = .ok (.agg #[I p, I q, .slice none 0 0]) W2
  s1 : W1.heap.size = w.heap.size + 1
  s2 : W2.heap.size = w.heap.size + 2
  s3 : W3.heap.size = w.heap.size + 3
  bel : Below w.heap.size w W3
  cap : Cap W3 n N g ga gb gc gm E
  d1 : W3.cell? ⟨w.heap.size + 1, 1, none⟩ = some (I ek)
  d2 : W3.cell? ⟨w.heap.size + 1, 2, none⟩ = some (I x)
  d3 : W3.cell? ⟨w.heap.size + 1, 3, none⟩ = some (I eb)
  d4 : W3.cell? ⟨w.heap.size + 1, 4, none⟩ = some (.bool en)
  zt : Z3 W3 (w.heap.size + 2) (I p) (I q) (.slice none 0 0)
  zr : Z3 W3 w.heap.size (I 0) (I 0) (.slice none 0 0)
theorem beg_ex {w : World} {n N g ga gb gc gm f : Nat} {E : Nat → Ent} (h : Cap w n N g ga gb gc gm E) (hf : f < N) {x : Nat} (hx : x < 256) {ec ek eb : Int} {en : Bool} (he : E f = ⟨ec, ek, x, eb, en⟩) :
    ∃ W1 W2 W3 p q, Beg w W1 W2 W3 n N g ga gb gc gm f E ec ek eb x en p q ∧ (LS n x → (x = 0 ∧ p = 1 ∧ q = 0) ∨ ∃ v : Nat, v < n ∧ x = lf v (2 ^ n) ∧ p = 0 ∧ q = v) := by
  obtain ⟨W1, h1⟩ : ∃ W1, W1 = w.alloc (.cells #[I 0, I 0, .slice none 0 0] 24) := ⟨_, rfl⟩
  obtain ⟨W2, h2⟩ : ∃ W2, W2 = W1.alloc (.cells #[I ec, I ek, I x, I eb, .bool en] 95) := ⟨_, rfl⟩
  have s1 : W1.heap.size = w.heap.size + 1 := by rw [h1]; exact World.size_alloc _ _
  have s2 : W2.heap.size = w.heap.size + 2 := by rw [h2, World.size_alloc, s1]
  have B1 : Below w.heap.size w W1 := by rw [h1]; exact (Below.refl _ _).alloc (Nat.le_refl _) _
  have B2 : Below w.heap.size w W2 := by rw [h2]; exact B1.alloc B1.size _
  have C1 := h.keep B1
  have C2 := h.keep B2
  obtain ⟨p, q, hrun, hpq⟩ := C2.look hx
  obtain ⟨W3, h3⟩ : ∃ W3, W3 = W2.alloc (.cells #[I p, I q, .slice none 0 0] 24) := ⟨_, rfl⟩
  have s3 : W3.heap.size = w.heap.size + 3 := by rw [h3, World.size_alloc, s2]
  have B3 : Below w.heap.size w W3 := by rw [h3]; exact B2.alloc B2.size _
  have B13 : Below W1.heap.size W1 W3 := by rw [h3, h2]; exact ((Below.refl _ _).alloc (Nat.le_refl _) _).alloc (by rw [World.size_alloc]; omega) _
  have B23 : Below W2.heap.size W2 W3 := by rw [h3]; exact (Below.refl _ _).alloc (Nat.le_refl _) _
  have kk : ∀ j, j < 5 → W1.cell? ⟨g, f * 5 + j, none⟩ = some ((Ent.mk ec ek x eb en).cell j) := fun j hj => by
    have := C1.row.cell (i := f * 5 + j) (by omega)
    rwa [Es_cell E f j hj, he] at this
  have d1 : W2.cell? ⟨w.heap.size + 1, 1, none⟩ = some (I ek) := by rw [h2, ← s1]; simp [go_sem]
  have d2 : W2.cell? ⟨w.heap.size + 1, 2, none⟩ = some (I x) := by rw [h2, ← s1]; simp [go_sem]
  have d3 : W2.cell? ⟨w.heap.size + 1, 3, none⟩ = some (I eb) := by rw [h2, ← s1]; simp [go_sem]
  have d4 : W2.cell? ⟨w.heap.size + 1, 4, none⟩ = some (.bool en) := by rw [h2, ← s1]; simp [go_sem]
  exact ⟨W1, W2, W3, p, q, ⟨h1, h2, h3, C1.ca, kk 0 (by decide), kk 1 (by decide), kk 2 (by decide), kk 3 (by decide), kk 4 (by decide), C2.cb, d2, hrun, s1, s2, s3, B3, h.keep B3,
    cell_keep B23 d1, cell_keep B23 d2, cell_keep B23 d3, cell_keep B23 d4, by rw [h3, ← s2]; exact Z3.new _ _ _ _, ((Z3.new w (I 0) (I 0) (.slice none 0 0)).keep (by rw [← h1]; exact B13))⟩, hpq⟩
/-- the tree that the closure gives -/
structure Gd (n f : Nat) (C : Int) (t : Fx) : Prop where
  ok : t.ok n
  hs : (t.size : Int) = C
  hn : t.nodes + 2 ≤ 4 * t.size
  hx : t.has 5 = false
  hv : ∀ u, u < 2 ^ n → t.val u = f.testBit u
/-- a tree that lies in the blocks from lo on -/
def Fmn (lo : Nat) (w : World) (t : Fx) (cs : List Value) : Prop := ∀ W : World, (∀ k, lo ≤ k → k < w.heap.size → W.heap[k]? = w.heap[k]?) → Fm W t cs
theorem Fmn.fm {lo : Nat} {w : World} {t : Fx} {cs : List Value} (h : Fmn lo w t cs) : Fm w t cs := h w fun _ _ _ => rfl
theorem Fmn.next {lo lo' : Nat} {w w' : World} {t : Fx} {cs : List Value} (h : Fmn lo w t cs) (hl : lo' ≤ lo) (hs : w.heap.size ≤ w'.heap.size) (hh : ∀ k, lo ≤ k → k < w.heap.size → w'.heap[k]? = w.heap[k]?) : Fmn lo' w' t cs :=
  fun W hW => h W fun k h1 h2 => (hW k (by omega) (by omega)).trans (hh k h1 h2)
def RB (w : World) (n f : Nat) (C : Int) (e : Ending) (w' : World) : Prop := ∃ t x y z, e = .returned (.agg #[x, y, z]) ∧ Fmn w.heap.size w' t [x, y, z] ∧ Below w.heap.size w w' ∧ Gd n f C t
/-- the end of the closure -/
structure Tl (w W : World) (t : Fx) (v0 v1 v2 : Value) : Prop where
  fm : Fmn (w.heap.size + 3) W t [v0, v1, v2]
  zt : Z3 W (w.heap.size + 2) v0 v1 v2
  zr : Z3 W w.heap.size (I 0) (I 0) (.slice none 0 0)
  bel : Below w.heap.size w W
  sz : w.heap.size + 3 ≤ W.heap.size
theorem Tl.no {w W : World} {t : Fx} {v0 v1 v2 : Value} (h : Tl w W t v0 v1 v2) {n f : Nat} {C : Int} (hg : Gd n f C t) : RB w n f C (.returned (.agg #[v0, v1, v2])) (put3 W w.heap.size v0 v1 v2) :=
  ⟨t, v0, v1, v2, rfl, h.fm.next (by omega) (by rw [put3_size]; exact Nat.le_refl _) (fun k h1 h2 => put3_other _ _ _ (by omega)), put3_below h.bel _ _ _ (Nat.le_refl _), hg⟩
theorem Tl.yes {w W : World} {t : Fx} {v0 v1 v2 : Value} (h : Tl w W t v0 v1 v2) {n f : Nat} {C : Int} (hg : Gd n f C (.not t)) :
    RB w n f C (.returned (.agg #[I 2, I 0, .slice (some ⟨W.heap.size, 0, none⟩) 1 1])) (put3 (W.alloc (.cells #[v0, v1, v2] 24)) w.heap.size (I 2) (I 0) (.slice (some ⟨W.heap.size, 0, none⟩) 1 1)) := by
  have hsz := h.sz
  refine ⟨.not t, _, _, _, rfl, fun W' hW => ?_, put3_below (h.bel.alloc h.bel.size _) _ _ _ (Nat.le_refl _), hg⟩
  rw [put3_size, World.size_alloc] at hW
  have hz : Z3 W' W.heap.size v0 v1 v2 := by
    unfold Z3
    rw [hW _ (by omega) (by omega), put3_other _ _ _ (by omega)]
    exact Z3.new W v0 v1 v2
  refine ⟨⟨W.heap.size, 0, none⟩, 1, [v0, v1, v2], rfl, Nat.le_refl _, rfl, fun i u hu => ?_, h.fm W' fun k h1 h2 => ?_⟩
  · rw [Addr.add_lit, Nat.zero_add]
    have hi : i = 0 ∨ i = 1 ∨ i = 2 := by have := (List.getElem?_eq_some_iff.1 hu).1; simp at this; omega
    rcases hi with rfl | rfl | rfl
    · simp at hu; subst hu; exact hz.c0
    · simp at hu; subst hu; exact hz.c1
    · simp at hu; subst hu; exact hz.c2
  · rw [hW k (by omega) (by omega), put3_other _ _ _ (by omega)]
    exact Deep.blk_alloc_lt _ _ _ h2
set_option maxHeartbeats 1000000 in
set_option maxRecDepth 100000 in
theorem build_leaf {w W1 W2 W3 : World} {n N g ga gb gc gm f x : Nat} {p q ec eb : Int} {en : Bool} {E : Nat → Ent} {C : Int} (h : Beg w W1 W2 W3 n N g ga gb gc gm f E ec (-1) eb x en p q) (hf : f < N) (hN : N ≤ 256)
    (hg : Gd n f C (if en then .not (.leaf p q) else .leaf p q)) :
    Calls Try.prog 79 #[I f, .pointer (some ⟨ga, 0, none⟩), .pointer (some ⟨gb, 0, none⟩), .pointer (some ⟨gc, 0, none⟩)] w (RB w n f C) := by
  have h1 := h.h1
  have h2 := h.h2
  have h3 := h.h3
  have a0 := h.a0
  have k0 := h.k0
  have k1 := h.k1
  have k2 := h.k2
  have k3 := h.k3
  have k4 := h.k4
  have b0 := h.b0
  have e2 := h.e2
  have hr := h.hr
  have s1 := h.s1
  have s2 := h.s2
  have H := Lib.hid h
  clear h
  have hf0 : (0 : Int) ≤ f := by omega
  have hf1 : (f : Int) < N := by omega
  go_enter Try.func79, Try.ntmps79
  go_upto_region 1 with fail
  rw [← h1]
  clear h1
  go_upto_region 2 with fail
  rw [← h2]
  clear h2 a0 k0 k1 k2 k3 k4
  go_upto_region 3 with fail
  rw [← h3]
  clear h3 e2 b0 hr
  have d1 := H.out.d1
  have d4 := H.out.d4
  have HT := Lib.hid (show Tl w W3 (.leaf p q) (I p) (I q) (.slice none 0 0) from ⟨fun W' _ => ⟨none, 0, rfl⟩, H.out.zt, H.out.zr, H.out.bel, by have := H.out.s3; omega⟩)
  clear s1 s2
  have l0 := HT.out.zt.c0
  have l1 := HT.out.zt.c1
  have l2 := HT.out.zt.c2
  cases en with
  | false =>
    have r0 := HT.out.zr.c0
    have r1 := HT.out.zr.c1
    have r2 := HT.out.zr.c2
    have f0 := HT.out.zr.fr 0
    have f1 := HT.out.zr.fr 1
    have f2 := HT.out.zr.fr 2
    have HF := Lib.hid (HT.out.zr.put (I p) (I q) (.slice none 0 0))
    have hg' : Gd n f C (.leaf p q) := hg
    have HE := Lib.hid (HT.out.no hg')
    clear hg hg'
    go_wp2
    exact bodyPost_ret (results_cell_row (by rfl) _ _ w.heap.size 24 #[(I p), (I q), (.slice none 0 0)] (0, 0) _ (by rfl) HF.out Try.underlying24 (by rfl) (by kernel_rfl)) rfl HE.out
  | true =>
    have hz := HT.out.zr.alloc (.cells #[(I p), (I q), (.slice none 0 0)] 24)
    have r0 := hz.c0
    have r1 := hz.c1
    have r2 := hz.c2
    have f0 := hz.fr 0
    have f1 := hz.fr 1
    have f2 := hz.fr 2
    have HF := Lib.hid (hz.put (I 2) (I 0) (.slice (some ⟨W3.heap.size, 0, none⟩) 1 1))
    have hg' : Gd n f C (.not (.leaf p q)) := hg
    have HE := Lib.hid (HT.out.yes hg')
    clear hg hg' hz
    go_wp2
    exact bodyPost_ret (results_cell_row (by rfl) _ _ w.heap.size 24 #[I 2, I 0, .slice (some ⟨W3.heap.size, 0, none⟩) 1 1] (0, 0) _ (by rfl) HF.out Try.underlying24 (by rfl) (by kernel_rfl)) rfl HE.out
end Go.Proofs.Ytpfbommaddaijaa
namespace Go.Proofs.Ytpfbommaddaijaa
open Go.RowKit Go.Maps
set_option linter.unusedVariables false
set_option linter.unusedSimpArgs false

/-- the cells that the region reads -/
def Sx (B gc : Nat) (x y : Nat) (fv : Value) (W : World) : Prop := W.cell? ⟨B + 1, 1, none⟩ = some (I 3) ∧ W.cell? ⟨B + 1, 2, none⟩ = some (I x) ∧ W.cell? ⟨B + 1, 3, none⟩ = some (I y) ∧ W.cell? ⟨gc, 0, none⟩ = some fv
theorem Sx.keep {B gc x y : Nat} {fv : Value} {W W' : World} (h : Sx B gc x y fv W) (hb : Below W.heap.size W W') : Sx B gc x y fv W' := ⟨cell_keep hb h.1, cell_keep hb h.2.1, cell_keep hb h.2.2.1, cell_keep hb h.2.2.2⟩
theorem Sx.alloc {B gc x y : Nat} {fv : Value} {W : World} (h : Sx B gc x y fv W) (o : Obj) : Sx B gc x y fv (W.alloc o) := h.keep ((Below.refl _ _).alloc (Nat.le_refl _) _)
theorem put3_cell (W : World) {b : Nat} (v0 v1 v2 : Value) {a : Addr} (h : a.block ≠ b) : (put3 W b v0 v1 v2).cell? a = W.cell? a := World.cell?_of_block (put3_other _ _ _ h)
theorem Sx.put {B gc x y : Nat} {fv : Value} {W : World} (h : Sx B gc x y fv W) (hne : gc < B) (v0 v1 v2 : Value) : Sx B gc x y fv (put3 W (B + 2) v0 v1 v2) := by
  refine ⟨?_, ?_, ?_, ?_⟩
  · rw [put3_cell _ _ _ _ (by simp)]; exact h.1
  · rw [put3_cell _ _ _ _ (by simp)]; exact h.2.1
  · rw [put3_cell _ _ _ _ (by simp)]; exact h.2.2.1
  · rw [put3_cell _ _ _ _ (by show gc ≠ B + 2; omega)]; exact h.2.2.2
/-- what is known behind the two calls -/
theorem node_tl {w W3 W4 W5 : World} {p q : Int} {A B : Fx} {xa ya za xb yb zb : Value} (zt : Z3 W3 (w.heap.size + 2) (I p) (I q) (.slice none 0 0)) (zr : Z3 W3 w.heap.size (I 0) (I 0) (.slice none 0 0)) (bel : Below w.heap.size w W3) (s3 : W3.heap.size = w.heap.size + 3)
    (b4 : Below W3.heap.size W3 W4) (b5 : Below W4.heap.size W4 W5) (fa : Fmn W3.heap.size W4 A [xa, ya, za]) (fb : Fmn W4.heap.size W5 B [xb, yb, zb]) (k : Int) :
    Tl w (put3 (W5.alloc (.cells #[xa, ya, za, xb, yb, zb] 24)) (w.heap.size + 2) (I k) (I 0) (.slice (some ⟨W5.heap.size, 0, none⟩) 2 2)) (.bin k A B) (I k) (I 0) (.slice (some ⟨W5.heap.size, 0, none⟩) 2 2) := by
  have z4 := b4.size
  have z5 := b5.size
  have b35 : Below W3.heap.size W3 W5 := b4.trans (b5.mono z4)
  have bal : Below W5.heap.size W5 (W5.alloc (.cells #[xa, ya, za, xb, yb, zb] 24)) := (Below.refl _ _).alloc (Nat.le_refl _) _
  have b36 : Below W3.heap.size W3 (W5.alloc (.cells #[xa, ya, za, xb, yb, zb] 24)) := b35.trans (bal.mono (by omega))
  refine ⟨fun W' hW => ?_, (zt.keep b36).put _ _ _, (zr.keep b36).other _ _ _ (by omega), put3_below (bel.trans (b36.mono (by omega))) _ _ _ (by omega), by rw [put3_size, World.size_alloc]; omega⟩
  rw [put3_size, World.size_alloc] at hW
  have hne : W'.heap[W5.heap.size]? = some (.cells #[xa, ya, za, xb, yb, zb] 24 (0, 0)) := by
    rw [hW _ (by omega) (by omega), put3_other _ _ _ (by omega)]
    exact Deep.blk_alloc_new _ _
  refine ⟨⟨W5.heap.size, 0, none⟩, 2, [xa, ya, za], [xb, yb, zb], rfl, Nat.le_refl _, rfl, rfl, fun i u hu => ?_, fun i u hu => ?_, fa W' fun j h1 h2 => ?_, fb W' fun j h1 h2 => ?_⟩
  · rw [Addr.add_lit, Nat.zero_add]
    have hi : i = 0 ∨ i = 1 ∨ i = 2 := by have := (List.getElem?_eq_some_iff.1 hu).1; simp at this; omega
    rcases hi with rfl | rfl | rfl <;> (simp at hu; subst hu; simp [World.cell?, hne])
  · rw [Addr.add_lit, Nat.zero_add]
    have hi : i = 0 ∨ i = 1 ∨ i = 2 := by have := (List.getElem?_eq_some_iff.1 hu).1; simp at this; omega
    rcases hi with rfl | rfl | rfl <;> (simp at hu; subst hu; simp [World.cell?, hne])
  · rw [hW j (by omega) (by omega), put3_other _ _ _ (by omega), bal.block _ (by omega), b5.block _ h2]
  · rw [hW j (by omega) (by omega), put3_other _ _ _ (by omega), bal.block _ (by omega)]
set_option maxHeartbeats 4000000 in
set_option maxRecDepth 100000 in
theorem build_node {w W1 W2 W3 : World} {n N g ga gb gc gm f x y : Nat} {p q ec : Int} {en : Bool} {E : Nat → Ent} {C CX CY : Int} (h : Beg w W1 W2 W3 n N g ga gb gc gm f E ec 3 y x en p q) (hf : f < N) (hN : N ≤ 256) (hgc : gc < w.heap.size)
    (HX : ∀ W', Below W3.heap.size W3 W' → Calls Try.prog 79 #[I x, .pointer (some ⟨ga, 0, none⟩), .pointer (some ⟨gb, 0, none⟩), .pointer (some ⟨gc, 0, none⟩)] W' (RB W' n x CX))
    (HY : ∀ W', Below W3.heap.size W3 W' → Calls Try.prog 79 #[I y, .pointer (some ⟨ga, 0, none⟩), .pointer (some ⟨gb, 0, none⟩), .pointer (some ⟨gc, 0, none⟩)] W' (RB W' n y CY))
    (hg : ∀ A B, Gd n x CX A → Gd n y CY B → Gd n f C (if en then .not (.bin 3 A B) else .bin 3 A B)) :
    Calls Try.prog 79 #[I f, .pointer (some ⟨ga, 0, none⟩), .pointer (some ⟨gb, 0, none⟩), .pointer (some ⟨gc, 0, none⟩)] w (RB w n f C) := by
  have h1 := h.h1
  have h2 := h.h2
  have h3 := h.h3
  have a0 := h.a0
  have k0 := h.k0
  have k1 := h.k1
  have k2 := h.k2
  have k3 := h.k3
  have k4 := h.k4
  have b0 := h.b0
  have e2 := h.e2
  have hr := h.hr
  have s1 := h.s1
  have s2 := h.s2
  have H := Lib.hid h
  clear h
  have HX := Lib.hid HX
  have HY := Lib.hid HY
  have hf0 : (0 : Int) ≤ f := by omega
  have hf1 : (f : Int) < N := by omega
  go_enter Try.func79, Try.ntmps79
  go_upto_region 1 with fail
  rw [← h1]
  clear h1
  go_upto_region 2 with fail
  rw [← h2]
  clear h2 a0 k0 k1 k2 k3 k4
  go_upto_region 3 with fail
  rw [← h3]
  clear h3 e2 b0 hr s1 s2
  have d1 := H.out.d1
  go_upto_region 4 with fail
  clear d1
  have hS0 : Sx w.heap.size gc x y (.func (.func 79) #[] #[.pointer (some ⟨ga, 0, none⟩), .pointer (some ⟨gb, 0, none⟩), .pointer (some ⟨gc, 0, none⟩)]) W3 := ⟨H.out.d1, H.out.d2, H.out.d3, H.out.cap.cc⟩
  have HS0 := Lib.hid hS0
  have HB0 : Hid (Below W3.heap.size W3 W3) := Lib.hid (Below.refl _ _)
  have HSP := Lib.hid (fun (W : World) (v0 v1 v2 : Value) (h : Sx w.heap.size gc x y (.func (.func 79) #[] #[.pointer (some ⟨ga, 0, none⟩), .pointer (some ⟨gb, 0, none⟩), .pointer (some ⟨gc, 0, none⟩)]) W) => h.put hgc v0 v1 v2)
  go_region_held3 (fun W => W.cell? ⟨w.heap.size + 1, 1, none⟩ = some (I 3) ∧ W.cell? ⟨w.heap.size + 1, 2, none⟩ = some (I x) ∧ W.cell? ⟨w.heap.size + 1, 3, none⟩ = some (I y) ∧ W.cell? ⟨gc, 0, none⟩ = some (.func (.func 79) #[] #[.pointer (some ⟨ga, 0, none⟩), .pointer (some ⟨gb, 0, none⟩), .pointer (some ⟨gc, 0, none⟩)]))
    (first | exact HS0.out | exact HS4.out | exact HS5.out | exact HS5.out.alloc _ | exact HSP.out _ _ _ _ (HS5.out.alloc _) | go_keep)
    (first
      | (go_at_call 79; have _t := HB4; (with_reducible refine (HY.out _ ?_).mono ?_); (first | exact HB4.out | exact HB4.out.drew); rintro e w5 ⟨tb, xb, yb, zb, rfl, hfb, hb, hgb⟩; have HB5 := Lib.hid hb; have HFB := Lib.hid hfb; have HGB := Lib.hid hgb; have HS5 := Lib.hid (HS4.out.keep hb); have zz := ((H.out.zt.keep HB4.out).keep hb).alloc (.cells #[xa, ya, za, xb, yb, zb] 24); have q0 := zz.c0; have q1 := zz.c1; have q2 := zz.c2; have p0 := zz.fr 0; have p1 := zz.fr 1; have p2 := zz.fr 2; clear zz hfb hb hgb)
      | (go_at_call 79; (with_reducible refine (HX.out _ ?_).mono ?_); (first | exact HB0.out | exact HB0.out.drew); rintro e w4 ⟨ta, xa, ya, za, rfl, hfa, hb, hga⟩; have hb4 : Below W3.heap.size W3 w4 := (by first | exact hb | exact (Below.refl _ _).drew.trans hb); have HB4 := Lib.hid hb4; have HFA : Hid (Fmn W3.heap.size w4 ta [xa, ya, za]) := Lib.hid hfa; have HGA := Lib.hid hga; have HS4 := Lib.hid (HS0.out.keep hb4); clear hfa hb hga hb4))
  have HT := Lib.hid (node_tl H.out.zt H.out.zr H.out.bel H.out.s3 HB4.out HB5.out HFA.out HFB.out 3)
  have d4 : (put3 (w5.alloc (.cells #[xa, ya, za, xb, yb, zb] 24)) (w.heap.size + 2) (I 3) (I 0) (.slice (some ⟨w5.heap.size, 0, none⟩) 2 2)).cell? ⟨w.heap.size + 1, 4, none⟩ = some (.bool en) := by
    rw [put3_cell _ _ _ _ (by simp)]
    exact cell_keep ((Below.refl _ _).alloc (Nat.le_refl _) _) (cell_keep HB5.out (cell_keep HB4.out H.out.d4))
  have hg := hg ta tb HGA.out HGB.out
  clear q0 q1 q2 p0 p1 p2
  change Exit.then _ _ Exit.normal _ (put3 (w5.alloc (.cells #[xa, ya, za, xb, yb, zb] 24)) (w.heap.size + 2) (I 3) (I 0) (.slice (some ⟨w5.heap.size, 0, none⟩) 2 2))
  generalize (put3 (w5.alloc (.cells #[xa, ya, za, xb, yb, zb] 24)) (w.heap.size + 2) (I 3) (I 0) (.slice (some ⟨w5.heap.size, 0, none⟩) 2 2)) = W7 at HT d4 ⊢
  have l0 := HT.out.zt.c0
  have l1 := HT.out.zt.c1
  have l2 := HT.out.zt.c2
  cases en with
  | false =>
    have r0 := HT.out.zr.c0
    have r1 := HT.out.zr.c1
    have r2 := HT.out.zr.c2
    have f0 := HT.out.zr.fr 0
    have f1 := HT.out.zr.fr 1
    have f2 := HT.out.zr.fr 2
    have HF := Lib.hid (HT.out.zr.put (I 3) (I 0) (.slice (some ⟨w5.heap.size, 0, none⟩) 2 2))
    have hg' : Gd n f C (.bin 3 ta tb) := hg
    have HE := Lib.hid (HT.out.no hg')
    clear hg hg'
    go_wp2
    exact bodyPost_ret (results_cell_row (by rfl) _ _ w.heap.size 24 #[(I 3), (I 0), (.slice (some ⟨w5.heap.size, 0, none⟩) 2 2)] (0, 0) _ (by rfl) HF.out Try.underlying24 (by rfl) (by kernel_rfl)) rfl HE.out
  | true =>
    have hz := HT.out.zr.alloc (.cells #[(I 3), (I 0), (.slice (some ⟨w5.heap.size, 0, none⟩) 2 2)] 24)
    have r0 := hz.c0
    have r1 := hz.c1
    have r2 := hz.c2
    have f0 := hz.fr 0
    have f1 := hz.fr 1
    have f2 := hz.fr 2
    have HF := Lib.hid (hz.put (I 2) (I 0) (.slice (some ⟨W7.heap.size, 0, none⟩) 1 1))
    have hg' : Gd n f C (.not (.bin 3 ta tb)) := hg
    have HE := Lib.hid (HT.out.yes hg')
    clear hg hg' hz
    go_wp2
    exact bodyPost_ret (results_cell_row (by rfl) _ _ w.heap.size 24 #[I 2, I 0, .slice (some ⟨W7.heap.size, 0, none⟩) 1 1] (0, 0) _ (by rfl) HF.out Try.underlying24 (by rfl) (by kernel_rfl)) rfl HE.out
end Go.Proofs.Ytpfbommaddaijaa
namespace Go.Proofs.Ytpfbommaddaijaa
open Go.RowKit Go.Maps
set_option linter.unusedVariables false
set_option linter.unusedSimpArgs false

theorem js_pos {n M : Nat} {xor : Bool} {f : Nat} {c : Int} (h : Der n M 1 xor Js f c) : 1 ≤ c := by
  induction h with
  | leaf _ => exact Int.le_refl _
  | neg _ _ ih => exact ih
  | and _ _ _ _ i1 i2 => unfold Js; omega
  | xor _ _ _ _ _ i1 i2 => unfold Js; omega
theorem lf_bit : ∀ (v : Fin 3) (n : Fin 4) (u : Fin 8), u.val < 2 ^ n.val → (lf v.val (2 ^ n.val)).testBit u.val = u.val.testBit v.val := by decide +kernel
theorem neg_bit {M P l u : Nat} (hM : M + 1 = 2 ^ P) (hl : l ≤ M) (hu : u < P) : (M - l).testBit u = !l.testBit u := by
  have e : M - l = 2 ^ P - (l + 1) := by omega
  rw [e, Nat.testBit_two_pow_sub_succ (by omega)]
  simp [hu]
theorem gd_leaf {n M f l : Nat} (hn : n ≤ 3) (hM : M + 1 = 2 ^ 2 ^ n) (hl : l ≤ M) {en : Bool} (hf : f = if en then M - l else l) {p q : Int} (hpq : (l = 0 ∧ p = 1 ∧ q = 0) ∨ ∃ v : Nat, v < n ∧ l = lf v (2 ^ n) ∧ p = 0 ∧ q = v) :
    Gd n f 1 (if en then .not (.leaf p q) else .leaf p q) := by
  have hok : (Fx.leaf p q).ok n := by
    rcases hpq with ⟨_, rfl, rfl⟩ | ⟨v, h1, _, rfl, rfl⟩
    · exact .inr ⟨rfl, .inl rfl⟩
    · exact .inl ⟨rfl, by omega, by omega⟩
  have hx : (Fx.leaf p q).has 5 = false := by
    rcases hpq with ⟨_, rfl, rfl⟩ | ⟨v, h1, _, rfl, rfl⟩ <;> rfl
  have hv : ∀ u, u < 2 ^ n → (Fx.leaf p q).val u = l.testBit u := fun u hu => by
    rcases hpq with ⟨rfl, rfl, rfl⟩ | ⟨v, h1, rfl, rfl, rfl⟩
    · simp [Fx.val]
    · have h8 : 2 ^ n ≤ 2 ^ 3 := Nat.pow_le_pow_right (by decide) hn
      have := lf_bit ⟨v, by omega⟩ ⟨n, by omega⟩ ⟨u, by omega⟩ hu
      simp only at this
      rw [this]
      simp [Fx.val]
  cases en with
  | false =>
    simp only [Bool.false_eq_true, if_false] at hf ⊢
    subst hf
    exact ⟨hok, rfl, by simp [Fx.nodes, Fx.size], hx, hv⟩
  | true =>
    simp only [if_true] at hf ⊢
    subst hf
    refine ⟨hok, rfl, by simp [Fx.nodes, Fx.size], ?_, fun u hu => ?_⟩
    · show ((5 : Int) == 2 || (Fx.leaf p q).has 5) = false; rw [hx]; rfl
    · rw [neg_bit hM hl hu, ← hv u hu]; rfl
theorem gd_node {n M f x y : Nat} (hM : M + 1 = 2 ^ 2 ^ n) (hx : x ≤ M) {en : Bool} (hf : f = if en then M - (x &&& y) else x &&& y) {CX CY : Int} {A B : Fx} (ga : Gd n x CX A) (gb : Gd n y CY B) :
    Gd n f (CX + CY) (if en then .not (.bin 3 A B) else .bin 3 A B) := by
  have hok : (Fx.bin 3 A B).ok n := ⟨.inl rfl, ga.ok, gb.ok⟩
  have hs : ((Fx.bin 3 A B).size : Int) = CX + CY := by simp [Fx.size, ga.hs, gb.hs]
  have hn1 := ga.hn
  have hn2 := gb.hn
  have h5 : (Fx.bin 3 A B).has 5 = false := by simp [Fx.has, ga.hx, gb.hx]
  have hv : ∀ u, u < 2 ^ n → (Fx.bin 3 A B).val u = (x &&& y).testBit u := fun u hu => by rw [Nat.testBit_and, ← ga.hv u hu, ← gb.hv u hu]; rfl
  cases en with
  | false =>
    simp only [Bool.false_eq_true, if_false] at hf ⊢
    subst hf
    exact ⟨hok, hs, by simp only [Fx.nodes, Fx.size]; omega, h5, hv⟩
  | true =>
    simp only [if_true] at hf ⊢
    subst hf
    refine ⟨hok, hs, by simp only [Fx.nodes, Fx.size]; omega, ?_, fun u hu => ?_⟩
    · show ((5 : Int) == 2 || (Fx.bin 3 A B).has 5) = false; rw [h5]; rfl
    · rw [neg_bit hM (Nat.le_trans Nat.and_le_left hx) hu, ← hv u hu]; rfl
/-- the closure builds a formula of the least cost -/
theorem build_any {n M N g ga gb gc gm : Nat} {E : Nat → Ent} (hn : n ≤ 3) (hM : M + 1 = 2 ^ 2 ^ n) (hN : N = M + 1) (hi : Inv n M 1 false Js E) (hc : Clo n M 1 false Js E) :
    ∀ (m : Nat) {f : Nat} {w : World}, cs E f ≤ m → f ≤ M → gc < w.heap.size → Cap w n N g ga gb gc gm E →
      Calls Try.prog 79 #[I f, .pointer (some ⟨ga, 0, none⟩), .pointer (some ⟨gb, 0, none⟩), .pointer (some ⟨gc, 0, none⟩)] w (RB w n f (cs E f))
  | 0, f, w, hm, hf, hgc, hcap => by
    obtain ⟨hlt, hd, _⟩ := least_is hn hM join_sum js_ok (by decide) (by decide) hi hc hf
    have := js_pos hd
    omega
  | m + 1, f, w, hm, hf, hgc, hcap => by
    have h16 : 2 ^ 2 ^ n ≤ 2 ^ 8 := Nat.pow_le_pow_right (by decide) (Nat.pow_le_pow_right (n := 2) (by decide) hn : 2 ^ n ≤ 2 ^ 3)
    have hB : BIG = 1048576 := rfl
    obtain ⟨hlt, hd, hle⟩ := least_is hn hM join_sum js_ok (by decide) (by decide) hi hc hf
    rcases hi.hk f hf hlt with ⟨hk, l, hl, ha, hcost, hfl⟩ | ⟨x, y, hyx, hx, ha, hb, hj, hxB, hyB, ⟨hk, hfl⟩ | ⟨h, _⟩⟩
    · have hlM : l ≤ M := by have := LS_lt hn hl; omega
      have he : E f = ⟨(E f).c, -1, l, (E f).b, (E f).nt⟩ := by rw [← hk, ← ha]
      obtain ⟨W1, W2, W3, p, q, hbeg, hpq⟩ := beg_ex hcap (by omega) (x := l) (by omega) he
      have hcs : cs E f = 1 := hcost
      rw [hcs]
      exact build_leaf hbeg (by omega) (by omega) (gd_leaf hn hM hlM hfl (hpq hl))
    · have hy : y ≤ M := by omega
      have he : E f = ⟨(E f).c, 3, x, y, (E f).nt⟩ := by rw [← hk, ← ha, ← hb]
      obtain ⟨W1, W2, W3, p, q, hbeg, hpq⟩ := beg_ex hcap (by omega) (x := x) (by omega) he
      have hx1 := js_pos (hi.hd x hx hxB)
      have hy1 := js_pos (hi.hd y hy hyB)
      have hxy : x &&& y ≤ M := Nat.le_trans Nat.and_le_left hx
      have hcf : cs E f = cs E (x &&& y) := by
        cases hen : (E f).nt with
        | false => rw [hen] at hfl; simp only [Bool.false_eq_true, if_false] at hfl; rw [hfl]
        | true => rw [hen] at hfl; simp only [if_true] at hfl; rw [hfl, hi.hs _ hxy]
      have hj' : cs E x + cs E y ≤ cs E f := hj
      have hnd := (hc.nd x y hyx hx (show cs E x + cs E y < BIG by omega)).1
      have hnd' : cs E (x &&& y) ≤ cs E x + cs E y := hnd
      have hsum : cs E f = cs E x + cs E y := by omega
      rw [hsum]
      refine build_node (CX := cs E x) (CY := cs E y) hbeg (by omega) (by omega) hgc (fun W' hW => ?_) (fun W' hW => ?_) (fun A B h1 h2 => gd_node hM hx hfl h1 h2)
      · exact build_any hn hM hN hi hc m (by omega) hx (Nat.lt_of_lt_of_le hgc (Nat.le_trans hbeg.bel.size hW.size)) (hbeg.cap.keep hW)
      · exact build_any hn hM hN hi hc m (by omega) hy (Nat.lt_of_lt_of_le hgc (Nat.le_trans hbeg.bel.size hW.size)) (hbeg.cap.keep hW)
    · cases h
end Go.Proofs.Ytpfbommaddaijaa
namespace Go.Proofs.Ytpfbommaddaijaa
open Go.RowKit Go.Maps
set_option linter.unusedVariables false
set_option linter.unusedSimpArgs false

theorem results_cell_row2 {fn : Func} {p u : Tmp} {ty : TypeId} {P : Program} (h : fn.results = #[.cell p ty, .tmp u]) (tmps : Array Value) (w : World) (g : Nat) (cs : Array Value)
    (hp : tmps.getD p undef = .pointer (some ⟨g, 0, none⟩)) (hl : (loadVar ty ⟨g, 0, none⟩).run P w = .ok (.agg cs) w) :
    (results fn tmps).run P w = .ok (.tuple #[.agg cs, tmps.getD u undef]) w := by
  rw [results_cell_tmp h, hp]
  simp [asAddr, Result.andThen, hl]
theorem Z3.load {w : World} {b : Nat} {x y z : Value} (h : Z3 w b x y z) : (loadVar 24 ⟨b, 0, none⟩).run Try.prog w = .ok (.agg #[x, y, z]) w :=
  run_loadVar_row w b 24 24 #[x, y, z] (0, 0) _ h Try.underlying24 (by rfl) (by kernel_rfl)
abbrev clo (ga gb gc : Nat) : Value := .func (.func 79) #[] #[.pointer (some ⟨ga, 0, none⟩), .pointer (some ⟨gb, 0, none⟩), .pointer (some ⟨gc, 0, none⟩)]
theorem cap_ex {w1 W4 w2 W5 : World} {n N g : Nat} {E : Nat → Ent} (h1 : w1.rowIs g 95 (5 * N) (Es E)) (h4 : W4 = w1.alloc (.cells #[.slice (some ⟨g, 0, none⟩) N N] 90)) (own : w2.ownsMap Try.prog 3 frm W4.heap.size (n + 1) (Dl n n)) (b : Below W4.heap.size W4 w2)
    (h5 : W5 = (w2.alloc (.cells #[.map (some W4.heap.size)] 97)).alloc (.cells #[clo w1.heap.size w2.heap.size (w2.heap.size + 1)] 86)) :
    Cap W5 n N g w1.heap.size w2.heap.size (w2.heap.size + 1) W4.heap.size E ∧ Below w1.heap.size w1 W5 ∧ w2.heap.size + 1 < W5.heap.size := by
  have s4 : W4.heap.size = w1.heap.size + 1 := by rw [h4]; exact World.size_alloc _ _
  have b14 : Below w1.heap.size w1 W4 := by rw [h4]; exact (Below.refl _ _).alloc (Nat.le_refl _) _
  have b25 : Below w2.heap.size w2 W5 := by rw [h5]; exact ((Below.refl _ _).alloc (Nat.le_refl _) _).alloc (by rw [World.size_alloc]; omega) _
  have b45 : Below W4.heap.size W4 W5 := b.trans (b25.mono b.size)
  have b15 : Below w1.heap.size w1 W5 := b14.trans (b45.mono b14.size)
  have hz : W5.heap.size = w2.heap.size + 2 := by rw [h5, World.size_alloc, World.size_alloc]
  have c4 : W4.cell? ⟨w1.heap.size, 0, none⟩ = some (.slice (some ⟨g, 0, none⟩) N N) := by rw [h4]; simp [go_sem]
  have c5 : (w2.alloc (.cells #[.map (some W4.heap.size)] 97)).cell? ⟨w2.heap.size, 0, none⟩ = some (.map (some W4.heap.size)) := by simp [go_sem]
  refine ⟨⟨h1.of_block (b15.block _ h1.lt), cell_keep b45 c4, by rw [h5]; exact cell_alloc c5 _, own.kept (row := none) ⟨b25.os, b25.tape, b25.output, b25.size, fun k hk _ => b25.block k hk⟩ (by simp), ?_⟩, b15, by omega⟩
  have e : (w2.alloc (.cells #[.map (some W4.heap.size)] 97)).heap.size = w2.heap.size + 1 := World.size_alloc _ _
  rw [h5, ← e]
  simp [go_sem]
def RL (w : World) (n : Nat) (f : Nat → Bool) (e : Ending) (w' : World) : Prop := ∃ E t x y z, e = .returned (.tuple #[.agg #[x, y, z], I 0]) ∧ Inv n (2 ^ 2 ^ n - 1) 1 false Js E ∧ Clo n (2 ^ 2 ^ n - 1) 1 false Js E ∧ Fm w' t [x, y, z] ∧ Gd n (tn f (2 ^ n)) (cs E (tn f (2 ^ n))) t ∧ Below w.heap.size w w'
set_option maxHeartbeats 1000000 in
set_option maxRecDepth 100000 in
theorem leastFormula_ok {w : World} {v : Value} {n : Nat} {f : Nat → Bool} (hn : n ≤ 3) (hb : Bs w v (2 ^ n) f) : Calls Try.prog 28 #[v] w (RL w n f) := by
  obtain ⟨a, cap, rfl⟩ := hb.shape
  have h8 : 2 ^ n ≤ 2 ^ 3 := Nat.pow_le_pow_right (by decide) hn
  have HL := Lib.hid (fun w : World => least55_ok (w := w) (a := a) (cap := cap) (len := 2 ^ n) (by omega) hn (inp_pow (by omega)) 1 false (by decide))
  have HLV := Lib.hid (fun w : World => leaves_any (w := w) n hn)
  have hlt := tn_lt f (2 ^ n)
  have HBS := Lib.hid hb
  have h256 := (hp3 ⟨n, by omega⟩).2.2
  simp only at h256
  clear hb
  unfold Lr55 at HL
  obtain ⟨N, hN⟩ : ∃ N, N = 2 ^ 2 ^ n := ⟨_, rfl⟩
  obtain ⟨M, hM⟩ : ∃ M, M = 2 ^ 2 ^ n - 1 := ⟨_, rfl⟩
  have hNM : N = M + 1 := by have := Nat.two_pow_pos (2 ^ n); omega
  have HBA := Lib.hid (fun (g ga gb gc gm : Nat) (E : Nat → Ent) (hi : Inv n M 1 false Js E) (hc : Clo n M 1 false Js E) => build_any (g := g) (ga := ga) (gb := gb) (gc := gc) (gm := gm) hn (by omega) hNM hi hc)
  rw [← hM, ← hN] at HL
  unfold RL
  rw [← hM]
  obtain ⟨L, hL⟩ : ∃ L, L = 2 ^ n := ⟨_, rfl⟩
  rw [← hL] at HL HBS h8 hlt hN hM h256 ⊢
  have HFN := Lib.hid (fun (w' : World) (h : Below w.heap.size w w') => function_any (HBS.out.keep h) (by omega))
  obtain ⟨t, ht⟩ : ∃ t, t = tn f L := ⟨_, rfl⟩
  rw [← ht] at HFN hlt ⊢
  have htN : t < N := by omega
  clear ht hN hM hlt h256 hL
  have HNM := Lib.hid hNM
  have htM : t ≤ M := by omega
  have HTM := Lib.hid htM
  clear hNM htM
  have HB0 : Hid (Below w.heap.size w (w.alloc (.cells #[I 0, I 0, .slice none 0 0] 24))) := Lib.hid ((Below.refl _ _).alloc (Nat.le_refl _) _)
  have HZ0 := Lib.hid (Z3.new w (I 0) (I 0) (.slice none 0 0))
  go_enter Try.func28, Try.ntmps28
  go_upto_region 1 with fail
  obtain ⟨W0, hW0⟩ : ∃ W0, W0 = w.alloc (.cells #[I 0, I 0, .slice none 0 0] 24) := ⟨_, rfl⟩
  rw [← hW0] at HB0 HZ0 ⊢
  clear hW0
  go_upto_region 2 with (first
    | (go_at_call 71; refine (HL.out _).mono ?_; rintro e w1 ⟨E, g, rfl, h1, h2, h3, h4⟩; have H1 := Lib.hid h1; have H2 := Lib.hid h2; have H3 := Lib.hid h3; have H4 := Lib.hid h4; clear h1 h2 h3 h4))
  obtain ⟨W4, hW4⟩ : ∃ W4, W4 = w1.alloc (.cells #[.slice (some ⟨g, 0, none⟩) N N] 90) := ⟨_, rfl⟩
  rw [← hW4]
  have HW4 := Lib.hid hW4
  clear hW4
  go_upto_region 7 with (first
    | (go_at_call 78; refine (HLV.out _).mono ?_; rintro e w2 ⟨rfl, h1, h2⟩; have H5 := Lib.hid h1; have H6 := Lib.hid h2; clear h1 h2))
  obtain ⟨W5, hW5⟩ : ∃ W5, W5 = (w2.alloc (.cells #[.map (some W4.heap.size)] 97)).alloc (.cells #[clo w1.heap.size w2.heap.size (w2.heap.size + 1)] 86) := ⟨_, rfl⟩
  have hcap := cap_ex H1.out HW4.out H5.out H6.out hW5
  rw [← hW5]
  have b05 : Below W0.heap.size W0 W5 := H4.out.trans (hcap.2.1.mono H4.out.size)
  have HB5 : Hid (Below w.heap.size w W5) := Lib.hid (HB0.out.trans (b05.mono HB0.out.size))
  have HZ5 := Lib.hid (HZ0.out.keep b05)
  have hc := hcap.1.cc
  have HC := Lib.hid (fun (W' : World) (h : Below W5.heap.size W5 W') => HBA.out g w1.heap.size w2.heap.size (w2.heap.size + 1) W4.heap.size E H2.out H3.out (cs E t).toNat (f := t) (w := W') (Int.self_le_toNat _) HTM.out (Nat.lt_of_lt_of_le hcap.2.2 h.size) (hcap.1.keep h))
  have HF2 := Lib.hid (fun (W' : World) (h : Below W5.heap.size W5 W') => (HFN.out W' (HB5.out.trans (h.mono HB5.out.size))).mono fun e w' h' => (⟨h'.1, h'.2.symm⟩ : e = .returned (I t) ∧ w' = W'))
  have HB55 := Lib.hid (Below.refl W5.heap.size W5)
  clear hW5 hcap b05
  go_still_tail 3, (by kernel_rfl)
  still_call (HF2.out _ HB55.out.drew)
  refine wpStill_nil ?_
  go_wp2_with (go_at_call 79; refine (HC.out _ ?_).mono ?_; (first | exact HB55.out | exact HB55.out.drew); rintro e w6 ⟨tt, x, y, z, rfl, hfm, hb, hgd⟩; obtain ⟨tk, tm, tA, tl, tc, he⟩ := hfm.fm.three; simp only [List.cons.injEq, and_true] at he; obtain ⟨rfl, rfl, rfl⟩ := he; have hb6 : Below W5.heap.size W5 w6 := HB55.out.drew.trans hb; have hz := HZ5.out.keep hb6; have r0 := hz.c0; have r1 := hz.c1; have r2 := hz.c2; have f0 := hz.fr 0; have f1 := hz.fr 1; have f2 := hz.fr 2; have HF := Lib.hid (hz.put (I tk) (I tm) (.slice tA tl tc)); have HFM := Lib.hid hfm; have HGD := Lib.hid hgd; have HB6 := Lib.hid hb6; clear hz hfm hgd hb hb6)
  refine bodyPost_ret (results_cell_row2 (by rfl) _ _ w.heap.size #[I tk, I tm, .slice tA tl tc] (by rfl) HF.out.load) rfl ?_
  refine ⟨E, tt, _, _, _, rfl, H2.out, H3.out, HFM.out _ fun k h1 h2 => put3_other _ _ _ (Nat.ne_of_gt (Nat.lt_of_lt_of_le (Nat.lt_of_lt_of_le HZ5.out.lt (Nat.le_refl _)) h1)), HGD.out, put3_below (HB5.out.trans (HB6.out.mono HB5.out.size)) _ _ _ (Nat.le_refl _)⟩
set_option maxHeartbeats 1000000 in
theorem leastFormula_bad {w : World} {a : Option Addr} {len cap : Nat} (hl : len < 8192) {n : Int} (h : Inp len n false) : Calls Try.prog 28 #[.slice a len cap] w fun e w' => e = .returned (.tuple #[.agg #[I 0, I 0, .slice none 0 0], I 1]) ∧ Below w.heap.size w w' := by
  have HL := Lib.hid (fun (w : World) fv => least_bad (w := w) (a := a) (cap := cap) hl h 1 false fv)
  have HB0 : Hid (Below w.heap.size w (w.alloc (.cells #[I 0, I 0, .slice none 0 0] 24))) := Lib.hid ((Below.refl _ _).alloc (Nat.le_refl _) _)
  have HZ0 := Lib.hid (Z3.new w (I 0) (I 0) (.slice none 0 0))
  clear h
  go_enter Try.func28, Try.ntmps28
  go_upto_region 1 with fail
  obtain ⟨W0, hW0⟩ : ∃ W0, W0 = w.alloc (.cells #[I 0, I 0, .slice none 0 0] 24) := ⟨_, rfl⟩
  rw [← hW0] at HB0 HZ0 ⊢
  clear hW0
  go_upto_region 2 with (go_at_call 71; refine (HL.out _ _).mono ?_; rintro e w1 ⟨rfl, hb⟩; have HB1 := Lib.hid hb; clear hb)
  obtain ⟨W4, hW4⟩ : ∃ W4, W4 = w1.alloc (.cells #[.slice none 0 0] 90) := ⟨_, rfl⟩
  rw [← hW4]
  have b04 : Below W0.heap.size W0 W4 := by rw [hW4]; exact HB1.out.alloc HB1.out.size _
  have HB4 := Lib.hid (HB0.out.trans (b04.mono HB0.out.size))
  have hz := HZ0.out.keep b04
  clear hW4 b04
  have r0 := hz.c0
  have r1 := hz.c1
  have r2 := hz.c2
  have f0 := hz.fr 0
  have f1 := hz.fr 1
  have f2 := hz.fr 2
  have HF := Lib.hid (hz.put (I 0) (I 0) (.slice none 0 0))
  clear hz
  go_wp2
  exact bodyPost_ret (results_cell_row2 (by rfl) _ _ w.heap.size #[I 0, I 0, .slice none 0 0] (by rfl) HF.out.load) rfl ⟨rfl, put3_below HB4.out _ _ _ (Nat.le_refl _)⟩
set_option maxHeartbeats 1000000 in
theorem leastFormula_big {w : World} {a : Option Addr} {len cap : Nat} (hl : len < 8192) {n : Int} (hn : 3 < n) (h : Inp len n true) : Calls Try.prog 28 #[.slice a len cap] w fun e w' => e = .returned (.tuple #[.agg #[I 0, I 0, .slice none 0 0], I 5]) ∧ Below w.heap.size w w' := by
  have HL := Lib.hid (fun (w : World) fv => least_big (w := w) (a := a) (cap := cap) hl hn h 1 false fv)
  have HB0 : Hid (Below w.heap.size w (w.alloc (.cells #[I 0, I 0, .slice none 0 0] 24))) := Lib.hid ((Below.refl _ _).alloc (Nat.le_refl _) _)
  have HZ0 := Lib.hid (Z3.new w (I 0) (I 0) (.slice none 0 0))
  clear h
  go_enter Try.func28, Try.ntmps28
  go_upto_region 1 with fail
  obtain ⟨W0, hW0⟩ : ∃ W0, W0 = w.alloc (.cells #[I 0, I 0, .slice none 0 0] 24) := ⟨_, rfl⟩
  rw [← hW0] at HB0 HZ0 ⊢
  clear hW0
  go_upto_region 2 with (go_at_call 71; refine (HL.out _ _).mono ?_; rintro e w1 ⟨rfl, hb⟩; have HB1 := Lib.hid hb; clear hb)
  obtain ⟨W4, hW4⟩ : ∃ W4, W4 = w1.alloc (.cells #[.slice none 0 0] 90) := ⟨_, rfl⟩
  rw [← hW4]
  have b04 : Below W0.heap.size W0 W4 := by rw [hW4]; exact HB1.out.alloc HB1.out.size _
  have HB4 := Lib.hid (HB0.out.trans (b04.mono HB0.out.size))
  have hz := HZ0.out.keep b04
  clear hW4 b04
  have r0 := hz.c0
  have r1 := hz.c1
  have r2 := hz.c2
  have f0 := hz.fr 0
  have f1 := hz.fr 1
  have f2 := hz.fr 2
  have HF := Lib.hid (hz.put (I 0) (I 0) (.slice none 0 0))
  clear hz
  go_wp2
  exact bodyPost_ret (results_cell_row2 (by rfl) _ _ w.heap.size #[I 0, I 0, .slice none 0 0] (by rfl) HF.out.load) rfl ⟨rfl, put3_below HB4.out _ _ _ (Nat.le_refl _)⟩
end Go.Proofs.Ytpfbommaddaijaa
