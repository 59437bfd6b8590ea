/- made where a list is empty, and at leaves. -/
import Derived.Test.YtpfbommaddaijaaZeQ4h
import Derived.Deep.RegionHeld3
namespace Go.Proofs.Ytpfbommaddaijaa
open Go.RowKit Go.Proofs.YtpfbommaddaijaaW.PrintWords Go.Proofs.YtpfbommaddaijaaW.PrintLast PBoundTo
set_option linter.unusedVariables false
set_option linter.unusedSimpArgs false

theorem H_take {P : Program} {md : Region.Mode} {ops : Array Oper} {Q : Exit → Act → World → Prop} {S : World → Prop} {i : Nat} {oi : Oper} {d : Option Tmp} {v : Value} {fuel : Nat} {listed : Array Bool} {a : Act} {w : World} (hi : ops[i]? = some oi) (hd : oi.dst = d)
    (hs : Region.noSelect ops = true) (hf : Region.free md ops listed i = true) (hr : (Region.ready md ops listed).contains i = true)
    (hQ : ∀ c a w, Q (.panic c) (a.put d v) w → Q (.panic c) a w) (hy : YieldsIf P ops S oi v a) (hS : S w)
    (h : wpAnyH P md ops Q S fuel (listed.setIfInBounds i true) (a.put d v) w) : wpAnyH P md ops Q S (fuel + 1) listed a w := by
  subst hd
  exact wpAnyH_take hi hs hf hr hQ hy hS h
/-- three cells stored -/
abbrev pt3 (W : World) (g : Nat) (a b c : Value) : World := ((W.setCell ⟨g, 0, none⟩ a).setCell ⟨g, 1, none⟩ b).setCell ⟨g, 2, none⟩ c
theorem blk_pt3 {W : World} {g : Nat} {t : TypeId} {a b c a' b' c' : Value} (h : W.heap[g]? = some (.cells #[a', b', c'] t (0, 0))) : (pt3 W g a b c).heap[g]? = some (.cells #[a, b, c] t (0, 0)) := blk_set (blk_set (blk_set h 0 a) 1 b) 2 c
theorem blk_farp3 {W : World} {g g' : Nat} {o : Obj} {a b c : Value} (h : W.heap[g]? = some o) (hne : g ≠ g') : (pt3 W g' a b c).heap[g]? = some o := by
  rw [← h]
  show (((W.setCell ⟨g', 0, none⟩ a).setCell ⟨g', 1, none⟩ b).setCell ⟨g', 2, none⟩ c).heap[g]? = W.heap[g]?
  rw [one_other hne, one_other hne, one_other hne]
theorem below_pt3 {w W : World} {g : Nat} {a b c : Value} (h : Below w.heap.size w W) (hg : w.heap.size ≤ g) : Below w.heap.size w (pt3 W g a b c) := below_set (below_set (below_set h hg) hg) hg
theorem cell_farp3 {W : World} {g : Nat} {a : Addr} {v x y z : Value} (h : W.cell? a = some v) (hne : a.block ≠ g) : (pt3 W g x y z).cell? a = some v := by
  rw [← h]
  exact World.cell?_of_block (by
    show (((W.setCell ⟨g, 0, none⟩ x).setCell ⟨g, 1, none⟩ y).setCell ⟨g, 2, none⟩ z).heap[a.block]? = W.heap[a.block]?
    rw [one_other hne, one_other hne, one_other hne])
set_option maxHeartbeats 4000000 in
set_option maxRecDepth 100000 in
theorem made_noA {W : World} {lf : Bool} {v pl : Int} {la lk c3 c4 nb ca cb : Nat} {A3 A4 A B : Option Addr} :
    Calls Try.prog 135 #[.agg #[.bool lf, I v, I pl, .slice A3 la c3, .slice A4 lk c4], .slice A 0 ca, .slice B nb cb] W (MR W (.leaf 1 0, true)) := by
  unfold MR
  obtain ⟨W1, hW1⟩ : ∃ W1, W1 = W.alloc (.cells #[.bool lf, I v, I pl, .slice A3 la c3, .slice A4 lk c4] 32) := ⟨_, rfl⟩
  obtain ⟨W2, hW2⟩ : ∃ W2, W2 = W1.alloc (.cells #[I 0, I 0, .slice none 0 0] 24) := ⟨_, rfl⟩
  have hs1 : W1.heap.size = W.heap.size + 1 := by rw [hW1]; exact World.size_alloc _ _
  have BK1 : W1.heap[W.heap.size]? = some (.cells #[.bool lf, I v, I pl, .slice A3 la c3, .slice A4 lk c4] 32 (0, 0)) := by rw [hW1]; exact blk_new _ _
  have HBK : Hid (W2.heap[W.heap.size]? = some (.cells #[.bool lf, I v, I pl, .slice A3 la c3, .slice A4 lk c4] 32 (0, 0))) := Lib.hid (by rw [hW2]; exact blk_alloc BK1 _)
  have HRB : Hid (W2.heap[W.heap.size + 1]? = some (.cells #[I 0, I 0, .slice none 0 0] 24 (0, 0))) := Lib.hid (by rw [hW2, ← hs1]; exact blk_new _ _)
  have HB1 : Hid (Below W.heap.size W W1) := Lib.hid (by rw [hW1]; exact below_alloc (Below.refl _ _) _)
  have HB2 : Hid (Below W.heap.size W W2) := Lib.hid (by rw [hW2]; exact below_alloc HB1.out _)
  clear BK1
  have r0 : W2.cell? ⟨W.heap.size + 1, 0, none⟩ = some (I 0) := (blk_cell HRB.out 0).trans rfl
  have r1 : W2.cell? ⟨W.heap.size + 1, 1, none⟩ = some (I 0) := (blk_cell HRB.out 1).trans rfl
  have r2 : W2.cell? ⟨W.heap.size + 1, 2, none⟩ = some (.slice none 0 0) := (blk_cell HRB.out 2).trans rfl
  have s0 := blk_frozen HRB.out 0
  have s1 := blk_frozen HRB.out 1
  have s2 := blk_frozen HRB.out 2
  have HF := Lib.hid (blk_pt3 (a := I 1) (b := I 0) (c := .slice none 0 0) HRB.out)
  have HBF := Lib.hid (below_pt3 (a := I 1) (b := I 0) (c := .slice none 0 0) HB2.out (Nat.le_succ _))
  go_enter Try.func135, Try.ntmps135
  go_upto_region 1 with fail
  rw [← hW1, ← hW2]
  clear hW1 hW2 hs1
  go_wp2
  refine bodyPost_ret (results_ct (by rfl) _ _ (W.heap.size + 1) 24 #[I 1, I 0, .slice none 0 0] (0, 0) _ (by rfl) HF.out Try.underlying24 (by rfl) (by kernel_rfl)) rfl ?_
  exact ⟨1, 0, none, 0, 0, rfl, FmS.leaf, HBF.out⟩
set_option maxHeartbeats 4000000 in
set_option maxRecDepth 100000 in
theorem made_noB {W : World} {lf : Bool} {v pl : Int} {la lk c3 c4 na ca cb : Nat} {A3 A4 A B : Option Addr} (ha : na ≠ 0) :
    Calls Try.prog 135 #[.agg #[.bool lf, I v, I pl, .slice A3 la c3, .slice A4 lk c4], .slice A na ca, .slice B 0 cb] W (MR W (.leaf 1 1, true)) := by
  unfold MR
  have h1 : ((na : Int) == 0) = false := by rw [beq_eq_false_iff_ne]; omega
  have h2 : (na == 0) = false := by rw [beq_eq_false_iff_ne]; exact ha
  obtain ⟨W1, hW1⟩ : ∃ W1, W1 = W.alloc (.cells #[.bool lf, I v, I pl, .slice A3 la c3, .slice A4 lk c4] 32) := ⟨_, rfl⟩
  obtain ⟨W2, hW2⟩ : ∃ W2, W2 = W1.alloc (.cells #[I 0, I 0, .slice none 0 0] 24) := ⟨_, rfl⟩
  have hs1 : W1.heap.size = W.heap.size + 1 := by rw [hW1]; exact World.size_alloc _ _
  have BK1 : W1.heap[W.heap.size]? = some (.cells #[.bool lf, I v, I pl, .slice A3 la c3, .slice A4 lk c4] 32 (0, 0)) := by rw [hW1]; exact blk_new _ _
  have HBK : Hid (W2.heap[W.heap.size]? = some (.cells #[.bool lf, I v, I pl, .slice A3 la c3, .slice A4 lk c4] 32 (0, 0))) := Lib.hid (by rw [hW2]; exact blk_alloc BK1 _)
  have HRB : Hid (W2.heap[W.heap.size + 1]? = some (.cells #[I 0, I 0, .slice none 0 0] 24 (0, 0))) := Lib.hid (by rw [hW2, ← hs1]; exact blk_new _ _)
  have HB1 : Hid (Below W.heap.size W W1) := Lib.hid (by rw [hW1]; exact below_alloc (Below.refl _ _) _)
  have HB2 : Hid (Below W.heap.size W W2) := Lib.hid (by rw [hW2]; exact below_alloc HB1.out _)
  clear BK1
  have r0 : W2.cell? ⟨W.heap.size + 1, 0, none⟩ = some (I 0) := (blk_cell HRB.out 0).trans rfl
  have r1 : W2.cell? ⟨W.heap.size + 1, 1, none⟩ = some (I 0) := (blk_cell HRB.out 1).trans rfl
  have r2 : W2.cell? ⟨W.heap.size + 1, 2, none⟩ = some (.slice none 0 0) := (blk_cell HRB.out 2).trans rfl
  have s0 := blk_frozen HRB.out 0
  have s1 := blk_frozen HRB.out 1
  have s2 := blk_frozen HRB.out 2
  have HF := Lib.hid (blk_pt3 (a := I 1) (b := I 1) (c := .slice none 0 0) HRB.out)
  have HBF := Lib.hid (below_pt3 (a := I 1) (b := I 1) (c := .slice none 0 0) HB2.out (Nat.le_succ _))
  go_enter Try.func135, Try.ntmps135
  go_upto_region 1 with fail
  rw [← hW1, ← hW2]
  clear hW1 hW2 hs1
  go_wp2
  refine bodyPost_ret (results_ct (by rfl) _ _ (W.heap.size + 1) 24 #[I 1, I 1, .slice none 0 0] (0, 0) _ (by rfl) HF.out Try.underlying24 (by rfl) (by kernel_rfl)) rfl ?_
  exact ⟨1, 1, none, 0, 0, rfl, FmS.leaf, HBF.out⟩
/-- a formula's three cells hold -/
def F3 (g : Nat) (a b c : Value) (W : World) : Prop := W.cell? ⟨g, 0, none⟩ = some a ∧ W.cell? ⟨g, 1, none⟩ = some b ∧ W.cell? ⟨g, 2, none⟩ = some c
theorem F3.keep {g : Nat} {a b c : Value} {W W' : World} (h : F3 g a b c W) (hb : Below W.heap.size W W') : F3 g a b c W' := ⟨cell_keep' hb h.1, cell_keep' hb h.2.1, cell_keep' hb h.2.2⟩
theorem F3.put {g g' : Nat} {a b c : Value} {W : World} (h : F3 g a b c W) (hne : g ≠ g') (x y z : Value) : F3 g a b c (pt3 W g' x y z) := ⟨cell_farp3 h.1 hne, cell_farp3 h.2.1 hne, cell_farp3 h.2.2 hne⟩
set_option maxHeartbeats 8000000 in
set_option maxRecDepth 100000 in
theorem made_leaf_true {W : World} {v x na nb la lk c3 c4 ca cb : Nat} {pl : Int} {ra rb : Bool} {A3 A4 : Option Addr} {ad bd : Addr} (ha : na ≠ 0) (hb : nb ≠ 0) (hv : (v : Int) < 12) (hx : x < 8192) (hbit : x.testBit v = true) (hc : W.cell? ad = some (I x))
    (HA : ∀ (w' : World) (bp bi : Nat), Below W.heap.size W w' → w'.cell? ⟨bp, 1, none⟩ = some (I v) → w'.cell? ⟨bi, 0, none⟩ = some (.bool true) → Calls Try.prog 149 #[.slice (some ad) na ca, .func (.func 148) #[] #[.pointer (some ⟨bp, 0, none⟩), .pointer (some ⟨bi, 0, none⟩)]] w' fun e w'' => e = .returned (.bool ra) ∧ Below w'.heap.size w' w'')
    (HB : ∀ (w' : World) (bp bi : Nat), Below W.heap.size W w' → w'.cell? ⟨bp, 1, none⟩ = some (I v) → w'.cell? ⟨bi, 0, none⟩ = some (.bool false) → Calls Try.prog 149 #[.slice (some bd) nb cb, .func (.func 148) #[] #[.pointer (some ⟨bp, 0, none⟩), .pointer (some ⟨bi, 0, none⟩)]] w' fun e w'' => e = .returned (.bool rb) ∧ Below w'.heap.size w' w'') :
    Calls Try.prog 135 #[.agg #[.bool true, I v, I pl, .slice A3 la c3, .slice A4 lk c4], .slice (some ad) na ca, .slice (some bd) nb cb] W (MR W (.leaf 0 v, !ra && !rb)) := by
  unfold MR
  replace HA := Lib.hid HA
  replace HB := Lib.hid HB
  have h1 : ((na : Int) == 0) = false := by rw [beq_eq_false_iff_ne]; omega
  have h2 : (na == 0) = false := by rw [beq_eq_false_iff_ne]; exact ha
  have h3 : ((nb : Int) == 0) = false := by rw [beq_eq_false_iff_ne]; omega
  have h4 : (nb == 0) = false := by rw [beq_eq_false_iff_ne]; exact hb
  have hna : decide ((0 : Int) < na) = true := decide_eq_true (by omega)
  have hna' : (0 : Int) < na := by omega
  have hna2 : 0 < na := by omega
  have hv0 : (0 : Int) ≤ v := Int.natCast_nonneg v
  have hsa := shr_and (y := x) (i := v) hx
  have hbe := bit_eq (x.testBit v)
  rw [hbit] at hsa hbe
  generalize (((if true = true then 1 else 0 : Nat)) : Int) = T at hsa hbe
  clear ha hb hx hbit
  obtain ⟨W1, hW1⟩ : ∃ W1, W1 = W.alloc (.cells #[.bool true, I v, I pl, .slice A3 la c3, .slice A4 lk c4] 32) := ⟨_, rfl⟩
  obtain ⟨W2, hW2⟩ : ∃ W2, W2 = W1.alloc (.cells #[I 0, I 0, .slice none 0 0] 24) := ⟨_, rfl⟩
  have hs1 : W1.heap.size = W.heap.size + 1 := by rw [hW1]; exact World.size_alloc _ _
  have BK1 : W1.heap[W.heap.size]? = some (.cells #[.bool true, I v, I pl, .slice A3 la c3, .slice A4 lk c4] 32 (0, 0)) := by rw [hW1]; exact blk_new _ _
  have HBK : Hid (W2.heap[W.heap.size]? = some (.cells #[.bool true, I v, I pl, .slice A3 la c3, .slice A4 lk c4] 32 (0, 0))) := Lib.hid (by rw [hW2]; exact blk_alloc BK1 _)
  have HRB : Hid (W2.heap[W.heap.size + 1]? = some (.cells #[I 0, I 0, .slice none 0 0] 24 (0, 0))) := Lib.hid (by rw [hW2, ← hs1]; exact blk_new _ _)
  have HB1 : Hid (Below W.heap.size W W1) := Lib.hid (by rw [hW1]; exact below_alloc (Below.refl _ _) _)
  have HB2 : Hid (Below W.heap.size W W2) := Lib.hid (by rw [hW2]; exact below_alloc HB1.out _)
  clear BK1
  have k0 : W2.cell? ⟨W.heap.size, 0, none⟩ = some (.bool true) := (blk_cell HBK.out 0).trans rfl
  have k1 : W2.cell? ⟨W.heap.size, 1, none⟩ = some (I v) := (blk_cell HBK.out 1).trans rfl
  have hc2 : W2.cell? ad = some (I x) := cell_keep' HB2.out hc
  clear hc
  go_enter Try.func135, Try.ntmps135
  go_upto_region 1 with fail
  rw [← hW1, ← hW2]
  clear hW1 hW2 hs1
  go_upto_region 6 with fail
  go_quiet (fail)
  go_upto_region 7 with fail
  have HBK3 : Hid ((W2.drewN nq).heap[W.heap.size]? = some (.cells #[.bool true, I v, I pl, .slice A3 la c3, .slice A4 lk c4] 32 (0, 0))) := Lib.hid HBK.out
  have HRB3 : Hid ((W2.drewN nq).heap[W.heap.size + 1]? = some (.cells #[I 0, I 0, .slice none 0 0] 24 (0, 0))) := Lib.hid HRB.out
  have HB3 : Hid (Below W.heap.size W (W2.drewN nq)) := Lib.hid (pw_below_drewN HB2.out _)
  clear HBK HRB HB2 k0 k1 hc2 HB1
  generalize W2.drewN nq = W3 at *
  have k1 : W3.cell? ⟨W.heap.size, 1, none⟩ = some (I v) := (blk_cell HBK3.out 1).trans rfl
  obtain ⟨W4, hW4⟩ : ∃ W4, W4 = W3.alloc (.cells #[I 0, I v, .slice none 0 0] 24) := ⟨_, rfl⟩
  have HFB : Hid (W4.heap[W3.heap.size]? = some (.cells #[I 0, I v, .slice none 0 0] 24 (0, 0))) := Lib.hid (by rw [hW4]; exact blk_new _ _)
  have HB34 : Hid (Below W3.heap.size W3 W4) := Lib.hid (by rw [hW4]; exact below_alloc (Below.refl _ _) _)
  have HRB4 : Hid (W4.heap[W.heap.size + 1]? = some (.cells #[I 0, I 0, .slice none 0 0] 24 (0, 0))) := Lib.hid (blk_below HRB3.out HB34.out)
  have HBK4 : Hid (W4.heap[W.heap.size]? = some (.cells #[.bool true, I v, I pl, .slice A3 la c3, .slice A4 lk c4] 32 (0, 0))) := Lib.hid (blk_below HBK3.out HB34.out)
  have HB4 : Hid (Below W.heap.size W W4) := Lib.hid (HB3.out.trans (HB34.out.mono HB3.out.size))
  have HFM : Hid (∀ w', Below W4.heap.size W4 w' → ∀ x y z : Value, FmS W.heap.size (pt3 w' (W.heap.size + 1) x y z).heap.size (pt3 w' (W.heap.size + 1) x y z) (.leaf 0 v) [I 0, I v, .slice none 0 0]) := Lib.hid (fun w' _ x y z => FmS.leaf)
  go_upto_region 11 with fail
  rw [← hW4]
  clear hW4 k1
  have hS0 : F3 W3.heap.size (I 0) (I v) (.slice none 0 0) W4 := ⟨(blk_cell HFB.out 0).trans rfl, (blk_cell HFB.out 1).trans rfl, (blk_cell HFB.out 2).trans rfl⟩
  have HS0 := Lib.hid hS0
  have hne : W3.heap.size ≠ W.heap.size + 1 := Nat.ne_of_gt (blk_lt HRB3.out)
  have HSP : Hid (∀ (W' : World) (v0 v1 v2 : Value), F3 W3.heap.size (I 0) (I v) (.slice none 0 0) W' → F3 W3.heap.size (I 0) (I v) (.slice none 0 0) (pt3 W' (W.heap.size + 1) v0 v1 v2)) := Lib.hid (fun W' v0 v1 v2 h => h.put hne v0 v1 v2)
  have HCL := Lib.hid (fun (w : World) (is : Bool) => cl147 (w := w) (bp := W.heap.size) (is := is))
  have HBX : Hid (Below W4.heap.size W4 W4) := Lib.hid (Below.refl _ _)
  have HBR : Hid (∀ W', Below W4.heap.size W4 W' → Below W.heap.size W W' ∧ W'.cell? ⟨W.heap.size, 1, none⟩ = some (I v)) := Lib.hid (fun W' h => ⟨HB4.out.trans (h.mono HB4.out.size), cell_keep' h ((blk_cell HBK4.out 1).trans rfl)⟩)
  clear hne hS0
  rcases (show ra = true ∨ ra = false by cases ra <;> simp) with hra | hra
  · have hn : (!ra) = false := by rw [hra]; rfl
    have HRA := Lib.hid hra
    clear hra
    refine wp_region_held_drew (S := (fun W' => W'.cell? ⟨W3.heap.size, 0, none⟩ = some (I 0) ∧ W'.cell? ⟨W3.heap.size, 1, none⟩ = some (I v) ∧ W'.cell? ⟨W3.heap.size, 2, none⟩ = some (.slice none 0 0))) (by kernel_rfl) (HS0.out.keep (pw_below_drewN (Below.refl _ _) 1)) ?_
    intro hSw
    refine H_take (i := 0) (oi := { dst := some 51, op := Op.load 24 (Operand.tmp 10), type := 24, pos := "bound.go:201", after := #[], guard := none }) (d := some 51) (v := ?_) rfl rfl (by kernel_rfl) (by kernel_rfl) (by kernel_rfl) (fun _ _ _ h => h) (Or.inl ⟨by rfl, ?_⟩) hSw ?_
    rotate_left
    · intro w hw; (try dsimp only at hw); go_split_ands; go_simp; try (with_reducible rfl)
    try simp only [Act.put, List.setIfInBounds_toArray, List.set_cons_zero, List.set_cons_succ]
    refine H_take (i := 1) (oi := { dst := some 52, op := Op.move (Operand.tmp 1), type := 52, pos := "bound.go:201", after := #[], guard := none }) (d := some 52) (v := ?_) rfl rfl (by kernel_rfl) (by kernel_rfl) (by kernel_rfl) (fun _ _ _ h => h) (Or.inl ⟨by rfl, ?_⟩) hSw ?_
    rotate_left
    · intro w hw; (try dsimp only at hw); go_split_ands; go_simp; try (with_reducible rfl)
    try simp only [Act.put, List.setIfInBounds_toArray, List.set_cons_zero, List.set_cons_succ]
    refine H_take (i := 2) (oi := { dst := some 53, op := Op.move (Operand.tmp 9), type := 166, pos := "bound.go:201", after := #[], guard := none }) (d := some 53) (v := ?_) rfl rfl (by kernel_rfl) (by kernel_rfl) (by kernel_rfl) (fun _ _ _ h => h) (Or.inl ⟨by rfl, ?_⟩) hSw ?_
    rotate_left
    · intro w hw; (try dsimp only at hw); go_split_ands; go_simp; try (with_reducible rfl)
    try simp only [Act.put, List.setIfInBounds_toArray, List.set_cons_zero, List.set_cons_succ]
    refine H_take (i := 3) (oi := { dst := some 54, op := Op.move (Operand.tmp 8), type := 4, pos := "bound.go:201", after := #[], guard := none }) (d := some 54) (v := ?_) rfl rfl (by kernel_rfl) (by kernel_rfl) (by kernel_rfl) (fun _ _ _ h => h) (Or.inl ⟨by rfl, ?_⟩) hSw ?_
    rotate_left
    · intro w hw; (try dsimp only at hw); go_split_ands; go_simp; try (with_reducible rfl)
    try simp only [Act.put, List.setIfInBounds_toArray, List.set_cons_zero, List.set_cons_succ]
    refine wpAnyH_ready (rs := [4]) (by kernel_rfl) (by simp) ?_
    refine AllReadyH.cons (o := { dst := some 55, op := Op.call { callee := Callee.value (Operand.tmp 53), args := #[Operand.tmp 54], argTypes := #[4] }, type := 139, pos := "bound.go:201", after := #[{ on := 2, ground := Ground.data }, { on := 3, ground := Ground.data }], guard := none }) rfl (fun K hK => ?_) AllReadyH.nil
    go_simp
    (go_at_call 147; (with_reducible refine (HCL.out _ _).mono ?_); rintro e w5 ⟨rfl, hi, hb⟩; have hb4 : Below W4.heap.size W4 w5 := (by first | exact hb | exact (Below.refl _ _).drew.trans hb); have HI5 : Hid (w5.cell? ⟨W4.heap.size, 0, none⟩ = some (.bool true)) := Lib.hid hi; have HB5 := Lib.hid hb4; have HS5 := Lib.hid (HS0.out.keep hb4); clear hi hb hb4)
    refine hK.out _ _ (HS5.out) (fun hSn => ?_)
    clear hK K hSw
    have hSw := hSn
    clear hSn
    try simp only [Act.put, List.setIfInBounds_toArray, List.set_cons_zero, List.set_cons_succ]
    refine wpAnyH_ready (rs := [5]) (by kernel_rfl) (by simp) ?_
    refine AllReadyH.cons (o := { dst := some 56, op := Op.call { callee := Callee.value (Operand.func 149), args := #[Operand.tmp 52, Operand.tmp 55], argTypes := #[52, 139] }, type := 4, pos := "bound.go:201", after := #[{ on := 1, ground := Ground.data }, { on := 4, ground := Ground.data }, { on := 4, ground := Ground.chain }], guard := none }) rfl (fun K hK => ?_) AllReadyH.nil
    go_simp
    (go_at_call 149; (with_reducible refine (HA.out _ _ _ (HBR.out _ HB5.out).1 (HBR.out _ HB5.out).2 HI5.out).mono ?_); rintro e w6 ⟨rfl, hb⟩; have HB6 := Lib.hid (HB5.out.trans (hb.mono HB5.out.size)); have HS6 := Lib.hid (HS5.out.keep hb); have hrw := blk_below HRB4.out HB6.out; have u0 : w6.cell? ⟨W.heap.size + 1, 0, none⟩ = some (I 0) := (blk_cell hrw 0).trans rfl; have f0 := blk_frozen hrw 0; have u1 : w6.cell? ⟨W.heap.size + 1, 1, none⟩ = some (I 0) := (blk_cell hrw 1).trans rfl; have f1 := blk_frozen hrw 1; have u2 : w6.cell? ⟨W.heap.size + 1, 2, none⟩ = some (.slice none 0 0) := (blk_cell hrw 2).trans rfl; have f2 := blk_frozen hrw 2; clear hrw; clear hb)
    refine hK.out _ _ (HS6.out) (fun hSn => ?_)
    clear hK K hSw
    have hSw := hSn
    clear hSn
    try simp only [Act.put, List.setIfInBounds_toArray, List.set_cons_zero, List.set_cons_succ]
    refine H_take (i := 6) (oi := { dst := some 57, op := Op.unOp UnOp.not 4 (Operand.tmp 56), type := 4, pos := "bound.go:201", after := #[{ on := 5, ground := Ground.data }], guard := none }) (d := some 57) (v := ?_) rfl rfl (by kernel_rfl) (by kernel_rfl) (by kernel_rfl) (fun _ _ _ h => h) (Or.inl ⟨by rfl, ?_⟩) hSw ?_
    rotate_left
    · intro w hw; (try dsimp only at hw); go_split_ands; go_simp; try (with_reducible rfl)
    try simp only [Act.put, List.setIfInBounds_toArray, List.set_cons_zero, List.set_cons_succ]
    refine H_take (i := 7) (oi := { dst := some 58, op := Op.move (Operand.tmp 57), type := 4, pos := "bound.go:201", after := #[{ on := 6, ground := Ground.data }, { on := 5, ground := Ground.chain }], guard := none }) (d := some 58) (v := ?_) rfl rfl (by kernel_rfl) (by kernel_rfl) (by kernel_rfl) (fun _ _ _ h => h) (Or.inl ⟨by rfl, ?_⟩) hSw ?_
    rotate_left
    · intro w hw; (try dsimp only at hw); go_split_ands; go_simp; try (with_reducible rfl)
    try simp only [Act.put, List.setIfInBounds_toArray, List.set_cons_zero, List.set_cons_succ]
    refine H_take (i := 8) (oi := { dst := some 59, op := Op.move (Operand.tmp 2), type := 52, pos := "bound.go:201", after := #[{ on := 7, ground := Ground.guard }], guard := some (7, true) }) (d := some 59) (v := undef) rfl rfl (by kernel_rfl) (by kernel_rfl) (by kernel_rfl) (fun _ _ _ h => h) (Or.inr ⟨by rfl, rfl⟩) hSw ?_
    try simp only [Act.put, List.setIfInBounds_toArray, List.set_cons_zero, List.set_cons_succ]
    refine H_take (i := 9) (oi := { dst := some 60, op := Op.move (Operand.tmp 9), type := 166, pos := "bound.go:201", after := #[{ on := 7, ground := Ground.guard }], guard := some (7, true) }) (d := some 60) (v := undef) rfl rfl (by kernel_rfl) (by kernel_rfl) (by kernel_rfl) (fun _ _ _ h => h) (Or.inr ⟨by rfl, rfl⟩) hSw ?_
    try simp only [Act.put, List.setIfInBounds_toArray, List.set_cons_zero, List.set_cons_succ]
    refine H_take (i := 10) (oi := { dst := some 61, op := Op.move (Operand.tmp 8), type := 4, pos := "bound.go:201", after := #[{ on := 7, ground := Ground.guard }], guard := some (7, true) }) (d := some 61) (v := undef) rfl rfl (by kernel_rfl) (by kernel_rfl) (by kernel_rfl) (fun _ _ _ h => h) (Or.inr ⟨by rfl, rfl⟩) hSw ?_
    try simp only [Act.put, List.setIfInBounds_toArray, List.set_cons_zero, List.set_cons_succ]
    refine H_take (i := 11) (oi := { dst := some 62, op := Op.unOp UnOp.not 4 (Operand.tmp 61), type := 4, pos := "bound.go:201", after := #[{ on := 10, ground := Ground.data }, { on := 7, ground := Ground.guard }], guard := some (7, true) }) (d := some 62) (v := undef) rfl rfl (by kernel_rfl) (by kernel_rfl) (by kernel_rfl) (fun _ _ _ h => h) (Or.inr ⟨by rfl, rfl⟩) hSw ?_
    try simp only [Act.put, List.setIfInBounds_toArray, List.set_cons_zero, List.set_cons_succ]
    refine H_take (i := 12) (oi := { dst := some 63, op := Op.call { callee := Callee.value (Operand.tmp 60), args := #[Operand.tmp 62], argTypes := #[4] }, type := 139, pos := "bound.go:201", after := #[{ on := 9, ground := Ground.data }, { on := 11, ground := Ground.data }, { on := 7, ground := Ground.chain }, { on := 7, ground := Ground.guard }], guard := some (7, true) }) (d := some 63) (v := undef) rfl rfl (by kernel_rfl) (by kernel_rfl) (by kernel_rfl) (fun _ _ _ h => h) (Or.inr ⟨by rfl, rfl⟩) hSw ?_
    try simp only [Act.put, List.setIfInBounds_toArray, List.set_cons_zero, List.set_cons_succ]
    refine H_take (i := 13) (oi := { dst := some 64, op := Op.call { callee := Callee.value (Operand.func 149), args := #[Operand.tmp 59, Operand.tmp 63], argTypes := #[52, 139] }, type := 4, pos := "bound.go:201", after := #[{ on := 8, ground := Ground.data }, { on := 12, ground := Ground.data }, { on := 12, ground := Ground.chain }, { on := 7, ground := Ground.guard }], guard := some (7, true) }) (d := some 64) (v := undef) rfl rfl (by kernel_rfl) (by kernel_rfl) (by kernel_rfl) (fun _ _ _ h => h) (Or.inr ⟨by rfl, rfl⟩) hSw ?_
    try simp only [Act.put, List.setIfInBounds_toArray, List.set_cons_zero, List.set_cons_succ]
    refine H_take (i := 14) (oi := { dst := some 65, op := Op.unOp UnOp.not 4 (Operand.tmp 64), type := 4, pos := "bound.go:201", after := #[{ on := 13, ground := Ground.data }, { on := 7, ground := Ground.guard }, { on := 16, ground := Ground.gcOnly Departure.lateStores }], guard := some (7, true) }) (d := some 65) (v := undef) rfl rfl (by kernel_rfl) (by kernel_rfl) (by kernel_rfl) (fun _ _ _ h => h) (Or.inr ⟨by rfl, rfl⟩) hSw ?_
    try simp only [Act.put, List.setIfInBounds_toArray, List.set_cons_zero, List.set_cons_succ]
    refine H_take (i := 15) (oi := { dst := some 66, op := Op.pick (Operand.tmp 58) (Operand.tmp 65) (Operand.const (Value.bool false)), type := 4, pos := "bound.go:201", after := #[{ on := 7, ground := Ground.data }, { on := 14, ground := Ground.data }, { on := 16, ground := Ground.gcOnly Departure.lateStores }], guard := none }) (d := some 66) (v := ?_) rfl rfl (by kernel_rfl) (by kernel_rfl) (by kernel_rfl) (fun _ _ _ h => h) (Or.inl ⟨by rfl, ?_⟩) hSw ?_
    rotate_left
    · intro w hw; (try dsimp only at hw); go_split_ands; go_simp; try (with_reducible rfl)
    try simp only [Act.put, List.setIfInBounds_toArray, List.set_cons_zero, List.set_cons_succ]
    refine wpAnyH_ready (rs := [16]) (by kernel_rfl) (by simp) ?_
    refine AllReadyH.cons (o := { dst := none, op := Op.store 24 (Operand.tmp 6) (Operand.tmp 51), type := 0, pos := "bound.go:201", after := #[{ on := 0, ground := Ground.data }, { on := 13, ground := Ground.chain }, { on := 0, ground := Ground.phase }, { on := 1, ground := Ground.textOnly Departure.lateStores }, { on := 2, ground := Ground.textOnly Departure.lateStores }, { on := 3, ground := Ground.textOnly Departure.lateStores }, { on := 4, ground := Ground.textOnly Departure.lateStoresUnsure }, { on := 5, ground := Ground.textOnly Departure.lateStoresUnsure }, { on := 6, ground := Ground.textOnly Departure.lateStores }, { on := 7, ground := Ground.textOnly Departure.lateStores }, { on := 8, ground := Ground.textOnly Departure.lateStores }, { on := 9, ground := Ground.textOnly Departure.lateStores }, { on := 10, ground := Ground.textOnly Departure.lateStores }, { on := 11, ground := Ground.textOnly Departure.lateStores }, { on := 12, ground := Ground.textOnly Departure.lateStoresUnsure }, { on := 13, ground := Ground.textOnly Departure.lateStoresUnsure }, { on := 14, ground := Ground.textOnly Departure.lateStores }, { on := 15, ground := Ground.textOnly Departure.lateStores }], guard := none }) rfl (fun K hK => ?_) AllReadyH.nil
    go_simp
    refine hK.out _ _ (HSP.out _ _ _ _ HS6.out) (fun hSn => ?_)
    clear hK K hSw
    have hSw := hSn
    clear hSn
    try simp only [Act.put, List.setIfInBounds_toArray, List.set_cons_zero, List.set_cons_succ]
    refine H_take (i := 17) (oi := { dst := some 7, op := Op.assign (Operand.tmp 66), type := 4, pos := "bound.go:201", after := #[{ on := 15, ground := Ground.data }, { on := 16, ground := Ground.chain }, { on := 0, ground := Ground.phase }, { on := 1, ground := Ground.phase }, { on := 2, ground := Ground.phase }, { on := 3, ground := Ground.phase }, { on := 4, ground := Ground.phase }, { on := 5, ground := Ground.phase }, { on := 6, ground := Ground.phase }, { on := 7, ground := Ground.phase }, { on := 8, ground := Ground.phase }, { on := 9, ground := Ground.phase }, { on := 10, ground := Ground.phase }, { on := 11, ground := Ground.phase }, { on := 12, ground := Ground.phase }, { on := 13, ground := Ground.phase }, { on := 14, ground := Ground.phase }, { on := 15, ground := Ground.phase }, { on := 16, ground := Ground.phase }], guard := none }) (d := some 7) (v := ?_) rfl rfl (by kernel_rfl) (by kernel_rfl) (by kernel_rfl) (fun _ _ _ h => h) (Or.inl ⟨by rfl, ?_⟩) hSw ?_
    rotate_left
    · intro w hw; (try dsimp only at hw); go_split_ands; go_simp; try (with_reducible rfl)
    try simp only [Act.put, List.setIfInBounds_toArray, List.set_cons_zero, List.set_cons_succ]
    refine wpAnyH_done (by kernel_rfl) ?_ _
    have HFIN : Hid ((pt3 w6 (W.heap.size + 1) (I 0) (I v) (.slice none 0 0)).heap[W.heap.size + 1]? = some (.cells #[I 0, I v, .slice none 0 0] 24 (0, 0))) := Lib.hid (blk_pt3 (blk_below HRB4.out HB6.out))
    have HBF : Hid (Below W.heap.size W (pt3 w6 (W.heap.size + 1) (I 0) (I v) (.slice none 0 0))) := Lib.hid (below_pt3 (HBR.out _ HB6.out).1 (Nat.le_succ _))
    have HFF : Hid (FmS W.heap.size (pt3 w6 (W.heap.size + 1) (I 0) (I v) (.slice none 0 0)).heap.size (pt3 w6 (W.heap.size + 1) (I 0) (I v) (.slice none 0 0)) (.leaf 0 v) [I 0, I v, .slice none 0 0]) := Lib.hid (HFM.out _ HB6.out _ _ _)
    change Exit.then _ _ Exit.normal _ (pt3 w6 (W.heap.size + 1) (I 0) (I v) (.slice none 0 0))
    clear u0 u1 u2 f0 f1 f2 hSw
    generalize pt3 w6 (W.heap.size + 1) (I 0) (I v) (.slice none 0 0) = w10 at *
    go_wp2
    refine bodyPost_ret (results_ct (by rfl) _ _ (W.heap.size + 1) 24 #[I 0, I v, .slice none 0 0] (0, 0) _ (by rfl) HFIN.out Try.underlying24 (by rfl) (by kernel_rfl)) rfl ?_
    exact ⟨_, _, _, _, _, by rw [HRA.out]; rfl, HFF.out, HBF.out⟩
  · have hn : (!ra) = true := by rw [hra]; rfl
    have HRA := Lib.hid hra
    clear hra
    obtain ⟨nb2, hnb2⟩ : ∃ b, b = !rb := ⟨_, rfl⟩
    refine wp_region_held_drew (S := (fun W' => W'.cell? ⟨W3.heap.size, 0, none⟩ = some (I 0) ∧ W'.cell? ⟨W3.heap.size, 1, none⟩ = some (I v) ∧ W'.cell? ⟨W3.heap.size, 2, none⟩ = some (.slice none 0 0))) (by kernel_rfl) (HS0.out.keep (pw_below_drewN (Below.refl _ _) 1)) ?_
    intro hSw
    refine H_take (i := 0) (oi := { dst := some 51, op := Op.load 24 (Operand.tmp 10), type := 24, pos := "bound.go:201", after := #[], guard := none }) (d := some 51) (v := ?_) rfl rfl (by kernel_rfl) (by kernel_rfl) (by kernel_rfl) (fun _ _ _ h => h) (Or.inl ⟨by rfl, ?_⟩) hSw ?_
    rotate_left
    · intro w hw; (try dsimp only at hw); go_split_ands; go_simp; try (with_reducible rfl)
    try simp only [Act.put, List.setIfInBounds_toArray, List.set_cons_zero, List.set_cons_succ]
    refine H_take (i := 1) (oi := { dst := some 52, op := Op.move (Operand.tmp 1), type := 52, pos := "bound.go:201", after := #[], guard := none }) (d := some 52) (v := ?_) rfl rfl (by kernel_rfl) (by kernel_rfl) (by kernel_rfl) (fun _ _ _ h => h) (Or.inl ⟨by rfl, ?_⟩) hSw ?_
    rotate_left
    · intro w hw; (try dsimp only at hw); go_split_ands; go_simp; try (with_reducible rfl)
    try simp only [Act.put, List.setIfInBounds_toArray, List.set_cons_zero, List.set_cons_succ]
    refine H_take (i := 2) (oi := { dst := some 53, op := Op.move (Operand.tmp 9), type := 166, pos := "bound.go:201", after := #[], guard := none }) (d := some 53) (v := ?_) rfl rfl (by kernel_rfl) (by kernel_rfl) (by kernel_rfl) (fun _ _ _ h => h) (Or.inl ⟨by rfl, ?_⟩) hSw ?_
    rotate_left
    · intro w hw; (try dsimp only at hw); go_split_ands; go_simp; try (with_reducible rfl)
    try simp only [Act.put, List.setIfInBounds_toArray, List.set_cons_zero, List.set_cons_succ]
    refine H_take (i := 3) (oi := { dst := some 54, op := Op.move (Operand.tmp 8), type := 4, pos := "bound.go:201", after := #[], guard := none }) (d := some 54) (v := ?_) rfl rfl (by kernel_rfl) (by kernel_rfl) (by kernel_rfl) (fun _ _ _ h => h) (Or.inl ⟨by rfl, ?_⟩) hSw ?_
    rotate_left
    · intro w hw; (try dsimp only at hw); go_split_ands; go_simp; try (with_reducible rfl)
    try simp only [Act.put, List.setIfInBounds_toArray, List.set_cons_zero, List.set_cons_succ]
    refine wpAnyH_ready (rs := [4]) (by kernel_rfl) (by simp) ?_
    refine AllReadyH.cons (o := { dst := some 55, op := Op.call { callee := Callee.value (Operand.tmp 53), args := #[Operand.tmp 54], argTypes := #[4] }, type := 139, pos := "bound.go:201", after := #[{ on := 2, ground := Ground.data }, { on := 3, ground := Ground.data }], guard := none }) rfl (fun K hK => ?_) AllReadyH.nil
    go_simp
    (go_at_call 147; (with_reducible refine (HCL.out _ _).mono ?_); rintro e w5 ⟨rfl, hi, hb⟩; have hb4 : Below W4.heap.size W4 w5 := (by first | exact hb | exact (Below.refl _ _).drew.trans hb); have HI5 : Hid (w5.cell? ⟨W4.heap.size, 0, none⟩ = some (.bool true)) := Lib.hid hi; have HB5 := Lib.hid hb4; have HS5 := Lib.hid (HS0.out.keep hb4); clear hi hb hb4)
    refine hK.out _ _ (HS5.out) (fun hSn => ?_)
    clear hK K hSw
    have hSw := hSn
    clear hSn
    try simp only [Act.put, List.setIfInBounds_toArray, List.set_cons_zero, List.set_cons_succ]
    refine wpAnyH_ready (rs := [5]) (by kernel_rfl) (by simp) ?_
    refine AllReadyH.cons (o := { dst := some 56, op := Op.call { callee := Callee.value (Operand.func 149), args := #[Operand.tmp 52, Operand.tmp 55], argTypes := #[52, 139] }, type := 4, pos := "bound.go:201", after := #[{ on := 1, ground := Ground.data }, { on := 4, ground := Ground.data }, { on := 4, ground := Ground.chain }], guard := none }) rfl (fun K hK => ?_) AllReadyH.nil
    go_simp
    (go_at_call 149; (with_reducible refine (HA.out _ _ _ (HBR.out _ HB5.out).1 (HBR.out _ HB5.out).2 HI5.out).mono ?_); rintro e w6 ⟨rfl, hb⟩; have HB6 := Lib.hid (HB5.out.trans (hb.mono HB5.out.size)); have HS6 := Lib.hid (HS5.out.keep hb); clear hb)
    refine hK.out _ _ (HS6.out) (fun hSn => ?_)
    clear hK K hSw
    have hSw := hSn
    clear hSn
    try simp only [Act.put, List.setIfInBounds_toArray, List.set_cons_zero, List.set_cons_succ]
    refine H_take (i := 6) (oi := { dst := some 57, op := Op.unOp UnOp.not 4 (Operand.tmp 56), type := 4, pos := "bound.go:201", after := #[{ on := 5, ground := Ground.data }], guard := none }) (d := some 57) (v := ?_) rfl rfl (by kernel_rfl) (by kernel_rfl) (by kernel_rfl) (fun _ _ _ h => h) (Or.inl ⟨by rfl, ?_⟩) hSw ?_
    rotate_left
    · intro w hw; (try dsimp only at hw); go_split_ands; go_simp; try (with_reducible rfl)
    try simp only [Act.put, List.setIfInBounds_toArray, List.set_cons_zero, List.set_cons_succ]
    refine H_take (i := 7) (oi := { dst := some 58, op := Op.move (Operand.tmp 57), type := 4, pos := "bound.go:201", after := #[{ on := 6, ground := Ground.data }, { on := 5, ground := Ground.chain }], guard := none }) (d := some 58) (v := ?_) rfl rfl (by kernel_rfl) (by kernel_rfl) (by kernel_rfl) (fun _ _ _ h => h) (Or.inl ⟨by rfl, ?_⟩) hSw ?_
    rotate_left
    · intro w hw; (try dsimp only at hw); go_split_ands; go_simp; try (with_reducible rfl)
    try simp only [Act.put, List.setIfInBounds_toArray, List.set_cons_zero, List.set_cons_succ]
    refine H_take (i := 8) (oi := { dst := some 59, op := Op.move (Operand.tmp 2), type := 52, pos := "bound.go:201", after := #[{ on := 7, ground := Ground.guard }], guard := some (7, true) }) (d := some 59) (v := ?_) rfl rfl (by kernel_rfl) (by kernel_rfl) (by kernel_rfl) (fun _ _ _ h => h) (Or.inl ⟨by rfl, ?_⟩) hSw ?_
    rotate_left
    · intro w hw; (try dsimp only at hw); go_split_ands; go_simp; try (with_reducible rfl)
    try simp only [Act.put, List.setIfInBounds_toArray, List.set_cons_zero, List.set_cons_succ]
    refine H_take (i := 9) (oi := { dst := some 60, op := Op.move (Operand.tmp 9), type := 166, pos := "bound.go:201", after := #[{ on := 7, ground := Ground.guard }], guard := some (7, true) }) (d := some 60) (v := ?_) rfl rfl (by kernel_rfl) (by kernel_rfl) (by kernel_rfl) (fun _ _ _ h => h) (Or.inl ⟨by rfl, ?_⟩) hSw ?_
    rotate_left
    · intro w hw; (try dsimp only at hw); go_split_ands; go_simp; try (with_reducible rfl)
    try simp only [Act.put, List.setIfInBounds_toArray, List.set_cons_zero, List.set_cons_succ]
    refine H_take (i := 10) (oi := { dst := some 61, op := Op.move (Operand.tmp 8), type := 4, pos := "bound.go:201", after := #[{ on := 7, ground := Ground.guard }], guard := some (7, true) }) (d := some 61) (v := ?_) rfl rfl (by kernel_rfl) (by kernel_rfl) (by kernel_rfl) (fun _ _ _ h => h) (Or.inl ⟨by rfl, ?_⟩) hSw ?_
    rotate_left
    · intro w hw; (try dsimp only at hw); go_split_ands; go_simp; try (with_reducible rfl)
    try simp only [Act.put, List.setIfInBounds_toArray, List.set_cons_zero, List.set_cons_succ]
    refine H_take (i := 11) (oi := { dst := some 62, op := Op.unOp UnOp.not 4 (Operand.tmp 61), type := 4, pos := "bound.go:201", after := #[{ on := 10, ground := Ground.data }, { on := 7, ground := Ground.guard }], guard := some (7, true) }) (d := some 62) (v := ?_) rfl rfl (by kernel_rfl) (by kernel_rfl) (by kernel_rfl) (fun _ _ _ h => h) (Or.inl ⟨by rfl, ?_⟩) hSw ?_
    rotate_left
    · intro w hw; (try dsimp only at hw); go_split_ands; go_simp; try (with_reducible rfl)
    try simp only [Act.put, List.setIfInBounds_toArray, List.set_cons_zero, List.set_cons_succ]
    refine wpAnyH_ready (rs := [12]) (by kernel_rfl) (by simp) ?_
    refine AllReadyH.cons (o := { dst := some 63, op := Op.call { callee := Callee.value (Operand.tmp 60), args := #[Operand.tmp 62], argTypes := #[4] }, type := 139, pos := "bound.go:201", after := #[{ on := 9, ground := Ground.data }, { on := 11, ground := Ground.data }, { on := 7, ground := Ground.chain }, { on := 7, ground := Ground.guard }], guard := some (7, true) }) rfl (fun K hK => ?_) AllReadyH.nil
    go_simp
    (go_at_call 147; (with_reducible refine (HCL.out _ _).mono ?_); rintro e w8 ⟨rfl, hi, hb⟩; have HI8 : Hid (w8.cell? ⟨w6.heap.size, 0, none⟩ = some (.bool false)) := Lib.hid hi; have HB8 := Lib.hid (HB6.out.trans (hb.mono HB6.out.size)); have HS8 := Lib.hid (HS6.out.keep hb); clear hi hb)
    refine hK.out _ _ (HS8.out) (fun hSn => ?_)
    clear hK K hSw
    have hSw := hSn
    clear hSn
    try simp only [Act.put, List.setIfInBounds_toArray, List.set_cons_zero, List.set_cons_succ]
    refine wpAnyH_ready (rs := [13]) (by kernel_rfl) (by simp) ?_
    refine AllReadyH.cons (o := { dst := some 64, op := Op.call { callee := Callee.value (Operand.func 149), args := #[Operand.tmp 59, Operand.tmp 63], argTypes := #[52, 139] }, type := 4, pos := "bound.go:201", after := #[{ on := 8, ground := Ground.data }, { on := 12, ground := Ground.data }, { on := 12, ground := Ground.chain }, { on := 7, ground := Ground.guard }], guard := some (7, true) }) rfl (fun K hK => ?_) AllReadyH.nil
    go_simp
    (go_at_call 149; (with_reducible refine (HB.out _ _ _ (HBR.out _ HB8.out).1 (HBR.out _ HB8.out).2 HI8.out).mono ?_); rintro e w9 ⟨rfl, hb⟩; have HB9 := Lib.hid (HB8.out.trans (hb.mono HB8.out.size)); have HS9 := Lib.hid (HS8.out.keep hb); have hrw := blk_below HRB4.out HB9.out; have u0 : w9.cell? ⟨W.heap.size + 1, 0, none⟩ = some (I 0) := (blk_cell hrw 0).trans rfl; have f0 := blk_frozen hrw 0; have u1 : w9.cell? ⟨W.heap.size + 1, 1, none⟩ = some (I 0) := (blk_cell hrw 1).trans rfl; have f1 := blk_frozen hrw 1; have u2 : w9.cell? ⟨W.heap.size + 1, 2, none⟩ = some (.slice none 0 0) := (blk_cell hrw 2).trans rfl; have f2 := blk_frozen hrw 2; clear hrw; clear hb)
    refine hK.out _ _ (HS9.out) (fun hSn => ?_)
    clear hK K hSw
    have hSw := hSn
    clear hSn
    try simp only [Act.put, List.setIfInBounds_toArray, List.set_cons_zero, List.set_cons_succ]
    refine H_take (i := 14) (oi := { dst := some 65, op := Op.unOp UnOp.not 4 (Operand.tmp 64), type := 4, pos := "bound.go:201", after := #[{ on := 13, ground := Ground.data }, { on := 7, ground := Ground.guard }, { on := 16, ground := Ground.gcOnly Departure.lateStores }], guard := some (7, true) }) (d := some 65) (v := ?_) rfl rfl (by kernel_rfl) (by kernel_rfl) (by kernel_rfl) (fun _ _ _ h => h) (Or.inl ⟨by rfl, ?_⟩) hSw ?_
    rotate_left
    · intro w hw; (try dsimp only at hw); go_split_ands; go_simp; try (with_reducible rfl)
    try simp only [Act.put, List.setIfInBounds_toArray, List.set_cons_zero, List.set_cons_succ]
    refine H_take (i := 15) (oi := { dst := some 66, op := Op.pick (Operand.tmp 58) (Operand.tmp 65) (Operand.const (Value.bool false)), type := 4, pos := "bound.go:201", after := #[{ on := 7, ground := Ground.data }, { on := 14, ground := Ground.data }, { on := 16, ground := Ground.gcOnly Departure.lateStores }], guard := none }) (d := some 66) (v := ?_) rfl rfl (by kernel_rfl) (by kernel_rfl) (by kernel_rfl) (fun _ _ _ h => h) (Or.inl ⟨by rfl, ?_⟩) hSw ?_
    rotate_left
    · intro w hw; (try dsimp only at hw); go_split_ands; go_simp; try (with_reducible rfl)
    try simp only [Act.put, List.setIfInBounds_toArray, List.set_cons_zero, List.set_cons_succ]
    refine wpAnyH_ready (rs := [16]) (by kernel_rfl) (by simp) ?_
    refine AllReadyH.cons (o := { dst := none, op := Op.store 24 (Operand.tmp 6) (Operand.tmp 51), type := 0, pos := "bound.go:201", after := #[{ on := 0, ground := Ground.data }, { on := 13, ground := Ground.chain }, { on := 0, ground := Ground.phase }, { on := 1, ground := Ground.textOnly Departure.lateStores }, { on := 2, ground := Ground.textOnly Departure.lateStores }, { on := 3, ground := Ground.textOnly Departure.lateStores }, { on := 4, ground := Ground.textOnly Departure.lateStoresUnsure }, { on := 5, ground := Ground.textOnly Departure.lateStoresUnsure }, { on := 6, ground := Ground.textOnly Departure.lateStores }, { on := 7, ground := Ground.textOnly Departure.lateStores }, { on := 8, ground := Ground.textOnly Departure.lateStores }, { on := 9, ground := Ground.textOnly Departure.lateStores }, { on := 10, ground := Ground.textOnly Departure.lateStores }, { on := 11, ground := Ground.textOnly Departure.lateStores }, { on := 12, ground := Ground.textOnly Departure.lateStoresUnsure }, { on := 13, ground := Ground.textOnly Departure.lateStoresUnsure }, { on := 14, ground := Ground.textOnly Departure.lateStores }, { on := 15, ground := Ground.textOnly Departure.lateStores }], guard := none }) rfl (fun K hK => ?_) AllReadyH.nil
    go_simp
    refine hK.out _ _ (HSP.out _ _ _ _ HS9.out) (fun hSn => ?_)
    clear hK K hSw
    have hSw := hSn
    clear hSn
    try simp only [Act.put, List.setIfInBounds_toArray, List.set_cons_zero, List.set_cons_succ]
    refine H_take (i := 17) (oi := { dst := some 7, op := Op.assign (Operand.tmp 66), type := 4, pos := "bound.go:201", after := #[{ on := 15, ground := Ground.data }, { on := 16, ground := Ground.chain }, { on := 0, ground := Ground.phase }, { on := 1, ground := Ground.phase }, { on := 2, ground := Ground.phase }, { on := 3, ground := Ground.phase }, { on := 4, ground := Ground.phase }, { on := 5, ground := Ground.phase }, { on := 6, ground := Ground.phase }, { on := 7, ground := Ground.phase }, { on := 8, ground := Ground.phase }, { on := 9, ground := Ground.phase }, { on := 10, ground := Ground.phase }, { on := 11, ground := Ground.phase }, { on := 12, ground := Ground.phase }, { on := 13, ground := Ground.phase }, { on := 14, ground := Ground.phase }, { on := 15, ground := Ground.phase }, { on := 16, ground := Ground.phase }], guard := none }) (d := some 7) (v := ?_) rfl rfl (by kernel_rfl) (by kernel_rfl) (by kernel_rfl) (fun _ _ _ h => h) (Or.inl ⟨by rfl, ?_⟩) hSw ?_
    rotate_left
    · intro w hw; (try dsimp only at hw); go_split_ands; go_simp; try (with_reducible rfl)
    try simp only [Act.put, List.setIfInBounds_toArray, List.set_cons_zero, List.set_cons_succ]
    refine wpAnyH_done (by kernel_rfl) ?_ _
    have HFIN : Hid ((pt3 w9 (W.heap.size + 1) (I 0) (I v) (.slice none 0 0)).heap[W.heap.size + 1]? = some (.cells #[I 0, I v, .slice none 0 0] 24 (0, 0))) := Lib.hid (blk_pt3 (blk_below HRB4.out HB9.out))
    have HBF : Hid (Below W.heap.size W (pt3 w9 (W.heap.size + 1) (I 0) (I v) (.slice none 0 0))) := Lib.hid (below_pt3 (HBR.out _ HB9.out).1 (Nat.le_succ _))
    have HFF : Hid (FmS W.heap.size (pt3 w9 (W.heap.size + 1) (I 0) (I v) (.slice none 0 0)).heap.size (pt3 w9 (W.heap.size + 1) (I 0) (I v) (.slice none 0 0)) (.leaf 0 v) [I 0, I v, .slice none 0 0]) := Lib.hid (HFM.out _ HB9.out _ _ _)
    change Exit.then _ _ Exit.normal _ (pt3 w9 (W.heap.size + 1) (I 0) (I v) (.slice none 0 0))
    clear u0 u1 u2 f0 f1 f2 hSw
    generalize pt3 w9 (W.heap.size + 1) (I 0) (I v) (.slice none 0 0) = w10 at *
    go_wp2
    refine bodyPost_ret (results_ct (by rfl) _ _ (W.heap.size + 1) 24 #[I 0, I v, .slice none 0 0] (0, 0) _ (by rfl) HFIN.out Try.underlying24 (by rfl) (by kernel_rfl)) rfl ?_
    exact ⟨_, _, _, _, _, by rw [HRA.out]; rfl, HFF.out, HBF.out⟩
set_option maxHeartbeats 8000000 in
set_option maxRecDepth 100000 in
theorem made_leaf_false {W : World} {v x na nb la lk c3 c4 ca cb : Nat} {pl : Int} {ra rb : Bool} {A3 A4 : Option Addr} {ad bd : Addr} (ha : na ≠ 0) (hb : nb ≠ 0) (hv : (v : Int) < 12) (hx : x < 8192) (hbit : x.testBit v = false) (hc : W.cell? ad = some (I x))
    (HA : ∀ (w' : World) (bp bi : Nat), Below W.heap.size W w' → w'.cell? ⟨bp, 1, none⟩ = some (I v) → w'.cell? ⟨bi, 0, none⟩ = some (.bool false) → Calls Try.prog 149 #[.slice (some ad) na ca, .func (.func 148) #[] #[.pointer (some ⟨bp, 0, none⟩), .pointer (some ⟨bi, 0, none⟩)]] w' fun e w'' => e = .returned (.bool ra) ∧ Below w'.heap.size w' w'')
    (HB : ∀ (w' : World) (bp bi : Nat), Below W.heap.size W w' → w'.cell? ⟨bp, 1, none⟩ = some (I v) → w'.cell? ⟨bi, 0, none⟩ = some (.bool true) → Calls Try.prog 149 #[.slice (some bd) nb cb, .func (.func 148) #[] #[.pointer (some ⟨bp, 0, none⟩), .pointer (some ⟨bi, 0, none⟩)]] w' fun e w'' => e = .returned (.bool rb) ∧ Below w'.heap.size w' w'') :
    Calls Try.prog 135 #[.agg #[.bool true, I v, I pl, .slice A3 la c3, .slice A4 lk c4], .slice (some ad) na ca, .slice (some bd) nb cb] W (MR W (.not (.leaf 0 v), !ra && !rb)) := by
  unfold MR
  replace HA := Lib.hid HA
  replace HB := Lib.hid HB
  have h1 : ((na : Int) == 0) = false := by rw [beq_eq_false_iff_ne]; omega
  have h2 : (na == 0) = false := by rw [beq_eq_false_iff_ne]; exact ha
  have h3 : ((nb : Int) == 0) = false := by rw [beq_eq_false_iff_ne]; omega
  have h4 : (nb == 0) = false := by rw [beq_eq_false_iff_ne]; exact hb
  have hna : decide ((0 : Int) < na) = true := decide_eq_true (by omega)
  have hna' : (0 : Int) < na := by omega
  have hna2 : 0 < na := by omega
  have hv0 : (0 : Int) ≤ v := Int.natCast_nonneg v
  have hsa := shr_and (y := x) (i := v) hx
  have hbe := bit_eq (x.testBit v)
  rw [hbit] at hsa hbe
  generalize (((if false = true then 1 else 0 : Nat)) : Int) = T at hsa hbe
  clear ha hb hx hbit
  obtain ⟨W1, hW1⟩ : ∃ W1, W1 = W.alloc (.cells #[.bool true, I v, I pl, .slice A3 la c3, .slice A4 lk c4] 32) := ⟨_, rfl⟩
  obtain ⟨W2, hW2⟩ : ∃ W2, W2 = W1.alloc (.cells #[I 0, I 0, .slice none 0 0] 24) := ⟨_, rfl⟩
  have hs1 : W1.heap.size = W.heap.size + 1 := by rw [hW1]; exact World.size_alloc _ _
  have BK1 : W1.heap[W.heap.size]? = some (.cells #[.bool true, I v, I pl, .slice A3 la c3, .slice A4 lk c4] 32 (0, 0)) := by rw [hW1]; exact blk_new _ _
  have HBK : Hid (W2.heap[W.heap.size]? = some (.cells #[.bool true, I v, I pl, .slice A3 la c3, .slice A4 lk c4] 32 (0, 0))) := Lib.hid (by rw [hW2]; exact blk_alloc BK1 _)
  have HRB : Hid (W2.heap[W.heap.size + 1]? = some (.cells #[I 0, I 0, .slice none 0 0] 24 (0, 0))) := Lib.hid (by rw [hW2, ← hs1]; exact blk_new _ _)
  have HB1 : Hid (Below W.heap.size W W1) := Lib.hid (by rw [hW1]; exact below_alloc (Below.refl _ _) _)
  have HB2 : Hid (Below W.heap.size W W2) := Lib.hid (by rw [hW2]; exact below_alloc HB1.out _)
  clear BK1
  have k0 : W2.cell? ⟨W.heap.size, 0, none⟩ = some (.bool true) := (blk_cell HBK.out 0).trans rfl
  have k1 : W2.cell? ⟨W.heap.size, 1, none⟩ = some (I v) := (blk_cell HBK.out 1).trans rfl
  have hc2 : W2.cell? ad = some (I x) := cell_keep' HB2.out hc
  clear hc
  go_enter Try.func135, Try.ntmps135
  go_upto_region 1 with fail
  rw [← hW1, ← hW2]
  clear hW1 hW2 hs1
  go_upto_region 6 with fail
  go_quiet (fail)
  go_upto_region 7 with fail
  have HBK3 : Hid ((W2.drewN nq).heap[W.heap.size]? = some (.cells #[.bool true, I v, I pl, .slice A3 la c3, .slice A4 lk c4] 32 (0, 0))) := Lib.hid HBK.out
  have HRB3 : Hid ((W2.drewN nq).heap[W.heap.size + 1]? = some (.cells #[I 0, I 0, .slice none 0 0] 24 (0, 0))) := Lib.hid HRB.out
  have HB3 : Hid (Below W.heap.size W (W2.drewN nq)) := Lib.hid (pw_below_drewN HB2.out _)
  clear HBK HRB HB2 k0 k1 hc2 HB1
  generalize W2.drewN nq = W3 at *
  have k1 : W3.cell? ⟨W.heap.size, 1, none⟩ = some (I v) := (blk_cell HBK3.out 1).trans rfl
  obtain ⟨Wx, hWx⟩ : ∃ Wx, Wx = W3.alloc (.cells #[I 0, I v, .slice none 0 0] 24) := ⟨_, rfl⟩
  have HFX : Hid (Wx.heap[W3.heap.size]? = some (.cells #[I 0, I v, .slice none 0 0] 24 (0, 0))) := Lib.hid (by rw [hWx]; exact blk_new _ _)
  have HB3x : Hid (Below W3.heap.size W3 Wx) := Lib.hid (by rw [hWx]; exact below_alloc (Below.refl _ _) _)
  have hsx : Wx.heap.size = W3.heap.size + 1 := by rw [hWx]; exact World.size_alloc _ _
  have g0 : Wx.cell? ⟨W3.heap.size, 0, none⟩ = some (I 0) := (blk_cell HFX.out 0).trans rfl
  have g1 : Wx.cell? ⟨W3.heap.size, 1, none⟩ = some (I v) := (blk_cell HFX.out 1).trans rfl
  have g2 : Wx.cell? ⟨W3.heap.size, 2, none⟩ = some (.slice none 0 0) := (blk_cell HFX.out 2).trans rfl
  have e0 := blk_frozen HFX.out 0
  have e1 := blk_frozen HFX.out 1
  have e2 := blk_frozen HFX.out 2
  go_upto_region 9 with fail
  rw [← hWx]
  clear hWx k1
  have hne0 : W3.heap.size ≠ W.heap.size + 1 := Nat.ne_of_gt (blk_lt HRB3.out)
  have hne1 : W3.heap.size ≠ W.heap.size := Nat.ne_of_gt (blk_lt HBK3.out)
  obtain ⟨Wy, hWy⟩ : ∃ Wy, Wy = ((Wx.setCell ⟨W3.heap.size, 0, none⟩ (I 2)).setCell ⟨W3.heap.size, 1, none⟩ (I 0)).setCell ⟨W3.heap.size, 2, none⟩ (.slice (some ⟨W3.heap.size + 1, 0, none⟩) 1 1) := ⟨_, rfl⟩
  have hsy : Wy.heap.size = W3.heap.size + 1 := by rw [hWy, World.size_setCell, World.size_setCell, World.size_setCell]; exact hsx
  have HFY : Hid (Wy.heap[W3.heap.size]? = some (.cells #[I 2, I 0, .slice (some ⟨W3.heap.size + 1, 0, none⟩) 1 1] 24 (0, 0))) := Lib.hid (by rw [hWy]; exact blk_pt3 HFX.out)
  have HB3y : Hid (Below W3.heap.size W3 Wy) := Lib.hid (by rw [hWy]; exact below_pt3 HB3x.out (Nat.le_refl _))
  obtain ⟨W4, hW4⟩ : ∃ W4, W4 = Wy.alloc (.cells #[I 0, I v, .slice none 0 0] 24) := ⟨_, rfl⟩
  have HFB : Hid (W4.heap[W3.heap.size]? = some (.cells #[I 2, I 0, .slice (some ⟨W3.heap.size + 1, 0, none⟩) 1 1] 24 (0, 0))) := Lib.hid (by rw [hW4]; exact blk_alloc HFY.out _)
  have HKB : Hid (W4.heap[W3.heap.size + 1]? = some (.cells #[I 0, I v, .slice none 0 0] 24 (0, 0))) := Lib.hid (by rw [hW4, ← hsy]; exact blk_new _ _)
  have HB34 : Hid (Below W3.heap.size W3 W4) := Lib.hid (by rw [hW4]; exact below_alloc HB3y.out _)
  have HRB4 : Hid (W4.heap[W.heap.size + 1]? = some (.cells #[I 0, I 0, .slice none 0 0] 24 (0, 0))) := Lib.hid (blk_below HRB3.out HB34.out)
  have HBK4 : Hid (W4.heap[W.heap.size]? = some (.cells #[.bool true, I v, I pl, .slice A3 la c3, .slice A4 lk c4] 32 (0, 0))) := Lib.hid (blk_below HBK3.out HB34.out)
  have HB4 : Hid (Below W.heap.size W W4) := Lib.hid (HB3.out.trans (HB34.out.mono HB3.out.size))
  have hlo : W.heap.size ≤ W3.heap.size + 1 := Nat.le_succ_of_le HB3.out.size
  have hne2 : W3.heap.size + 1 ≠ W.heap.size + 1 := fun h => hne1 (Nat.succ.inj h)
  have HFM : Hid (∀ w', Below W4.heap.size W4 w' → ∀ x y z : Value, FmS W.heap.size (pt3 w' (W.heap.size + 1) x y z).heap.size (pt3 w' (W.heap.size + 1) x y z) (.not (.leaf 0 v)) [I 2, I 0, .slice (some ⟨W3.heap.size + 1, 0, none⟩) 1 1]) := Lib.hid (fun w' hb x y z w'' hw => ⟨⟨W3.heap.size + 1, 0, none⟩, 1, [I 0, I v, .slice none 0 0], rfl, Nat.le_refl _, rfl, fun i u hu => by
    have hk0 := blk_farp3 (a := x) (b := y) (c := z) (blk_below HKB.out hb) hne2
    have hk := (hw _ hlo (blk_lt hk0)).trans hk0
    rw [add_plain, blk_cell hk i]
    simpa using hu, ⟨none, 0, rfl⟩⟩)
  clear hne0 hne1 hne2 hsy
  go_upto_region 11 with fail
  rw [← hWy, ← hW4]
  clear hWy hW4 hsx g0 g1 g2 e0 e1 e2
  have hS0 : F3 W3.heap.size (I 2) (I 0) (.slice (some ⟨W3.heap.size + 1, 0, none⟩) 1 1) W4 := ⟨(blk_cell HFB.out 0).trans rfl, (blk_cell HFB.out 1).trans rfl, (blk_cell HFB.out 2).trans rfl⟩
  have HS0 := Lib.hid hS0
  have hne : W3.heap.size ≠ W.heap.size + 1 := Nat.ne_of_gt (blk_lt HRB3.out)
  have HSP : Hid (∀ (W' : World) (v0 v1 v2 : Value), F3 W3.heap.size (I 2) (I 0) (.slice (some ⟨W3.heap.size + 1, 0, none⟩) 1 1) W' → F3 W3.heap.size (I 2) (I 0) (.slice (some ⟨W3.heap.size + 1, 0, none⟩) 1 1) (pt3 W' (W.heap.size + 1) v0 v1 v2)) := Lib.hid (fun W' v0 v1 v2 h => h.put hne v0 v1 v2)
  have HCL := Lib.hid (fun (w : World) (is : Bool) => cl147 (w := w) (bp := W.heap.size) (is := is))
  have HBX : Hid (Below W4.heap.size W4 W4) := Lib.hid (Below.refl _ _)
  have HBR : Hid (∀ W', Below W4.heap.size W4 W' → Below W.heap.size W W' ∧ W'.cell? ⟨W.heap.size, 1, none⟩ = some (I v)) := Lib.hid (fun W' h => ⟨HB4.out.trans (h.mono HB4.out.size), cell_keep' h ((blk_cell HBK4.out 1).trans rfl)⟩)
  clear hne hS0
  rcases (show ra = true ∨ ra = false by cases ra <;> simp) with hra | hra
  · have hn : (!ra) = false := by rw [hra]; rfl
    have HRA := Lib.hid hra
    clear hra
    refine wp_region_held_drew (S := (fun W' => W'.cell? ⟨W3.heap.size, 0, none⟩ = some (I 2) ∧ W'.cell? ⟨W3.heap.size, 1, none⟩ = some (I 0) ∧ W'.cell? ⟨W3.heap.size, 2, none⟩ = some (.slice (some ⟨W3.heap.size + 1, 0, none⟩) 1 1))) (by kernel_rfl) (HS0.out.keep (pw_below_drewN (Below.refl _ _) 1)) ?_
    intro hSw
    refine H_take (i := 0) (oi := { dst := some 51, op := Op.load 24 (Operand.tmp 10), type := 24, pos := "bound.go:201", after := #[], guard := none }) (d := some 51) (v := ?_) rfl rfl (by kernel_rfl) (by kernel_rfl) (by kernel_rfl) (fun _ _ _ h => h) (Or.inl ⟨by rfl, ?_⟩) hSw ?_
    rotate_left
    · intro w hw; (try dsimp only at hw); go_split_ands; go_simp; try (with_reducible rfl)
    try simp only [Act.put, List.setIfInBounds_toArray, List.set_cons_zero, List.set_cons_succ]
    refine H_take (i := 1) (oi := { dst := some 52, op := Op.move (Operand.tmp 1), type := 52, pos := "bound.go:201", after := #[], guard := none }) (d := some 52) (v := ?_) rfl rfl (by kernel_rfl) (by kernel_rfl) (by kernel_rfl) (fun _ _ _ h => h) (Or.inl ⟨by rfl, ?_⟩) hSw ?_
    rotate_left
    · intro w hw; (try dsimp only at hw); go_split_ands; go_simp; try (with_reducible rfl)
    try simp only [Act.put, List.setIfInBounds_toArray, List.set_cons_zero, List.set_cons_succ]
    refine H_take (i := 2) (oi := { dst := some 53, op := Op.move (Operand.tmp 9), type := 166, pos := "bound.go:201", after := #[], guard := none }) (d := some 53) (v := ?_) rfl rfl (by kernel_rfl) (by kernel_rfl) (by kernel_rfl) (fun _ _ _ h => h) (Or.inl ⟨by rfl, ?_⟩) hSw ?_
    rotate_left
    · intro w hw; (try dsimp only at hw); go_split_ands; go_simp; try (with_reducible rfl)
    try simp only [Act.put, List.setIfInBounds_toArray, List.set_cons_zero, List.set_cons_succ]
    refine H_take (i := 3) (oi := { dst := some 54, op := Op.move (Operand.tmp 8), type := 4, pos := "bound.go:201", after := #[], guard := none }) (d := some 54) (v := ?_) rfl rfl (by kernel_rfl) (by kernel_rfl) (by kernel_rfl) (fun _ _ _ h => h) (Or.inl ⟨by rfl, ?_⟩) hSw ?_
    rotate_left
    · intro w hw; (try dsimp only at hw); go_split_ands; go_simp; try (with_reducible rfl)
    try simp only [Act.put, List.setIfInBounds_toArray, List.set_cons_zero, List.set_cons_succ]
    refine wpAnyH_ready (rs := [4]) (by kernel_rfl) (by simp) ?_
    refine AllReadyH.cons (o := { dst := some 55, op := Op.call { callee := Callee.value (Operand.tmp 53), args := #[Operand.tmp 54], argTypes := #[4] }, type := 139, pos := "bound.go:201", after := #[{ on := 2, ground := Ground.data }, { on := 3, ground := Ground.data }], guard := none }) rfl (fun K hK => ?_) AllReadyH.nil
    go_simp
    (go_at_call 147; (with_reducible refine (HCL.out _ _).mono ?_); rintro e w5 ⟨rfl, hi, hb⟩; have hb4 : Below W4.heap.size W4 w5 := (by first | exact hb | exact (Below.refl _ _).drew.trans hb); have HI5 : Hid (w5.cell? ⟨W4.heap.size, 0, none⟩ = some (.bool false)) := Lib.hid hi; have HB5 := Lib.hid hb4; have HS5 := Lib.hid (HS0.out.keep hb4); clear hi hb hb4)
    refine hK.out _ _ (HS5.out) (fun hSn => ?_)
    clear hK K hSw
    have hSw := hSn
    clear hSn
    try simp only [Act.put, List.setIfInBounds_toArray, List.set_cons_zero, List.set_cons_succ]
    refine wpAnyH_ready (rs := [5]) (by kernel_rfl) (by simp) ?_
    refine AllReadyH.cons (o := { dst := some 56, op := Op.call { callee := Callee.value (Operand.func 149), args := #[Operand.tmp 52, Operand.tmp 55], argTypes := #[52, 139] }, type := 4, pos := "bound.go:201", after := #[{ on := 1, ground := Ground.data }, { on := 4, ground := Ground.data }, { on := 4, ground := Ground.chain }], guard := none }) rfl (fun K hK => ?_) AllReadyH.nil
    go_simp
    (go_at_call 149; (with_reducible refine (HA.out _ _ _ (HBR.out _ HB5.out).1 (HBR.out _ HB5.out).2 HI5.out).mono ?_); rintro e w6 ⟨rfl, hb⟩; have HB6 := Lib.hid (HB5.out.trans (hb.mono HB5.out.size)); have HS6 := Lib.hid (HS5.out.keep hb); have hrw := blk_below HRB4.out HB6.out; have u0 : w6.cell? ⟨W.heap.size + 1, 0, none⟩ = some (I 0) := (blk_cell hrw 0).trans rfl; have f0 := blk_frozen hrw 0; have u1 : w6.cell? ⟨W.heap.size + 1, 1, none⟩ = some (I 0) := (blk_cell hrw 1).trans rfl; have f1 := blk_frozen hrw 1; have u2 : w6.cell? ⟨W.heap.size + 1, 2, none⟩ = some (.slice none 0 0) := (blk_cell hrw 2).trans rfl; have f2 := blk_frozen hrw 2; clear hrw; clear hb)
    refine hK.out _ _ (HS6.out) (fun hSn => ?_)
    clear hK K hSw
    have hSw := hSn
    clear hSn
    try simp only [Act.put, List.setIfInBounds_toArray, List.set_cons_zero, List.set_cons_succ]
    refine H_take (i := 6) (oi := { dst := some 57, op := Op.unOp UnOp.not 4 (Operand.tmp 56), type := 4, pos := "bound.go:201", after := #[{ on := 5, ground := Ground.data }], guard := none }) (d := some 57) (v := ?_) rfl rfl (by kernel_rfl) (by kernel_rfl) (by kernel_rfl) (fun _ _ _ h => h) (Or.inl ⟨by rfl, ?_⟩) hSw ?_
    rotate_left
    · intro w hw; (try dsimp only at hw); go_split_ands; go_simp; try (with_reducible rfl)
    try simp only [Act.put, List.setIfInBounds_toArray, List.set_cons_zero, List.set_cons_succ]
    refine H_take (i := 7) (oi := { dst := some 58, op := Op.move (Operand.tmp 57), type := 4, pos := "bound.go:201", after := #[{ on := 6, ground := Ground.data }, { on := 5, ground := Ground.chain }], guard := none }) (d := some 58) (v := ?_) rfl rfl (by kernel_rfl) (by kernel_rfl) (by kernel_rfl) (fun _ _ _ h => h) (Or.inl ⟨by rfl, ?_⟩) hSw ?_
    rotate_left
    · intro w hw; (try dsimp only at hw); go_split_ands; go_simp; try (with_reducible rfl)
    try simp only [Act.put, List.setIfInBounds_toArray, List.set_cons_zero, List.set_cons_succ]
    refine H_take (i := 8) (oi := { dst := some 59, op := Op.move (Operand.tmp 2), type := 52, pos := "bound.go:201", after := #[{ on := 7, ground := Ground.guard }], guard := some (7, true) }) (d := some 59) (v := undef) rfl rfl (by kernel_rfl) (by kernel_rfl) (by kernel_rfl) (fun _ _ _ h => h) (Or.inr ⟨by rfl, rfl⟩) hSw ?_
    try simp only [Act.put, List.setIfInBounds_toArray, List.set_cons_zero, List.set_cons_succ]
    refine H_take (i := 9) (oi := { dst := some 60, op := Op.move (Operand.tmp 9), type := 166, pos := "bound.go:201", after := #[{ on := 7, ground := Ground.guard }], guard := some (7, true) }) (d := some 60) (v := undef) rfl rfl (by kernel_rfl) (by kernel_rfl) (by kernel_rfl) (fun _ _ _ h => h) (Or.inr ⟨by rfl, rfl⟩) hSw ?_
    try simp only [Act.put, List.setIfInBounds_toArray, List.set_cons_zero, List.set_cons_succ]
    refine H_take (i := 10) (oi := { dst := some 61, op := Op.move (Operand.tmp 8), type := 4, pos := "bound.go:201", after := #[{ on := 7, ground := Ground.guard }], guard := some (7, true) }) (d := some 61) (v := undef) rfl rfl (by kernel_rfl) (by kernel_rfl) (by kernel_rfl) (fun _ _ _ h => h) (Or.inr ⟨by rfl, rfl⟩) hSw ?_
    try simp only [Act.put, List.setIfInBounds_toArray, List.set_cons_zero, List.set_cons_succ]
    refine H_take (i := 11) (oi := { dst := some 62, op := Op.unOp UnOp.not 4 (Operand.tmp 61), type := 4, pos := "bound.go:201", after := #[{ on := 10, ground := Ground.data }, { on := 7, ground := Ground.guard }], guard := some (7, true) }) (d := some 62) (v := undef) rfl rfl (by kernel_rfl) (by kernel_rfl) (by kernel_rfl) (fun _ _ _ h => h) (Or.inr ⟨by rfl, rfl⟩) hSw ?_
    try simp only [Act.put, List.setIfInBounds_toArray, List.set_cons_zero, List.set_cons_succ]
    refine H_take (i := 12) (oi := { dst := some 63, op := Op.call { callee := Callee.value (Operand.tmp 60), args := #[Operand.tmp 62], argTypes := #[4] }, type := 139, pos := "bound.go:201", after := #[{ on := 9, ground := Ground.data }, { on := 11, ground := Ground.data }, { on := 7, ground := Ground.chain }, { on := 7, ground := Ground.guard }], guard := some (7, true) }) (d := some 63) (v := undef) rfl rfl (by kernel_rfl) (by kernel_rfl) (by kernel_rfl) (fun _ _ _ h => h) (Or.inr ⟨by rfl, rfl⟩) hSw ?_
    try simp only [Act.put, List.setIfInBounds_toArray, List.set_cons_zero, List.set_cons_succ]
    refine H_take (i := 13) (oi := { dst := some 64, op := Op.call { callee := Callee.value (Operand.func 149), args := #[Operand.tmp 59, Operand.tmp 63], argTypes := #[52, 139] }, type := 4, pos := "bound.go:201", after := #[{ on := 8, ground := Ground.data }, { on := 12, ground := Ground.data }, { on := 12, ground := Ground.chain }, { on := 7, ground := Ground.guard }], guard := some (7, true) }) (d := some 64) (v := undef) rfl rfl (by kernel_rfl) (by kernel_rfl) (by kernel_rfl) (fun _ _ _ h => h) (Or.inr ⟨by rfl, rfl⟩) hSw ?_
    try simp only [Act.put, List.setIfInBounds_toArray, List.set_cons_zero, List.set_cons_succ]
    refine H_take (i := 14) (oi := { dst := some 65, op := Op.unOp UnOp.not 4 (Operand.tmp 64), type := 4, pos := "bound.go:201", after := #[{ on := 13, ground := Ground.data }, { on := 7, ground := Ground.guard }, { on := 16, ground := Ground.gcOnly Departure.lateStores }], guard := some (7, true) }) (d := some 65) (v := undef) rfl rfl (by kernel_rfl) (by kernel_rfl) (by kernel_rfl) (fun _ _ _ h => h) (Or.inr ⟨by rfl, rfl⟩) hSw ?_
    try simp only [Act.put, List.setIfInBounds_toArray, List.set_cons_zero, List.set_cons_succ]
    refine H_take (i := 15) (oi := { dst := some 66, op := Op.pick (Operand.tmp 58) (Operand.tmp 65) (Operand.const (Value.bool false)), type := 4, pos := "bound.go:201", after := #[{ on := 7, ground := Ground.data }, { on := 14, ground := Ground.data }, { on := 16, ground := Ground.gcOnly Departure.lateStores }], guard := none }) (d := some 66) (v := ?_) rfl rfl (by kernel_rfl) (by kernel_rfl) (by kernel_rfl) (fun _ _ _ h => h) (Or.inl ⟨by rfl, ?_⟩) hSw ?_
    rotate_left
    · intro w hw; (try dsimp only at hw); go_split_ands; go_simp; try (with_reducible rfl)
    try simp only [Act.put, List.setIfInBounds_toArray, List.set_cons_zero, List.set_cons_succ]
    refine wpAnyH_ready (rs := [16]) (by kernel_rfl) (by simp) ?_
    refine AllReadyH.cons (o := { dst := none, op := Op.store 24 (Operand.tmp 6) (Operand.tmp 51), type := 0, pos := "bound.go:201", after := #[{ on := 0, ground := Ground.data }, { on := 13, ground := Ground.chain }, { on := 0, ground := Ground.phase }, { on := 1, ground := Ground.textOnly Departure.lateStores }, { on := 2, ground := Ground.textOnly Departure.lateStores }, { on := 3, ground := Ground.textOnly Departure.lateStores }, { on := 4, ground := Ground.textOnly Departure.lateStoresUnsure }, { on := 5, ground := Ground.textOnly Departure.lateStoresUnsure }, { on := 6, ground := Ground.textOnly Departure.lateStores }, { on := 7, ground := Ground.textOnly Departure.lateStores }, { on := 8, ground := Ground.textOnly Departure.lateStores }, { on := 9, ground := Ground.textOnly Departure.lateStores }, { on := 10, ground := Ground.textOnly Departure.lateStores }, { on := 11, ground := Ground.textOnly Departure.lateStores }, { on := 12, ground := Ground.textOnly Departure.lateStoresUnsure }, { on := 13, ground := Ground.textOnly Departure.lateStoresUnsure }, { on := 14, ground := Ground.textOnly Departure.lateStores }, { on := 15, ground := Ground.textOnly Departure.lateStores }], guard := none }) rfl (fun K hK => ?_) AllReadyH.nil
    go_simp
    refine hK.out _ _ (HSP.out _ _ _ _ HS6.out) (fun hSn => ?_)
    clear hK K hSw
    have hSw := hSn
    clear hSn
    try simp only [Act.put, List.setIfInBounds_toArray, List.set_cons_zero, List.set_cons_succ]
    refine H_take (i := 17) (oi := { dst := some 7, op := Op.assign (Operand.tmp 66), type := 4, pos := "bound.go:201", after := #[{ on := 15, ground := Ground.data }, { on := 16, ground := Ground.chain }, { on := 0, ground := Ground.phase }, { on := 1, ground := Ground.phase }, { on := 2, ground := Ground.phase }, { on := 3, ground := Ground.phase }, { on := 4, ground := Ground.phase }, { on := 5, ground := Ground.phase }, { on := 6, ground := Ground.phase }, { on := 7, ground := Ground.phase }, { on := 8, ground := Ground.phase }, { on := 9, ground := Ground.phase }, { on := 10, ground := Ground.phase }, { on := 11, ground := Ground.phase }, { on := 12, ground := Ground.phase }, { on := 13, ground := Ground.phase }, { on := 14, ground := Ground.phase }, { on := 15, ground := Ground.phase }, { on := 16, ground := Ground.phase }], guard := none }) (d := some 7) (v := ?_) rfl rfl (by kernel_rfl) (by kernel_rfl) (by kernel_rfl) (fun _ _ _ h => h) (Or.inl ⟨by rfl, ?_⟩) hSw ?_
    rotate_left
    · intro w hw; (try dsimp only at hw); go_split_ands; go_simp; try (with_reducible rfl)
    try simp only [Act.put, List.setIfInBounds_toArray, List.set_cons_zero, List.set_cons_succ]
    refine wpAnyH_done (by kernel_rfl) ?_ _
    have HFIN : Hid ((pt3 w6 (W.heap.size + 1) (I 2) (I 0) (.slice (some ⟨W3.heap.size + 1, 0, none⟩) 1 1)).heap[W.heap.size + 1]? = some (.cells #[I 2, I 0, .slice (some ⟨W3.heap.size + 1, 0, none⟩) 1 1] 24 (0, 0))) := Lib.hid (blk_pt3 (blk_below HRB4.out HB6.out))
    have HBF : Hid (Below W.heap.size W (pt3 w6 (W.heap.size + 1) (I 2) (I 0) (.slice (some ⟨W3.heap.size + 1, 0, none⟩) 1 1))) := Lib.hid (below_pt3 (HBR.out _ HB6.out).1 (Nat.le_succ _))
    have HFF : Hid (FmS W.heap.size (pt3 w6 (W.heap.size + 1) (I 2) (I 0) (.slice (some ⟨W3.heap.size + 1, 0, none⟩) 1 1)).heap.size (pt3 w6 (W.heap.size + 1) (I 2) (I 0) (.slice (some ⟨W3.heap.size + 1, 0, none⟩) 1 1)) (.not (.leaf 0 v)) [I 2, I 0, .slice (some ⟨W3.heap.size + 1, 0, none⟩) 1 1]) := Lib.hid (HFM.out _ HB6.out _ _ _)
    change Exit.then _ _ Exit.normal _ (pt3 w6 (W.heap.size + 1) (I 2) (I 0) (.slice (some ⟨W3.heap.size + 1, 0, none⟩) 1 1))
    clear u0 u1 u2 f0 f1 f2 hSw
    generalize pt3 w6 (W.heap.size + 1) (I 2) (I 0) (.slice (some ⟨W3.heap.size + 1, 0, none⟩) 1 1) = w10 at *
    go_wp2
    refine bodyPost_ret (results_ct (by rfl) _ _ (W.heap.size + 1) 24 #[I 2, I 0, .slice (some ⟨W3.heap.size + 1, 0, none⟩) 1 1] (0, 0) _ (by rfl) HFIN.out Try.underlying24 (by rfl) (by kernel_rfl)) rfl ?_
    exact ⟨_, _, _, _, _, by rw [HRA.out]; rfl, HFF.out, HBF.out⟩
  · have hn : (!ra) = true := by rw [hra]; rfl
    have HRA := Lib.hid hra
    clear hra
    obtain ⟨nb2, hnb2⟩ : ∃ b, b = !rb := ⟨_, rfl⟩
    refine wp_region_held_drew (S := (fun W' => W'.cell? ⟨W3.heap.size, 0, none⟩ = some (I 2) ∧ W'.cell? ⟨W3.heap.size, 1, none⟩ = some (I 0) ∧ W'.cell? ⟨W3.heap.size, 2, none⟩ = some (.slice (some ⟨W3.heap.size + 1, 0, none⟩) 1 1))) (by kernel_rfl) (HS0.out.keep (pw_below_drewN (Below.refl _ _) 1)) ?_
    intro hSw
    refine H_take (i := 0) (oi := { dst := some 51, op := Op.load 24 (Operand.tmp 10), type := 24, pos := "bound.go:201", after := #[], guard := none }) (d := some 51) (v := ?_) rfl rfl (by kernel_rfl) (by kernel_rfl) (by kernel_rfl) (fun _ _ _ h => h) (Or.inl ⟨by rfl, ?_⟩) hSw ?_
    rotate_left
    · intro w hw; (try dsimp only at hw); go_split_ands; go_simp; try (with_reducible rfl)
    try simp only [Act.put, List.setIfInBounds_toArray, List.set_cons_zero, List.set_cons_succ]
    refine H_take (i := 1) (oi := { dst := some 52, op := Op.move (Operand.tmp 1), type := 52, pos := "bound.go:201", after := #[], guard := none }) (d := some 52) (v := ?_) rfl rfl (by kernel_rfl) (by kernel_rfl) (by kernel_rfl) (fun _ _ _ h => h) (Or.inl ⟨by rfl, ?_⟩) hSw ?_
    rotate_left
    · intro w hw; (try dsimp only at hw); go_split_ands; go_simp; try (with_reducible rfl)
    try simp only [Act.put, List.setIfInBounds_toArray, List.set_cons_zero, List.set_cons_succ]
    refine H_take (i := 2) (oi := { dst := some 53, op := Op.move (Operand.tmp 9), type := 166, pos := "bound.go:201", after := #[], guard := none }) (d := some 53) (v := ?_) rfl rfl (by kernel_rfl) (by kernel_rfl) (by kernel_rfl) (fun _ _ _ h => h) (Or.inl ⟨by rfl, ?_⟩) hSw ?_
    rotate_left
    · intro w hw; (try dsimp only at hw); go_split_ands; go_simp; try (with_reducible rfl)
    try simp only [Act.put, List.setIfInBounds_toArray, List.set_cons_zero, List.set_cons_succ]
    refine H_take (i := 3) (oi := { dst := some 54, op := Op.move (Operand.tmp 8), type := 4, pos := "bound.go:201", after := #[], guard := none }) (d := some 54) (v := ?_) rfl rfl (by kernel_rfl) (by kernel_rfl) (by kernel_rfl) (fun _ _ _ h => h) (Or.inl ⟨by rfl, ?_⟩) hSw ?_
    rotate_left
    · intro w hw; (try dsimp only at hw); go_split_ands; go_simp; try (with_reducible rfl)
    try simp only [Act.put, List.setIfInBounds_toArray, List.set_cons_zero, List.set_cons_succ]
    refine wpAnyH_ready (rs := [4]) (by kernel_rfl) (by simp) ?_
    refine AllReadyH.cons (o := { dst := some 55, op := Op.call { callee := Callee.value (Operand.tmp 53), args := #[Operand.tmp 54], argTypes := #[4] }, type := 139, pos := "bound.go:201", after := #[{ on := 2, ground := Ground.data }, { on := 3, ground := Ground.data }], guard := none }) rfl (fun K hK => ?_) AllReadyH.nil
    go_simp
    (go_at_call 147; (with_reducible refine (HCL.out _ _).mono ?_); rintro e w5 ⟨rfl, hi, hb⟩; have hb4 : Below W4.heap.size W4 w5 := (by first | exact hb | exact (Below.refl _ _).drew.trans hb); have HI5 : Hid (w5.cell? ⟨W4.heap.size, 0, none⟩ = some (.bool false)) := Lib.hid hi; have HB5 := Lib.hid hb4; have HS5 := Lib.hid (HS0.out.keep hb4); clear hi hb hb4)
    refine hK.out _ _ (HS5.out) (fun hSn => ?_)
    clear hK K hSw
    have hSw := hSn
    clear hSn
    try simp only [Act.put, List.setIfInBounds_toArray, List.set_cons_zero, List.set_cons_succ]
    refine wpAnyH_ready (rs := [5]) (by kernel_rfl) (by simp) ?_
    refine AllReadyH.cons (o := { dst := some 56, op := Op.call { callee := Callee.value (Operand.func 149), args := #[Operand.tmp 52, Operand.tmp 55], argTypes := #[52, 139] }, type := 4, pos := "bound.go:201", after := #[{ on := 1, ground := Ground.data }, { on := 4, ground := Ground.data }, { on := 4, ground := Ground.chain }], guard := none }) rfl (fun K hK => ?_) AllReadyH.nil
    go_simp
    (go_at_call 149; (with_reducible refine (HA.out _ _ _ (HBR.out _ HB5.out).1 (HBR.out _ HB5.out).2 HI5.out).mono ?_); rintro e w6 ⟨rfl, hb⟩; have HB6 := Lib.hid (HB5.out.trans (hb.mono HB5.out.size)); have HS6 := Lib.hid (HS5.out.keep hb); clear hb)
    refine hK.out _ _ (HS6.out) (fun hSn => ?_)
    clear hK K hSw
    have hSw := hSn
    clear hSn
    try simp only [Act.put, List.setIfInBounds_toArray, List.set_cons_zero, List.set_cons_succ]
    refine H_take (i := 6) (oi := { dst := some 57, op := Op.unOp UnOp.not 4 (Operand.tmp 56), type := 4, pos := "bound.go:201", after := #[{ on := 5, ground := Ground.data }], guard := none }) (d := some 57) (v := ?_) rfl rfl (by kernel_rfl) (by kernel_rfl) (by kernel_rfl) (fun _ _ _ h => h) (Or.inl ⟨by rfl, ?_⟩) hSw ?_
    rotate_left
    · intro w hw; (try dsimp only at hw); go_split_ands; go_simp; try (with_reducible rfl)
    try simp only [Act.put, List.setIfInBounds_toArray, List.set_cons_zero, List.set_cons_succ]
    refine H_take (i := 7) (oi := { dst := some 58, op := Op.move (Operand.tmp 57), type := 4, pos := "bound.go:201", after := #[{ on := 6, ground := Ground.data }, { on := 5, ground := Ground.chain }], guard := none }) (d := some 58) (v := ?_) rfl rfl (by kernel_rfl) (by kernel_rfl) (by kernel_rfl) (fun _ _ _ h => h) (Or.inl ⟨by rfl, ?_⟩) hSw ?_
    rotate_left
    · intro w hw; (try dsimp only at hw); go_split_ands; go_simp; try (with_reducible rfl)
    try simp only [Act.put, List.setIfInBounds_toArray, List.set_cons_zero, List.set_cons_succ]
    refine H_take (i := 8) (oi := { dst := some 59, op := Op.move (Operand.tmp 2), type := 52, pos := "bound.go:201", after := #[{ on := 7, ground := Ground.guard }], guard := some (7, true) }) (d := some 59) (v := ?_) rfl rfl (by kernel_rfl) (by kernel_rfl) (by kernel_rfl) (fun _ _ _ h => h) (Or.inl ⟨by rfl, ?_⟩) hSw ?_
    rotate_left
    · intro w hw; (try dsimp only at hw); go_split_ands; go_simp; try (with_reducible rfl)
    try simp only [Act.put, List.setIfInBounds_toArray, List.set_cons_zero, List.set_cons_succ]
    refine H_take (i := 9) (oi := { dst := some 60, op := Op.move (Operand.tmp 9), type := 166, pos := "bound.go:201", after := #[{ on := 7, ground := Ground.guard }], guard := some (7, true) }) (d := some 60) (v := ?_) rfl rfl (by kernel_rfl) (by kernel_rfl) (by kernel_rfl) (fun _ _ _ h => h) (Or.inl ⟨by rfl, ?_⟩) hSw ?_
    rotate_left
    · intro w hw; (try dsimp only at hw); go_split_ands; go_simp; try (with_reducible rfl)
    try simp only [Act.put, List.setIfInBounds_toArray, List.set_cons_zero, List.set_cons_succ]
    refine H_take (i := 10) (oi := { dst := some 61, op := Op.move (Operand.tmp 8), type := 4, pos := "bound.go:201", after := #[{ on := 7, ground := Ground.guard }], guard := some (7, true) }) (d := some 61) (v := ?_) rfl rfl (by kernel_rfl) (by kernel_rfl) (by kernel_rfl) (fun _ _ _ h => h) (Or.inl ⟨by rfl, ?_⟩) hSw ?_
    rotate_left
    · intro w hw; (try dsimp only at hw); go_split_ands; go_simp; try (with_reducible rfl)
    try simp only [Act.put, List.setIfInBounds_toArray, List.set_cons_zero, List.set_cons_succ]
    refine H_take (i := 11) (oi := { dst := some 62, op := Op.unOp UnOp.not 4 (Operand.tmp 61), type := 4, pos := "bound.go:201", after := #[{ on := 10, ground := Ground.data }, { on := 7, ground := Ground.guard }], guard := some (7, true) }) (d := some 62) (v := ?_) rfl rfl (by kernel_rfl) (by kernel_rfl) (by kernel_rfl) (fun _ _ _ h => h) (Or.inl ⟨by rfl, ?_⟩) hSw ?_
    rotate_left
    · intro w hw; (try dsimp only at hw); go_split_ands; go_simp; try (with_reducible rfl)
    try simp only [Act.put, List.setIfInBounds_toArray, List.set_cons_zero, List.set_cons_succ]
    refine wpAnyH_ready (rs := [12]) (by kernel_rfl) (by simp) ?_
    refine AllReadyH.cons (o := { dst := some 63, op := Op.call { callee := Callee.value (Operand.tmp 60), args := #[Operand.tmp 62], argTypes := #[4] }, type := 139, pos := "bound.go:201", after := #[{ on := 9, ground := Ground.data }, { on := 11, ground := Ground.data }, { on := 7, ground := Ground.chain }, { on := 7, ground := Ground.guard }], guard := some (7, true) }) rfl (fun K hK => ?_) AllReadyH.nil
    go_simp
    (go_at_call 147; (with_reducible refine (HCL.out _ _).mono ?_); rintro e w8 ⟨rfl, hi, hb⟩; have HI8 : Hid (w8.cell? ⟨w6.heap.size, 0, none⟩ = some (.bool true)) := Lib.hid hi; have HB8 := Lib.hid (HB6.out.trans (hb.mono HB6.out.size)); have HS8 := Lib.hid (HS6.out.keep hb); clear hi hb)
    refine hK.out _ _ (HS8.out) (fun hSn => ?_)
    clear hK K hSw
    have hSw := hSn
    clear hSn
    try simp only [Act.put, List.setIfInBounds_toArray, List.set_cons_zero, List.set_cons_succ]
    refine wpAnyH_ready (rs := [13]) (by kernel_rfl) (by simp) ?_
    refine AllReadyH.cons (o := { dst := some 64, op := Op.call { callee := Callee.value (Operand.func 149), args := #[Operand.tmp 59, Operand.tmp 63], argTypes := #[52, 139] }, type := 4, pos := "bound.go:201", after := #[{ on := 8, ground := Ground.data }, { on := 12, ground := Ground.data }, { on := 12, ground := Ground.chain }, { on := 7, ground := Ground.guard }], guard := some (7, true) }) rfl (fun K hK => ?_) AllReadyH.nil
    go_simp
    (go_at_call 149; (with_reducible refine (HB.out _ _ _ (HBR.out _ HB8.out).1 (HBR.out _ HB8.out).2 HI8.out).mono ?_); rintro e w9 ⟨rfl, hb⟩; have HB9 := Lib.hid (HB8.out.trans (hb.mono HB8.out.size)); have HS9 := Lib.hid (HS8.out.keep hb); have hrw := blk_below HRB4.out HB9.out; have u0 : w9.cell? ⟨W.heap.size + 1, 0, none⟩ = some (I 0) := (blk_cell hrw 0).trans rfl; have f0 := blk_frozen hrw 0; have u1 : w9.cell? ⟨W.heap.size + 1, 1, none⟩ = some (I 0) := (blk_cell hrw 1).trans rfl; have f1 := blk_frozen hrw 1; have u2 : w9.cell? ⟨W.heap.size + 1, 2, none⟩ = some (.slice none 0 0) := (blk_cell hrw 2).trans rfl; have f2 := blk_frozen hrw 2; clear hrw; clear hb)
    refine hK.out _ _ (HS9.out) (fun hSn => ?_)
    clear hK K hSw
    have hSw := hSn
    clear hSn
    try simp only [Act.put, List.setIfInBounds_toArray, List.set_cons_zero, List.set_cons_succ]
    refine H_take (i := 14) (oi := { dst := some 65, op := Op.unOp UnOp.not 4 (Operand.tmp 64), type := 4, pos := "bound.go:201", after := #[{ on := 13, ground := Ground.data }, { on := 7, ground := Ground.guard }, { on := 16, ground := Ground.gcOnly Departure.lateStores }], guard := some (7, true) }) (d := some 65) (v := ?_) rfl rfl (by kernel_rfl) (by kernel_rfl) (by kernel_rfl) (fun _ _ _ h => h) (Or.inl ⟨by rfl, ?_⟩) hSw ?_
    rotate_left
    · intro w hw; (try dsimp only at hw); go_split_ands; go_simp; try (with_reducible rfl)
    try simp only [Act.put, List.setIfInBounds_toArray, List.set_cons_zero, List.set_cons_succ]
    refine H_take (i := 15) (oi := { dst := some 66, op := Op.pick (Operand.tmp 58) (Operand.tmp 65) (Operand.const (Value.bool false)), type := 4, pos := "bound.go:201", after := #[{ on := 7, ground := Ground.data }, { on := 14, ground := Ground.data }, { on := 16, ground := Ground.gcOnly Departure.lateStores }], guard := none }) (d := some 66) (v := ?_) rfl rfl (by kernel_rfl) (by kernel_rfl) (by kernel_rfl) (fun _ _ _ h => h) (Or.inl ⟨by rfl, ?_⟩) hSw ?_
    rotate_left
    · intro w hw; (try dsimp only at hw); go_split_ands; go_simp; try (with_reducible rfl)
    try simp only [Act.put, List.setIfInBounds_toArray, List.set_cons_zero, List.set_cons_succ]
    refine wpAnyH_ready (rs := [16]) (by kernel_rfl) (by simp) ?_
    refine AllReadyH.cons (o := { dst := none, op := Op.store 24 (Operand.tmp 6) (Operand.tmp 51), type := 0, pos := "bound.go:201", after := #[{ on := 0, ground := Ground.data }, { on := 13, ground := Ground.chain }, { on := 0, ground := Ground.phase }, { on := 1, ground := Ground.textOnly Departure.lateStores }, { on := 2, ground := Ground.textOnly Departure.lateStores }, { on := 3, ground := Ground.textOnly Departure.lateStores }, { on := 4, ground := Ground.textOnly Departure.lateStoresUnsure }, { on := 5, ground := Ground.textOnly Departure.lateStoresUnsure }, { on := 6, ground := Ground.textOnly Departure.lateStores }, { on := 7, ground := Ground.textOnly Departure.lateStores }, { on := 8, ground := Ground.textOnly Departure.lateStores }, { on := 9, ground := Ground.textOnly Departure.lateStores }, { on := 10, ground := Ground.textOnly Departure.lateStores }, { on := 11, ground := Ground.textOnly Departure.lateStores }, { on := 12, ground := Ground.textOnly Departure.lateStoresUnsure }, { on := 13, ground := Ground.textOnly Departure.lateStoresUnsure }, { on := 14, ground := Ground.textOnly Departure.lateStores }, { on := 15, ground := Ground.textOnly Departure.lateStores }], guard := none }) rfl (fun K hK => ?_) AllReadyH.nil
    go_simp
    refine hK.out _ _ (HSP.out _ _ _ _ HS9.out) (fun hSn => ?_)
    clear hK K hSw
    have hSw := hSn
    clear hSn
    try simp only [Act.put, List.setIfInBounds_toArray, List.set_cons_zero, List.set_cons_succ]
    refine H_take (i := 17) (oi := { dst := some 7, op := Op.assign (Operand.tmp 66), type := 4, pos := "bound.go:201", after := #[{ on := 15, ground := Ground.data }, { on := 16, ground := Ground.chain }, { on := 0, ground := Ground.phase }, { on := 1, ground := Ground.phase }, { on := 2, ground := Ground.phase }, { on := 3, ground := Ground.phase }, { on := 4, ground := Ground.phase }, { on := 5, ground := Ground.phase }, { on := 6, ground := Ground.phase }, { on := 7, ground := Ground.phase }, { on := 8, ground := Ground.phase }, { on := 9, ground := Ground.phase }, { on := 10, ground := Ground.phase }, { on := 11, ground := Ground.phase }, { on := 12, ground := Ground.phase }, { on := 13, ground := Ground.phase }, { on := 14, ground := Ground.phase }, { on := 15, ground := Ground.phase }, { on := 16, ground := Ground.phase }], guard := none }) (d := some 7) (v := ?_) rfl rfl (by kernel_rfl) (by kernel_rfl) (by kernel_rfl) (fun _ _ _ h => h) (Or.inl ⟨by rfl, ?_⟩) hSw ?_
    rotate_left
    · intro w hw; (try dsimp only at hw); go_split_ands; go_simp; try (with_reducible rfl)
    try simp only [Act.put, List.setIfInBounds_toArray, List.set_cons_zero, List.set_cons_succ]
    refine wpAnyH_done (by kernel_rfl) ?_ _
    have HFIN : Hid ((pt3 w9 (W.heap.size + 1) (I 2) (I 0) (.slice (some ⟨W3.heap.size + 1, 0, none⟩) 1 1)).heap[W.heap.size + 1]? = some (.cells #[I 2, I 0, .slice (some ⟨W3.heap.size + 1, 0, none⟩) 1 1] 24 (0, 0))) := Lib.hid (blk_pt3 (blk_below HRB4.out HB9.out))
    have HBF : Hid (Below W.heap.size W (pt3 w9 (W.heap.size + 1) (I 2) (I 0) (.slice (some ⟨W3.heap.size + 1, 0, none⟩) 1 1))) := Lib.hid (below_pt3 (HBR.out _ HB9.out).1 (Nat.le_succ _))
    have HFF : Hid (FmS W.heap.size (pt3 w9 (W.heap.size + 1) (I 2) (I 0) (.slice (some ⟨W3.heap.size + 1, 0, none⟩) 1 1)).heap.size (pt3 w9 (W.heap.size + 1) (I 2) (I 0) (.slice (some ⟨W3.heap.size + 1, 0, none⟩) 1 1)) (.not (.leaf 0 v)) [I 2, I 0, .slice (some ⟨W3.heap.size + 1, 0, none⟩) 1 1]) := Lib.hid (HFM.out _ HB9.out _ _ _)
    change Exit.then _ _ Exit.normal _ (pt3 w9 (W.heap.size + 1) (I 2) (I 0) (.slice (some ⟨W3.heap.size + 1, 0, none⟩) 1 1))
    clear u0 u1 u2 f0 f1 f2 hSw
    generalize pt3 w9 (W.heap.size + 1) (I 2) (I 0) (.slice (some ⟨W3.heap.size + 1, 0, none⟩) 1 1) = w10 at *
    go_wp2
    refine bodyPost_ret (results_ct (by rfl) _ _ (W.heap.size + 1) 24 #[I 2, I 0, .slice (some ⟨W3.heap.size + 1, 0, none⟩) 1 1] (0, 0) _ (by rfl) HFIN.out Try.underlying24 (by rfl) (by kernel_rfl)) rfl ?_
    exact ⟨_, _, _, _, _, by rw [HRA.out]; rfl, HFF.out, HBF.out⟩
end Go.Proofs.Ytpfbommaddaijaa

