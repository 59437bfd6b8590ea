/- A copy of a machine in a walk. -/
import Derived.Test.YtjahkdomofhfgaaTm
import Derived.Test.YtjahkdomofhfgaaTl
namespace Go.Proofs.Ytjahkdomofhfgaa
open Go.RowKit
set_option linter.unusedVariables false
set_option linter.unusedSimpArgs false

/-- the copy's box at block N -/
abbrev Out35 (S Y T : Int) (v : Value) : Obj := .cells #[I S, I Y, I T, v] 35 (0, 0)

def FB (N : Nat) (v : Value) (w : World) : Prop := ∃ g, v = .slice (some ⟨g, 0, none⟩) 0 0 ∧ w.heap[g]? = some (.cells #[] 3 (0, 0)) ∧ N ≤ g
theorem FB.keep {N : Nat} {v : Value} {w w' : World} (h : FB N v w) (hb : Below w.heap.size w w') : FB N v w' := by
  obtain ⟨g, e, hg, hN⟩ := h
  exact ⟨g, e, by rw [hb.block g (Array.getElem?_eq_some_iff.1 hg).1]; exact hg, hN⟩
/-- what each operation of the copying leaves -/
def Fc (N : Nat) (u : Value) (f g : Int) (V : Nat → Value) (L : Nat → Nat) (Z : Nat → Nat → Int) (i : Nat) (v : Value) (w : World) : Prop :=
  match i with
  | 1 => v = u
  | 3 => v = I f
  | 9 => v = I g
  | 4 => FB N v w
  | 10 => FB N v w
  | 14 => FB N v w
  | 6 => v = V 0
  | 12 => v = V 1
  | 16 => v = V 2
  | 7 => w.ownsRow N 3 1 v (L 0) (nums (L 0) (Z 0))
  | 13 => w.ownsRow N 3 1 v (L 1) (nums (L 1) (Z 1))
  | 17 => w.ownsRow N 3 1 v (L 2) (nums (L 2) (Z 2))
  | 18 => ∃ a0 c0 a1 c1 a2 c2, v = .agg #[I f, .slice a0 (L 0) c0, I g, .slice a1 (L 1) c1, .slice a2 (L 2) c2] ∧ w.ownsRow N 3 1 (.slice a0 (L 0) c0) (L 0) (nums (L 0) (Z 0)) ∧ w.ownsRow N 3 1 (.slice a1 (L 1) c1) (L 1) (nums (L 1) (Z 1)) ∧ w.ownsRow N 3 1 (.slice a2 (L 2) c2) (L 2) (nums (L 2) (Z 2))
  | 19 => ∃ b a0 c0 a1 c1 a2 c2, v = .slice (some ⟨b, 0, none⟩) 1 1 ∧ w.heap[b]? = some (.cells #[I f, .slice a0 (L 0) c0, I g, .slice a1 (L 1) c1, .slice a2 (L 2) c2] 48 (0, 0)) ∧ w.ownsRow N 3 1 (.slice a0 (L 0) c0) (L 0) (nums (L 0) (Z 0)) ∧ w.ownsRow N 3 1 (.slice a1 (L 1) c1) (L 1) (nums (L 1) (Z 1)) ∧ w.ownsRow N 3 1 (.slice a2 (L 2) c2) (L 2) (nums (L 2) (Z 2))
  | _ => True
theorem Fc.keep {N : Nat} {u : Value} {f g : Int} {V : Nat → Value} {L : Nat → Nat} {Z : Nat → Nat → Int} {w w' : World} (hb : Below w.heap.size w w') : ∀ i v, Fc N u f g V L Z i v w → Fc N u f g V L Z i v w' := by
  intro i v
  unfold Fc
  split <;> intro h <;> first
    | exact h
    | exact FB.keep h hb
    | exact own_below h hb
    | (obtain ⟨a0, c0, a1, c1, a2, c2, e, h0, h1, h2⟩ := h
       exact ⟨a0, c0, a1, c1, a2, c2, e, own_below h0 hb, own_below h1 hb, own_below h2 hb⟩)
    | (obtain ⟨b, a0, c0, a1, c1, a2, c2, e, hg, h0, h1, h2⟩ := h
       exact ⟨b, a0, c0, a1, c1, a2, c2, e, by rw [hb.block b (Array.getElem?_eq_some_iff.1 hg).1]; exact hg, own_below h0 hb, own_below h1 hb, own_below h2 hb⟩)

section
variable {o : Oper} {a : Act} {w : World} {K : Act → World → Prop} {Q : Exit → Act → World → Prop}
theorem op_of {ops : Array Oper} {i : Nat} {o : Oper} {x : Op} (ho : ops[i]? = some o) (h : (ops[i]?).map (·.op) = some x) : o.op = x := by
  rw [ho] at h
  exact Option.some.inj h
theorem dst_of {ops : Array Oper} {i : Nat} {o : Oper} {x : Option Tmp} (ho : ops[i]? = some o) (h : (ops[i]?).map (·.dst) = some x) : o.dst = x := by
  rw [ho] at h
  exact Option.some.inj h
/-- the one operation that may come up -/
theorem wpAny_one {P : Program} {ops : Array Oper} {Q : Exit → Act → World → Prop} {fuel : Nat} {listed : Array Bool} {a : Act} {w : World} (i : Nat) (hr : Region.ready .any ops listed = [i]) (hg : (ops[i]?).map (·.guard) = some none)
    (h : ∀ o, ops[i]? = some o → o.wp P a w (fun a' w' => wpAny P .any ops Q fuel (listed.setIfInBounds i true) a' w') Q) : wpAny P .any ops Q (fuel + 1) listed a w := by
  refine wpAny_all hr (by simp) fun j hj => ?_
  obtain rfl : j = i := by simpa using hj
  unfold wpOp
  cases ho : ops[j]? with
  | none => rw [ho] at hg; simp at hg
  | some o =>
    rw [ho] at hg
    have hgo : o.guard = none := by simpa using hg
    have hw : Region.wanted o (yielded ops a.tmps) = true := by simp [Region.wanted, hgo]
    simp only [hw, if_true]
    exact .inl (h o ho)
theorem q_eq {Q : Exit → Act → World → Prop} {A B : Act} {w : World} (h : A = B) (hq : Q .normal B w) : Q .normal A w := h ▸ hq
theorem wp_load33 {ad : Addr} {v : Value} {x : Operand} (hop : o.op = .load 33 x) (he : a.eval x = .pointer (some ad)) (hc : w.cell? ad = some v) (h : K (a.put o.dst v) w) : o.wp Try.prog a w K Q := by
  unfold Oper.wp
  generalize a.eval = ev at *
  simp [hop, he, hc, go_sem]
  exact h
theorem wp_load3 {ad : Addr} {v : Value} {x : Operand} (hop : o.op = .load 3 x) (he : a.eval x = .pointer (some ad)) (hc : w.cell? ad = some v) (h : K (a.put o.dst v) w) : o.wp Try.prog a w K Q := by
  unfold Oper.wp
  generalize a.eval = ev at *
  simp [hop, he, hc, go_sem]
  exact h
theorem wp_load27 {ad : Addr} {v : Value} {x : Operand} (hop : o.op = .load 27 x) (he : a.eval x = .pointer (some ad)) (hc : w.cell? ad = some v) (h : K (a.put o.dst v) w) : o.wp Try.prog a w K Q := by
  unfold Oper.wp
  generalize a.eval = ev at *
  simp [hop, he, hc, go_sem]
  exact h
theorem wp_empty27 (hop : o.op = .buildSlice 27 0 #[]) (h : K (a.put o.dst (.slice (some ⟨w.heap.size, 0, none⟩) 0 0)) (w.alloc (.cells #[] 3))) : o.wp Try.prog a w K Q := by
  unfold Oper.wp
  generalize a.eval = ev at *
  simp [hop, go_sem]
  exact h
theorem wp_build48 {x0 x1 x2 x3 x4 : Operand} {f g : Int} {a0 a1 a2 : Option Addr} {n0 n1 n2 c0 c1 c2 : Nat} (hop : o.op = .build 48 #[(0, x0), (1, x1), (2, x2), (3, x3), (4, x4)]) (h0 : a.eval x0 = I f) (h1 : a.eval x1 = .slice a0 n0 c0) (h2 : a.eval x2 = I g) (h3 : a.eval x3 = .slice a1 n1 c1) (h4 : a.eval x4 = .slice a2 n2 c2)
    (h : K (a.put o.dst (.agg #[I f, .slice a0 n0 c0, I g, .slice a1 n1 c1, .slice a2 n2 c2])) w) : o.wp Try.prog a w K Q := by
  unfold Oper.wp
  generalize a.eval = ev at *
  simp [hop, h0, h1, h2, h3, h4, go_sem]
  exact h
theorem wp_slice33 {x0 : Operand} {f g : Int} {a0 a1 a2 : Option Addr} {n0 n1 n2 c0 c1 c2 : Nat} (hop : o.op = .buildSlice 33 1 #[(0, x0)]) (h0 : a.eval x0 = .agg #[I f, .slice a0 n0 c0, I g, .slice a1 n1 c1, .slice a2 n2 c2]) (h : K (a.put o.dst (.slice (some ⟨w.heap.size, 0, none⟩) 1 1)) (w.alloc (.cells #[I f, .slice a0 n0 c0, I g, .slice a1 n1 c1, .slice a2 n2 c2] 48))) : o.wp Try.prog a w K Q := by
  unfold Oper.wp
  generalize a.eval = ev at *
  simp [hop, h0, go_sem]
  exact h
theorem wp_faddr35 {b k : Nat} {x : Operand} (hop : o.op = .fieldAddr 35 x 3) (he : a.eval x = .pointer (some ⟨b, 0, none⟩)) (h : K (a.put o.dst (.pointer (some ⟨b, 3, none⟩))) w) : o.wp Try.prog a w K Q := by
  unfold Oper.wp
  generalize a.eval = ev at *
  simp [hop, he, go_sem]
  exact h
theorem wp_store33 {ad : Addr} {x y : Operand} {sa : Option Addr} {n c : Nat} {old : Value} (hop : o.op = .store 33 x y) (he : a.eval x = .pointer (some ad)) (hy : a.eval y = .slice sa n c) (hc : w.cell? ad = some old) (hf : w.frozen? ad = false) (hd : o.dst = none) (h : K a (w.setCell ad (.slice sa n c))) : o.wp Try.prog a w K Q := by
  unfold Oper.wp
  generalize a.eval = ev at *
  simp [hop, he, hy, hc, hf, hd, go_sem]
  exact h
theorem wp_fresh {N : Nat} {x y : Operand} {sa : Option Addr} {m c : Nat} {Z : Nat → Int} (hop : o.op = .call { callee := .builtin .append, args := #[x, y], argTypes := #[27, 27] }) (hx : FB N (a.eval x) w) (hy : a.eval y = .slice sa m c) (hs : Sl w sa m Z) (hn : sa = none → m = 0 ∧ c = 0) (hm : m ≤ 2 ^ 40)
    (h : ∀ v' w', w'.ownsRow N 3 1 v' m (nums m Z) → Below w.heap.size w w' → K (a.put o.dst v') w') : o.wp Try.prog a w K Q := by
  obtain ⟨i0, hi, hz0, hz1, hz2⟩ := info_parts Try.info3
  obtain ⟨g, hg, hgg, hN⟩ := hx
  obtain ⟨v', w', hr, ho, hb⟩ := append_fresh Try.underlying27 hi hz0 hz1 hz2 w o.type hgg hN hs hn hm
  unfold Oper.wp execOp
  simp only [hop, resolve, invoke, builtin, Sem.run_bind, Sem.run_pure, Result.andThen_ok, List.map_toArray, List.map_cons, List.map_nil, hg, hy, hr]
  exact h v' w' ho hb
end

theorem Try.info48 : (Try.prog.info? 48).map (fun i => (i.zero, i.size, i.bytes)) = some (some (.agg #[I 0, .slice none 0 0, I 0, .slice none 0 0, .slice none 0 0]), 5, 88) := by kernel_rfl
theorem cells5 {w : World} {b : Nat} {x0 x1 x2 x3 x4 : Value} {t : TypeId} (h : w.heap[b]? = some (.cells #[x0, x1, x2, x3, x4] t (0, 0))) : ∀ j u, [x0, x1, x2, x3, x4][j]? = some u → w.cell? ((⟨b, 0, none⟩ : Addr).add j) = some u := by
  intro j u hj
  match j, hj with
  | 0, hj => simp at hj; subst hj; simp [Addr.add, World.cell?, h]
  | 1, hj => simp at hj; subst hj; simp [Addr.add, World.cell?, h]
  | 2, hj => simp at hj; subst hj; simp [Addr.add, World.cell?, h]
  | 3, hj => simp at hj; subst hj; simp [Addr.add, World.cell?, h]
  | 4, hj => simp at hj; subst hj; simp [Addr.add, World.cell?, h]
set_option maxHeartbeats 2000000 in
theorem mcopy_any {w : World} {S Y T : Int} {v : Value} {n : Nat} {F G : Nat → Int} {A : Nat → Nat → Option Addr} {L C : Nat → Nat → Nat} {Z : Nat → Nat → Nat → Int} (hd : Mg w v n F G A L C Z) (hn : n ≤ 2000) (hL : ∀ r, r < n → ∀ q, q < 3 → L r q ≤ 100) : Calls Try.prog 14 #[M4 S Y T v] w fun e w' => ∃ v' A' C', e = .returned (M4 S Y T v') ∧ Mg w' v' n F G A' L C' Z ∧ Below w.heap.size w w' := by
  have Hd := Lib.hid hd
  have HL := Lib.hid hL
  obtain ⟨a, cap, rfl⟩ := hd.len
  clear hd hL
  go_enter Try.func14, Try.ntmps14
  go_wp2
  obtain ⟨W, hW⟩ : ∃ W, W = (((w.alloc (Obj.cells #[I S, I Y, I T, Value.slice a n cap] 35)).alloc (Obj.cells #[I 0, I 0, I 0, Value.slice none 0 0] 35)).alloc (Obj.cells #[I S, I Y, I T, Value.slice none 0 0] 35)) := ⟨_, rfl⟩
  have hsz : W.heap.size = w.heap.size + 3 := by rw [hW]; simp
  have hx : Bx w.heap.size W S Y T (Value.slice a n cap) := by rw [hW]; exact ⟨by simp [go_sem], by simp [go_sem], by simp [go_sem], by simp [go_sem]⟩
  have hB0 : Below w.heap.size w W := by rw [hW]; exact (((Below.refl _ _).alloc (Nat.le_refl _) _).alloc (by simp) _).alloc (by simp; omega) _
  have hr1 : W.heap[w.heap.size + 1]? = some (Out35 0 0 0 (.slice none 0 0)) := by
    rw [hW, Deep.blk_alloc_lt _ _ _ (by simp)]
    have := Deep.blk_alloc_new (w.alloc (Obj.cells #[I S, I Y, I T, Value.slice a n cap] 35)) (Out35 0 0 0 (.slice none 0 0))
    rwa [World.size_alloc] at this
  have hr2 : W.heap[w.heap.size + 1 + 1]? = some (Out35 S Y T (.slice none 0 0)) := by
    rw [hW]
    have := Deep.blk_alloc_new ((w.alloc (Obj.cells #[I S, I Y, I T, Value.slice a n cap] 35)).alloc (Obj.cells #[I 0, I 0, I 0, Value.slice none 0 0] 35)) (Out35 S Y T (.slice none 0 0))
    rwa [World.size_alloc, World.size_alloc] at this
  rw [← hW]
  have HX := Lib.hid hx
  have HB0 := Lib.hid hB0
  have HS := Lib.hid hsz
  clear hW hB0 hx hsz
  go_loopw [4, 5] (fun x _ wr => ∃ k : Nat, k ≤ n ∧ (∃ u V, Hid (Cm (w.heap.size + 3) wr u k F G V L Z) ∧ Hid (wr.heap[w.heap.size + 1 + 1]? = some (Out35 S Y T u))) ∧ Hid (wr.heap[w.heap.size + 1]? = some (Out35 0 0 0 (.slice none 0 0))) ∧ Hid (Bx w.heap.size wr S Y T (Value.slice a n cap)) ∧ x = I k ∧ Hid (Below w.heap.size w wr) ∧ w.heap.size + 3 ≤ wr.heap.size) (fun x _ _ => n - (intOf x).toNat)
  case atStart => exact ⟨0, by omega, ⟨_, fun _ _ => undef, Lib.hid (Cm.zero _ _ _ _ _ _ _), Lib.hid hr2⟩, Lib.hid hr1, HX, rfl, HB0, by rw [HS.out]; omega⟩
  case round =>
    clear hr1 hr2
    obtain ⟨k, hk, ⟨u, V, hcm, hout⟩, hres, hbx, rfl, hB, hsz⟩ := hrel
    have x3 := hbx.out.c3
    by_cases hkn : k < n
    · have hM := Lib.hid (Hd.out.keep hB.out)
      obtain ⟨B, O, rfl⟩ := hM.out.base (by omega)
      obtain ⟨c0, c1, c2, c3, c4⟩ := hM.out.rule hkn
      go_upto_region 6 with fail
      obtain ⟨W1, hW1⟩ : ∃ W1, W1 = wr.alloc (Obj.cells #[I (F k), .slice (A k 0) (L k 0) (C k 0), I (G k), .slice (A k 1) (L k 1) (C k 1), .slice (A k 2) (L k 2) (C k 2)] 48) := ⟨_, rfl⟩
      have hr2 := (box5 wr (F k) (G k) (A k 0) (A k 1) (A k 2) (L k 0) (C k 0) (L k 1) (C k 1) (L k 2) (C k 2)).1
      have hB2 := (box5 wr (F k) (G k) (A k 0) (A k 1) (A k 2) (L k 0) (C k 0) (L k 1) (C k 1) (L k 2) (C k 2)).2
      rw [← hW1] at hr2 hB2 ⊢
      have HR := Lib.hid hr2
      have HB2 := Lib.hid hB2
      have HO : Hid (W1.cell? ⟨w.heap.size + 1 + 1, 3, none⟩ = some u) := Lib.hid (below_cell (B := 0) hB2 (by simp [World.cell?, hout.out]))
      have hnil : ∀ q, q < 3 → A k q = none → L k q = 0 ∧ C k q = 0 := fun q hq hA => by
        have r1 := hM.out.row k hkn q hq
        have r2 := r1.2.2.1 hA
        exact ⟨by omega, r2⟩
      have HM2 := Lib.hid (hM.out.keep hB2)
      clear hr2 hB2 c0 c1 c2 c3 c4 x3 hM hW1
      refine wp_region_any (by kernel_rfl) ?_
      change wpAny _ _ _ _ _ _ _ (World.drew _)
      refine wpAny_take (i := 0) (v := ?_) rfl (by kernel_rfl) (by kernel_rfl) (by kernel_rfl) (fun _ _ _ h => h) (Or.inl ⟨by rfl, by intro w; go_simp; with_reducible rfl⟩) ?_
      refine wpAny_take (i := 2) (v := ?_) rfl (by kernel_rfl) (by kernel_rfl) (by kernel_rfl) (fun _ _ _ h => h) (Or.inl ⟨by rfl, by intro w; go_simp; with_reducible rfl⟩) ?_
      refine wpAny_take (i := 5) (v := ?_) rfl (by kernel_rfl) (by kernel_rfl) (by kernel_rfl) (fun _ _ _ h => h) (Or.inl ⟨by rfl, by intro w; go_simp; with_reducible rfl⟩) ?_
      refine wpAny_take (i := 8) (v := ?_) rfl (by kernel_rfl) (by kernel_rfl) (by kernel_rfl) (fun _ _ _ h => h) (Or.inl ⟨by rfl, by intro w; go_simp; with_reducible rfl⟩) ?_
      refine wpAny_take (i := 11) (v := ?_) rfl (by kernel_rfl) (by kernel_rfl) (by kernel_rfl) (fun _ _ _ h => h) (Or.inl ⟨by rfl, by intro w; go_simp; with_reducible rfl⟩) ?_
      refine wpAny_take (i := 15) (v := ?_) rfl (by kernel_rfl) (by kernel_rfl) (by kernel_rfl) (fun _ _ _ h => h) (Or.inl ⟨by rfl, by intro w; go_simp; with_reducible rfl⟩) ?_
      refine wpAny_inv [1, 3, 4, 6, 7, 9, 10, 12, 13, 14, 16, 17, 18, 19] (fun w' => Below W1.heap.size W1 w') (Fc (w.heap.size + 3) u (F k) (G k) (fun q => .slice (A k q) (L k q) (C k q)) (L k) (Z k)) (by kernel_rfl) (by kernel_rfl) (Below.refl _ _).drew ?_ 3 ?_
      · intro i hi o ho A0 w0 hC hdep hbase
        have hkeep : ∀ {w1 : World}, Below w0.heap.size w0 w1 → ∀ j ∈ [1, 3, 4, 6, 7, 9, 10, 12, 13, 14, 16, 17, 18, 19], ∀ x, Fc (w.heap.size + 3) u (F k) (G k) (fun q => .slice (A k q) (L k q) (C k q)) (L k) (Z k) j x w0 → Fc (w.heap.size + 3) u (F k) (G k) (fun q => .slice (A k q) (L k q) (C k q)) (L k) (Z k) j x w1 := fun hb j _ x => Fc.keep hb j x
        have hal : ∀ o, Below w0.heap.size w0 (w0.alloc o) := fun o => (Below.refl _ _).alloc (Nat.le_refl _) _
        simp only [List.mem_cons, List.not_mem_nil, or_false] at hi
        rcases hi with rfl | rfl | rfl | rfl | rfl | rfl | rfl | rfl | rfl | rfl | rfl | rfl | rfl | rfl
        · have e1 : A0.eval (.tmp 25) = .pointer (some ⟨w.heap.size + 1 + 1, 3, none⟩) := (hbase 25 (by decide +kernel)).trans (by kernel_rfl)
          exact wp_load33 (op_of ho (by kernel_rfl)) e1 (below_cell (B := 0) hC HO.out) ⟨_, rfl, rfl, hC, fun _ _ _ h => h⟩
        · have e1 : A0.eval (.tmp 27) = .pointer (some ⟨wr.heap.size, 0, none⟩) := (hbase 27 (by decide +kernel)).trans (by kernel_rfl)
          exact wp_load3 (op_of ho (by kernel_rfl)) e1 ((HR.out.keep hC).c0) ⟨_, rfl, rfl, hC, fun _ _ _ h => h⟩
        · exact wp_empty27 (op_of ho (by kernel_rfl)) ⟨_, rfl, ⟨_, rfl, Deep.blk_alloc_new _ _, by have := hC.size; have := HB2.out.size; omega⟩, hC.trans ((hal _).mono hC.size), hkeep (hal _)⟩
        · have e1 : A0.eval (.tmp 30) = .pointer (some ⟨wr.heap.size, 1, none⟩) := (hbase 30 (by decide +kernel)).trans (by kernel_rfl)
          exact wp_load27 (op_of ho (by kernel_rfl)) e1 ((HR.out.keep hC).c1) ⟨_, rfl, rfl, hC, fun _ _ _ h => h⟩
        · have f1 := hdep 4 (of_decide_eq_true (by kernel_rfl)) (by decide) 29 (by kernel_rfl)
          have f2 : A0.eval (.tmp 31) = .slice (A k 0) (L k 0) (C k 0) := hdep 6 (of_decide_eq_true (by kernel_rfl)) (by decide) 31 (by kernel_rfl)
          exact wp_fresh (op_of ho (by kernel_rfl)) f1 f2 ((HM2.out.sl hkn (q := 0) (by omega)).keep hC) (hnil 0 (by omega)) (by have := HL.out k hkn 0 (by omega); omega) (fun v' w' h1 h2 => ⟨_, rfl, h1, hC.trans (h2.mono hC.size), hkeep h2⟩)
        · have e1 : A0.eval (.tmp 33) = .pointer (some ⟨wr.heap.size, 2, none⟩) := (hbase 33 (by decide +kernel)).trans (by kernel_rfl)
          exact wp_load3 (op_of ho (by kernel_rfl)) e1 ((HR.out.keep hC).c2) ⟨_, rfl, rfl, hC, fun _ _ _ h => h⟩
        · exact wp_empty27 (op_of ho (by kernel_rfl)) ⟨_, rfl, ⟨_, rfl, Deep.blk_alloc_new _ _, by have := hC.size; have := HB2.out.size; omega⟩, hC.trans ((hal _).mono hC.size), hkeep (hal _)⟩
        · have e1 : A0.eval (.tmp 36) = .pointer (some ⟨wr.heap.size, 3, none⟩) := (hbase 36 (by decide +kernel)).trans (by kernel_rfl)
          exact wp_load27 (op_of ho (by kernel_rfl)) e1 ((HR.out.keep hC).c3) ⟨_, rfl, rfl, hC, fun _ _ _ h => h⟩
        · have f1 := hdep 10 (of_decide_eq_true (by kernel_rfl)) (by decide) 35 (by kernel_rfl)
          have f2 : A0.eval (.tmp 37) = .slice (A k 1) (L k 1) (C k 1) := hdep 12 (of_decide_eq_true (by kernel_rfl)) (by decide) 37 (by kernel_rfl)
          exact wp_fresh (op_of ho (by kernel_rfl)) f1 f2 ((HM2.out.sl hkn (q := 1) (by omega)).keep hC) (hnil 1 (by omega)) (by have := HL.out k hkn 1 (by omega); omega) (fun v' w' h1 h2 => ⟨_, rfl, h1, hC.trans (h2.mono hC.size), hkeep h2⟩)
        · exact wp_empty27 (op_of ho (by kernel_rfl)) ⟨_, rfl, ⟨_, rfl, Deep.blk_alloc_new _ _, by have := hC.size; have := HB2.out.size; omega⟩, hC.trans ((hal _).mono hC.size), hkeep (hal _)⟩
        · have e1 : A0.eval (.tmp 40) = .pointer (some ⟨wr.heap.size, 4, none⟩) := (hbase 40 (by decide +kernel)).trans (by kernel_rfl)
          exact wp_load27 (op_of ho (by kernel_rfl)) e1 ((HR.out.keep hC).c4) ⟨_, rfl, rfl, hC, fun _ _ _ h => h⟩
        · have f1 := hdep 14 (of_decide_eq_true (by kernel_rfl)) (by decide) 39 (by kernel_rfl)
          have f2 : A0.eval (.tmp 41) = .slice (A k 2) (L k 2) (C k 2) := hdep 16 (of_decide_eq_true (by kernel_rfl)) (by decide) 41 (by kernel_rfl)
          exact wp_fresh (op_of ho (by kernel_rfl)) f1 f2 ((HM2.out.sl hkn (q := 2) (by omega)).keep hC) (hnil 2 (by omega)) (by have := HL.out k hkn 2 (by omega); omega) (fun v' w' h1 h2 => ⟨_, rfl, h1, hC.trans (h2.mono hC.size), hkeep h2⟩)
        · have f0 : A0.eval (.tmp 28) = I (F k) := hdep 3 (of_decide_eq_true (by kernel_rfl)) (by decide) 28 (by kernel_rfl)
          have f2 : A0.eval (.tmp 34) = I (G k) := hdep 9 (of_decide_eq_true (by kernel_rfl)) (by decide) 34 (by kernel_rfl)
          have o0 : w0.ownsRow (w.heap.size + 3) 3 1 (A0.eval (.tmp 32)) (L k 0) (nums (L k 0) (Z k 0)) := hdep 7 (of_decide_eq_true (by kernel_rfl)) (by decide) 32 (by kernel_rfl)
          have o1 : w0.ownsRow (w.heap.size + 3) 3 1 (A0.eval (.tmp 38)) (L k 1) (nums (L k 1) (Z k 1)) := hdep 13 (of_decide_eq_true (by kernel_rfl)) (by decide) 38 (by kernel_rfl)
          have o2 : w0.ownsRow (w.heap.size + 3) 3 1 (A0.eval (.tmp 42)) (L k 2) (nums (L k 2) (Z k 2)) := hdep 17 (of_decide_eq_true (by kernel_rfl)) (by decide) 42 (by kernel_rfl)
          obtain ⟨a0, c0, g0⟩ := own_shape o0
          obtain ⟨a1, c1, g1⟩ := own_shape o1
          obtain ⟨a2, c2, g2⟩ := own_shape o2
          rw [g0] at o0
          rw [g1] at o1
          rw [g2] at o2
          exact wp_build48 (op_of ho (by kernel_rfl)) f0 g0 f2 g1 g2 ⟨_, rfl, ⟨a0, c0, a1, c1, a2, c2, rfl, o0, o1, o2⟩, hC, fun _ _ _ h => h⟩
        · obtain ⟨a0, c0, a1, c1, a2, c2, g0, o0, o1, o2⟩ := hdep 18 (of_decide_eq_true (by kernel_rfl)) (by decide) 43 (by kernel_rfl)
          exact wp_slice33 (op_of ho (by kernel_rfl)) g0 ⟨_, rfl, ⟨_, a0, c0, a1, c1, a2, c2, rfl, Deep.blk_alloc_new _ _, own_below o0 (hal _), own_below o1 (hal _), own_below o2 (hal _)⟩, hC.trans ((hal _).mono hC.size), hkeep (hal _)⟩
      · intro v w0 hC hF
        have e1 : v 1 = u := hF 1 (by decide)
        obtain ⟨bb, a0, c0, a1, c1, a2, c2, e19, hbb, o0, o1, o2⟩ := hF 19 (by decide)
        have hcm0 := (hcm.out.keep HB2.out).keep hC
        have hout0 : w0.heap[w.heap.size + 1 + 1]? = some (Out35 S Y T u) := by
          rw [hC.block _ (by have := HB2.out.size; omega), HB2.out.block _ (by omega)]
          exact hout.out
        have hres0 : w0.heap[w.heap.size + 1]? = some (Out35 0 0 0 (.slice none 0 0)) := by
          rw [hC.block _ (by have := HB2.out.size; omega), HB2.out.block _ (by omega)]
          exact hres.out
        have hbx0 := (hbx.out.keep HB2.out).keep hC
        have hB3 : Below w.heap.size w w0 := (hB.out.trans (HB2.out.mono hB.out.size)).trans (hC.mono (Nat.le_trans hB.out.size HB2.out.size))
        have hsz0 : w.heap.size + 3 ≤ w0.heap.size := by have := HB2.out.size; have := hC.size; omega
        obtain ⟨j0, ji, jz0, jz1, jz2⟩ := info_parts Try.info48
        refine wpAny_one 20 (by kernel_rfl) (by kernel_rfl) fun o ho => ?_
        refine wp_append_own (P := Try.prog) w0 (.tmp 26) (.tmp 44) 33 (op_of ho (by kernel_rfl)) (w.heap.size + 3) 48 j0 (.agg #[I 0, .slice none 0 0, I 0, .slice none 0 0, .slice none 0 0]) 5 88 Try.underlying33 ji jz0 jz1 jz2 (by rfl) (by decide) u k (flat F G V k) (Eq.trans (b := v 1) (by kernel_rfl) e1) hcm0.outer ⟨bb, 0, none⟩ 1 1
          [I (F k), .slice a0 (L k 0) c0, I (G k), .slice a1 (L k 1) c1, .slice a2 (L k 2) c2] (Eq.trans (b := v 19) (by kernel_rfl) e19) (by simp) (cells5 hbb) (by intro x hx; simp at hx; rcases hx with rfl | rfl | rfl | rfl | rfl <;> rfl) (by unfold maxLen; omega) (by omega) hsz0 ?_
        intro v' w1 ho' hg _
        obtain ⟨va, vc, rfl⟩ := own_shape5 ho'
        have hcm1 := hcm0.step o0 o1 o2 ho' hg
        have hne : ∀ x, u.ownBlock = some x → w.heap.size + 3 ≤ x := fun x hx => (hcm0.outer.lt x hx).1
        have hout1 : w1.heap[w.heap.size + 1 + 1]? = some (Out35 S Y T u) := by
          rw [hg.block _ (by omega) (fun e => by have := hne _ e.symm; omega)]; exact hout0
        have hres1 : w1.heap[w.heap.size + 1]? = some (Out35 0 0 0 (.slice none 0 0)) := by
          rw [hg.block _ (by omega) (fun e => by have := hne _ e.symm; omega)]; exact hres0
        have hkc : ∀ {ad : Addr} {x : Value}, ad.block = w.heap.size → w0.cell? ad = some x → w1.cell? ad = some x := fun {ad x} had h => by
          rw [← h]; exact World.cell?_of_block (hg.block _ (by omega) (fun e => by have := hne _ e.symm; omega))
        have hbx1 : Bx w.heap.size w1 S Y T _ := ⟨hkc rfl hbx0.c0, hkc rfl hbx0.c1, hkc rfl hbx0.c2, hkc rfl hbx0.c3⟩
        have hB4 := hB3.grown hg (by omega) (fun x hx => by have := hne x hx; omega)
        have hsz1 := hg.size
        rw [dst_of ho (by kernel_rfl : _ = some (some 45))]
        refine wpAny_one 21 (by kernel_rfl) (by kernel_rfl) fun o ho => ?_
        refine wp_faddr35 (b := w.heap.size + 1 + 1) (k := 0) (x := .tmp 3) (op_of ho (by kernel_rfl)) (by kernel_rfl) ?_
        rw [dst_of ho (by kernel_rfl : _ = some (some 46))]
        refine wpAny_one 22 (by kernel_rfl) (by kernel_rfl) fun o ho => ?_
        refine wp_store33 (x := .tmp 46) (y := .tmp 45) (ad := ⟨w.heap.size + 1 + 1, 3, none⟩) (old := u) (sa := va) (n := k + 1) (c := vc) (op_of ho (by kernel_rfl)) (by kernel_rfl) (by kernel_rfl) (by simp [World.cell?, hout1]) (by simp [World.frozen?, hout1]) (dst_of ho (by kernel_rfl)) ?_
        refine wpAny_done (by kernel_rfl) ?_ _
        refine q_eq (B := ⟨#[M4 S Y T (Value.slice (some ⟨B, O, none⟩) n cap), .pointer (some ⟨w.heap.size, 0, none⟩), .pointer (some ⟨w.heap.size + 1, 0, none⟩), .pointer (some ⟨w.heap.size + 1 + 1, 0, none⟩), I k, .pointer (some ⟨wr.heap.size, 0, none⟩), .pointer (some ⟨w.heap.size, 0, none⟩), I S, .pointer (some ⟨w.heap.size, 1, none⟩), I Y, .pointer (some ⟨w.heap.size, 2, none⟩), I T, Value.agg #[I S, I Y, I T, Value.slice none 0 0], I k, .pointer (some ⟨w.heap.size, 3, none⟩), .slice (some ⟨B, O, none⟩) n cap, .int .i64 n, .bool true, u18, u19, .pointer (some ⟨w.heap.size, 3, none⟩), .slice (some ⟨B, O, none⟩) n cap, I k, .pointer (some ⟨B, O + k * 5, none⟩), .agg #[I (F k), .slice (A k 0) (L k 0) (C k 0), I (G k), .slice (A k 1) (L k 1) (C k 1), .slice (A k 2) (L k 2) (C k 2)], .pointer (some ⟨w.heap.size + 1 + 1, 3, none⟩), v 1, .pointer (some ⟨wr.heap.size, 0, none⟩), v 3, v 4, .pointer (some ⟨wr.heap.size, 1, none⟩), v 6, v 7, .pointer (some ⟨wr.heap.size, 2, none⟩), v 9, v 10, .pointer (some ⟨wr.heap.size, 3, none⟩), v 12, v 13, v 14, .pointer (some ⟨wr.heap.size, 4, none⟩), v 16, v 17, v 18, v 19, .slice va (k + 1) vc, .pointer (some ⟨w.heap.size + 1 + 1, 3, none⟩), undef], []⟩) (by kernel_rfl) ?_
        have ho2 : ∀ {b : Nat}, b ≠ w.heap.size + 1 + 1 → (w1.setCell ⟨w.heap.size + 1 + 1, 3, none⟩ (.slice va (k + 1) vc)).heap[b]? = w1.heap[b]? := fun {b} hb => Deep.blk_setCell_other _ _ _ _ hb
        have hcm2 : Cm (w.heap.size + 3) (w1.setCell ⟨w.heap.size + 1 + 1, 3, none⟩ (.slice va (k + 1) vc)) _ (k + 1) F G _ L Z := ⟨ownsRow_setCell_below hcm1.outer (show w.heap.size + 1 + 1 < w.heap.size + 3 by omega) _, fun r hr q hq => ownsRow_setCell_below (hcm1.rows r hr q hq) (show w.heap.size + 1 + 1 < w.heap.size + 3 by omega) _⟩
        have hout2 : (w1.setCell ⟨w.heap.size + 1 + 1, 3, none⟩ (.slice va (k + 1) vc)).heap[w.heap.size + 1 + 1]? = some (Out35 S Y T (.slice va (k + 1) vc)) := by
          simp [World.setCell, Array.getElem?_modify, hout1]
        have hres2 : (w1.setCell ⟨w.heap.size + 1 + 1, 3, none⟩ (.slice va (k + 1) vc)).heap[w.heap.size + 1]? = some (Out35 0 0 0 (.slice none 0 0)) := (ho2 (by omega)).trans hres1
        have hkc2 : ∀ {ad : Addr} {x : Value}, ad.block = w.heap.size → w1.cell? ad = some x → (w1.setCell ⟨w.heap.size + 1 + 1, 3, none⟩ (.slice va (k + 1) vc)).cell? ad = some x := fun {ad x} had h => by
          rw [← h]; exact World.cell?_of_block (ho2 (by omega))
        have hbx2 : Bx w.heap.size (w1.setCell ⟨w.heap.size + 1 + 1, 3, none⟩ (.slice va (k + 1) vc)) S Y T (.slice (some ⟨B, O, none⟩) n cap) := ⟨hkc2 rfl hbx1.c0, hkc2 rfl hbx1.c1, hkc2 rfl hbx1.c2, hkc2 rfl hbx1.c3⟩
        have hB5 := hB4.setCell (p := ⟨w.heap.size + 1 + 1, 3, none⟩) (show w.heap.size ≤ w.heap.size + 1 + 1 by omega) (.slice va (k + 1) vc)
        have hsz2 : w.heap.size + 3 ≤ (w1.setCell ⟨w.heap.size + 1 + 1, 3, none⟩ (.slice va (k + 1) vc)).heap.size := by rw [Deep.nblk_setCell]; omega
        have Hcm := Lib.hid hcm2
        have Hout := Lib.hid hout2
        have Hres := Lib.hid hres2
        have Hbx := Lib.hid hbx2
        have HB5 := Lib.hid hB5
        clear hcm2 hout2 hres2 hbx2 hB5 ho2 hkc2 hB4 hbx1 hres1 hout1 hcm1 hsz1 hne hg hkc ho' hcm0 hout0 hres0 hbx0 hB3 hsz0 e1 e19 hbb o0 o1 o2 hC hF
        generalize (w1.setCell ⟨w.heap.size + 1 + 1, 3, none⟩ (.slice va (k + 1) vc)) = w9 at *
        generalize v 1 = v1, v 3 = v3, v 4 = v4, v 6 = v6, v 7 = v7, v 9 = v9, v 10 = v10, v 12 = v12, v 13 = v13, v 14 = v14, v 16 = v16, v 17 = v17, v 18 = v18, v 19 = v19
        go_wp2
        go_roundw
        case rel => exact ⟨k + 1, by omega, ⟨_, _, Hcm, Hout⟩, Hres, Hbx, by go_num, HB5, hsz2⟩
        case measure => simp [intOf]; omega
    · obtain rfl : k = n := by omega
      have hr0 := hres.out
      have hr1 := hout.out
      obtain ⟨va, vc, rfl⟩ := own_shape5 hcm.out.outer
      have s0 : wr.cell? ⟨w.heap.size + 1 + 1, 0, none⟩ = some (I S) := by simp [World.cell?, hr1]
      have s1 : wr.cell? ⟨w.heap.size + 1 + 1, 1, none⟩ = some (I Y) := by simp [World.cell?, hr1]
      have s2 : wr.cell? ⟨w.heap.size + 1 + 1, 2, none⟩ = some (I T) := by simp [World.cell?, hr1]
      have s3 : wr.cell? ⟨w.heap.size + 1 + 1, 3, none⟩ = some (.slice va k vc) := by simp [World.cell?, hr1]
      have t0 : wr.cell? ⟨w.heap.size + 1, 0, none⟩ = some (I 0) := by simp [World.cell?, hr0]
      have t1 : wr.cell? ⟨w.heap.size + 1, 1, none⟩ = some (I 0) := by simp [World.cell?, hr0]
      have t2 : wr.cell? ⟨w.heap.size + 1, 2, none⟩ = some (I 0) := by simp [World.cell?, hr0]
      have t3 : wr.cell? ⟨w.heap.size + 1, 3, none⟩ = some (.slice none 0 0) := by simp [World.cell?, hr0]
      have f0 : wr.frozen? ⟨w.heap.size + 1, 0, none⟩ = false := by simp [World.frozen?, hr0]
      have f1 : wr.frozen? ⟨w.heap.size + 1, 1, none⟩ = false := by simp [World.frozen?, hr0]
      have f2 : wr.frozen? ⟨w.heap.size + 1, 2, none⟩ = false := by simp [World.frozen?, hr0]
      have f3 : wr.frozen? ⟨w.heap.size + 1, 3, none⟩ = false := by simp [World.frozen?, hr0]
      have Hr0 := Lib.hid hr0
      clear hr0 hr1 hout hres
      go_wp2
      obtain ⟨w2, hw2⟩ : ∃ w2, w2 = ((((wr.setCell ⟨w.heap.size + 1, 0, none⟩ (I S)).setCell ⟨w.heap.size + 1, 1, none⟩ (I Y)).setCell ⟨w.heap.size + 1, 2, none⟩ (I T)).setCell ⟨w.heap.size + 1, 3, none⟩ (.slice va k vc)) := ⟨_, rfl⟩
      have hblk : w2.heap[w.heap.size + 1]? = some (.cells #[I S, I Y, I T, .slice va k vc] 35 (0, 0)) := by
        rw [hw2]
        simp [World.setCell, Array.getElem?_modify, Hr0.out]
      have hoth : ∀ {b : Nat}, b ≠ w.heap.size + 1 → w2.heap[b]? = wr.heap[b]? := fun {b} hb => by
        rw [hw2, Deep.blk_setCell_other _ _ _ _ hb, Deep.blk_setCell_other _ _ _ _ hb, Deep.blk_setCell_other _ _ _ _ hb, Deep.blk_setCell_other _ _ _ _ hb]
      have hB2 : Below w.heap.size w w2 := by
        rw [hw2]
        exact (((hB.out.setCell (p := ⟨w.heap.size + 1, 0, none⟩) (show w.heap.size ≤ w.heap.size + 1 by omega) _).setCell (p := ⟨w.heap.size + 1, 1, none⟩) (show w.heap.size ≤ w.heap.size + 1 by omega) _).setCell (p := ⟨w.heap.size + 1, 2, none⟩) (show w.heap.size ≤ w.heap.size + 1 by omega) _).setCell (p := ⟨w.heap.size + 1, 3, none⟩) (show w.heap.size ≤ w.heap.size + 1 by omega) _
      have hmg2 : ∃ A C, Mg w2 (.slice va k vc) k F G A L C Z := by
        have hcm2 : Cm (w.heap.size + 3) w2 (.slice va k vc) k F G V L Z := by
          have hlt : ∀ {e s n : Nat} {v : Value} {xs : List Value}, wr.ownsRow (w.heap.size + 3) e s v n xs → w2.ownsRow (w.heap.size + 3) e s v n xs := fun {e s n v xs} h => by
            rw [hw2]
            exact ownsRow_setCell_below (ownsRow_setCell_below (ownsRow_setCell_below (ownsRow_setCell_below h (show w.heap.size + 1 < w.heap.size + 3 by omega) _) (show w.heap.size + 1 < w.heap.size + 3 by omega) _) (show w.heap.size + 1 < w.heap.size + 3 by omega) _) (show w.heap.size + 1 < w.heap.size + 3 by omega) _
          exact ⟨hlt hcm.out.outer, fun r hr q hq => hlt (hcm.out.rows r hr q hq)⟩
        exact hcm2.mg (by omega) (fun r hr q hq => by have := HL.out r hr q hq; omega)
      rw [← hw2]
      obtain ⟨A', C', hmg'⟩ := hmg2
      refine bodyPost_ret (results_cell_row (by rfl) _ _ (w.heap.size + 1) 35 #[I S, I Y, I T, .slice va k vc] (0, 0) _ (by rfl) hblk Try.underlying35 (by rfl) (by kernel_rfl)) rfl ?_
      exact ⟨_, A', C', rfl, hmg', hB2⟩

end Go.Proofs.Ytjahkdomofhfgaa
