/- The reference's distance: the sets of predecessors, the sizes of sets, and the search. -/
import Derived.Test.YtihpdmchppcbfaaTg
import Derived.Laws.BitsLemmas
namespace Go.Proofs.Ytihpdmchppcbfaa
open Go.RowKit
set_option linter.unusedVariables false
set_option linter.unusedSimpArgs false

theorem i64_small (n : Int) (h0 : 0 ≤ n) (h1 : n < 2 ^ 62) : IntKind.i64.wrap n = n := by
  have e : (2 : Int) ^ 62 = 4611686018427387904 := by decide
  rw [e] at h1
  exact IntWalk.i64_in _ (by omega)
theorem s62 {x : Nat} (h : x < 16384) : x < 2 ^ 62 := Nat.lt_of_lt_of_le h (by decide)
theorem w2i (p : Nat) (h : p < 15) : wrap64 ((2 : Int) ^ p) = ((2 ^ p : Nat) : Int) := by
  have : ∀ c : Fin 15, wrap64 ((2 : Int) ^ c.val) = ((2 ^ c.val : Nat) : Int) := by decide +kernel
  exact this ⟨p, h⟩
theorem or_stepI {x p : Nat} (hx : x < 16384) (hp : p < 14) : bits BinOp.or IntKind.i64 (x : Int) (wrap64 ((2 : Int) ^ p)) = ((x ||| 2 ^ p : Nat) : Int) := by
  rw [w2i p (by omega)]
  exact (bits_nat .i64 62 (by decide) i64_small x (2 ^ p) (s62 hx) (s62 (two_lt hp))).2
theorem and_natI {x y : Nat} (hx : x < 16384) (hy : y < 16384) : bits BinOp.and IntKind.i64 (x : Int) (y : Int) = ((x &&& y : Nat) : Int) := (bits_nat .i64 62 (by decide) i64_small x y (s62 hx) (s62 hy)).1
theorem bits_xorI (k : IntKind) (j : Nat) (hj : j ≤ k.bits) (hk : ∀ n : Int, 0 ≤ n → n < 2 ^ j → k.wrap n = n) (a b : Nat) (ha : a < 2 ^ j) (hb : b < 2 ^ j) : bits .xor k a b = ((a ^^^ b : Nat) : Int) := by
  have hp : 2 ^ j ≤ 2 ^ k.bits := Nat.pow_le_pow_right (by decide) hj
  have ha' : a % 2 ^ k.bits = a := Nat.mod_eq_of_lt (Nat.lt_of_lt_of_le ha hp)
  have hb' : b % 2 ^ k.bits = b := Nat.mod_eq_of_lt (Nat.lt_of_lt_of_le hb hp)
  simp only [bits, BitVec.ofInt_natCast, BitVec.toNat_xor, BitVec.toNat_ofNat, ha', hb']
  exact hk _ (Int.natCast_nonneg _) (by exact_mod_cast Nat.xor_lt_two_pow ha hb)
theorem xor_stepI {x p : Nat} (hx : x < 16384) (hp : p < 14) : bits BinOp.xor IntKind.i64 (x : Int) (wrap64 ((2 : Int) ^ p)) = ((x ^^^ 2 ^ p : Nat) : Int) := by
  rw [w2i p (by omega)]
  exact bits_xorI .i64 62 (by decide) i64_small x (2 ^ p) (s62 hx) (s62 (two_lt hp))
theorem put_at {x : Nat} (hx : x < 16384) (u : Nat) : (bits BinOp.and IntKind.i64 ((x : Int) / 2 ^ u) 1 == 0) = !x.testBit u := by
  have e : (x : Int) / 2 ^ u = ((x / 2 ^ u : Nat) : Int) := by norm_cast
  have h1 : x / 2 ^ u < 16384 := Nat.lt_of_le_of_lt (Nat.div_le_self _ _) hx
  rw [e, show (1 : Int) = ((1 : Nat) : Int) from rfl, and_natI h1 (by decide), Nat.and_one_is_mod, Nat.testBit_eq_decide_div_mod_eq]
  rw [Bool.eq_iff_iff, beq_iff_eq, Bool.not_eq_true', decide_eq_false_iff_not]
  omega
theorem one_at {x : Nat} (hx : x < 16384) : bits BinOp.and IntKind.i64 (x : Int) 1 = ((x % 2 : Nat) : Int) := by
  rw [show (1 : Int) = ((1 : Nat) : Int) from rfl, and_natI hx (by decide), Nat.and_one_is_mod]

/-- the append to a queue of the call's own -/
theorem wpList_append_qi {w : World} {ops : Array Oper} {rest : List Oper} {o : Oper} {a : Act} {Q : Exit → Act → World → Prop} (hg : o.guard = none) (s x : Operand) (hop : o.op = Op.call { callee := Callee.builtin Builtin.append, args := #[s, x], argTypes := #[56, 56] })
    {B t : Nat} {v : Value} {xs : List Nat} {ad : Addr} (hs : a.eval s = v) (hq : w.ownsRow B 3 1 v xs.length (xs.map fun y => I (y : Nat))) (hB : B ≤ w.heap.size) (hx : a.eval x = .slice (some ad) 1 1) (hc : ∀ j u, [I (t : Nat)][j]? = some u → w.cell? (ad.add j) = some u) (hn : xs.length ≤ 2 ^ 40)
    (hK : ∀ v' w', w'.ownsRow B 3 1 v' (xs.length + 1) ((xs ++ [t]).map fun y => I (y : Nat)) → Below B w w' → wpList Try.prog ops Q rest (a.put o.dst v') w') : wpList Try.prog ops Q (o :: rest) a w := by
  obtain ⟨i0, hi, hz0, hz1, hz2⟩ := info_parts Try.info3
  refine wpList_append_own w hg s x 56 hop B 3 i0 _ 1 8 Try.underlying56 hi hz0 hz1 hz2 rfl (by decide) v xs.length _ hs hq ad 1 1 [I (t : Nat)] hx rfl hc (fun u hu => by simp at hu; subst hu; rfl) (by unfold maxLen; omega) (by omega) hB (fun v' w' ho hgr _ => ?_)
  refine hK v' w' ?_ ⟨hgr.os, hgr.tape, hgr.output, hgr.size, fun k hk => hgr.block k (by omega) (fun e => ?_)⟩
  · rw [List.map_append]; exact ho
  · have := (hq.lt k e.symm).1
    omega
theorem own_qi {w : World} {B n : Nat} {v : Value} {xs : List Nat} (h : w.ownsRow B 3 1 v n (xs.map fun y => I (y : Nat))) (h0 : 0 < n) : ∃ g cap, v = .slice (some ⟨g, 0, none⟩) n cap ∧ ∀ i s : Nat, xs[i]? = some s → w.cell? ⟨g, i, none⟩ = some (I s) := by
  rcases h.2 with ⟨_, h1⟩ | ⟨g, cap, cur, h1, h2, h3, h4, h5, h6, h7⟩
  · omega
  · refine ⟨g, cap, h1, fun i s hs => ?_⟩
    have := h.cells (g := g) (by rw [h1]; rfl) i (I s) (by simp [hs])
    rw [add_z] at this
    exact this

theorem own_far {w w' : World} {B e sz n : Nat} {v : Value} {xs : List Value} (h : w.ownsRow B e sz v n xs) (hb : ∀ k, B ≤ k → w'.heap[k]? = w.heap[k]?) : w'.ownsRow B e sz v n xs := by
  refine ⟨h.1, ?_⟩
  rcases h.2 with h1 | ⟨g, cap, cur, h1, h2, h3, h4⟩
  · exact .inl h1
  · exact .inr ⟨g, cap, cur, h1, h2, (hb g h2).trans h3, h4⟩
theorem own_set {w : World} {B e sz n : Nat} {v : Value} {xs : List Value} (h : w.ownsRow B e sz v n xs) {p : Addr} (hp : p.block < B) (u : Value) (m : Nat) : ((w.drewN m).setCell p u).ownsRow B e sz v n xs :=
  own_far h fun k hk => by rw [Deep.blk_setCell_other _ _ _ _ (by omega)]; rfl

def DTold (E : Nat → Nat → Prop) (goal : Nat) (r : Int) : Prop := (∃ m : Nat, r = m ∧ Rch E m goal ∧ ∀ m', Rch E m' goal → m ≤ m') ∨ (r = -1 ∧ ∀ m, ¬ Rch E m goal)
def Dst (E : Nat → Nat → Prop) (n : Nat) (w : World) (e : Ending) (w' : World) : Prop := ∃ r : Int, DTold E (2 ^ (n - 1)) r ∧ e = .returned (I r) ∧ Below w.heap.size w w'

set_option maxHeartbeats 40000000 in
set_option maxRecDepth 100000 in
theorem dist_any {w : World} {v : Value} {n : Nat} {A : Nat → Option Addr} {L C : Nat → Nat} {Z : Nat → Nat → Int} (hd : Dg w v n A L C Z) (hr : okDag n L Z) (h14 : n ≤ 14) (k : Int) (rev : Bool) : Calls Try.prog 13 #[v, I k, .bool rev] w (Dst (Ed n (fun v => nd (Z v) (L v)) k rev) n w) := by
  obtain ⟨a, cap, rfl, h2, h3, h4, h5⟩ := hd.top
  obtain ⟨hn1, hn2, Hr⟩ := hr
  rcases a with _ | b
  · have := h4 rfl; omega
  have HR := Lib.hid Hr
  clear Hr
  have Hd := Lib.hid hd
  clear h4 h5 hd
  have hmk := run_make_row' (P := Try.prog) 56 3 (.int .i64 0) 8 Try.underlying56 Try.info3 rfl .i64 .i64 n (by omega) (by omega)
  go_enter Try.func13, Try.ntmps13
  go_upto_block 0 with fail
  obtain ⟨W, hW⟩ : ∃ W, W = w.alloc (Obj.cells (madeCells #[Value.int IntKind.i64 0] n) 3) := ⟨_, rfl⟩
  have hnw : Nw w W 3 n w.heap.size (fun _ => I 0) := by rw [hW]; exact ⟨Nat.le_refl _, World.rowIs_made w _ n 3⟩
  have hBW : Below w.heap.size w W := by rw [hW]; exact (Below.refl _ _).alloc (Nat.le_refl _) _
  rw [← hW]
  have HNW := Lib.hid hnw
  have HBW := Lib.hid hBW
  clear hnw hBW hW hmk
  go_cut [8] from 9 (fun x wr => x = .slice (some ⟨w.heap.size, 0, none⟩) n n ∧ Hid (Nw w wr 3 n w.heap.size (fun v => I (nd (Z v) (L v) : Nat))) ∧ Hid (Below w.heap.size w wr))
  case first =>
    go_wp2
    go_loopw [9, 10] (fun x _ wr => ∃ q : Nat, q ≤ n ∧ Hid (Nw w wr 3 n w.heap.size (fun v => if v < q then I (nd (Z v) (L v) : Nat) else I 0)) ∧ x = I q ∧ Hid (Below w.heap.size w wr)) (fun x _ _ => n - (intOf x).toNat)
    case atStart => exact ⟨0, by omega, Lib.hid (HNW.out.congr fun u hu => by simp), rfl, HBW⟩
    case round =>
      clear HNW HBW
      obtain ⟨q, hq, hx, rfl, hB⟩ := hrel
      by_cases hqn : q < n
      · have hl2 := (Hd.out.row q hqn).2.1
        go_wp2
        go_loopw [10] (fun x wr => ∃ i : Nat, i ≤ L q ∧ Hid (Nw w wr 3 n w.heap.size (fun v => if v < q then I (nd (Z v) (L v) : Nat) else if v = q then I (nd (Z q) i : Nat) else I 0)) ∧ x = I i ∧ Hid (Below w.heap.size w wr)) (fun x _ => L q - (intOf x).toNat)
        case atStart => exact ⟨0, by omega, Lib.hid (hx.out.congr fun u hu => by
          by_cases e : u < q
          · simp [e]
          · by_cases e2 : u = q
            · simp [e2, nd]
            · simp [e, e2]), rfl, hB⟩
        case round =>
          clear hB hx
          obtain ⟨i, hi, hx, rfl, hB⟩ := hrel
          have hd := Lib.hid (Hd.out.keep hB.out)
          have hck := hd.out.outer hqn
          by_cases hi' : i < L q
          · obtain ⟨e, hA⟩ := hd.out.some hqn hi'
            have hz := hd.out.elem hqn hi' hA
            rw [hA] at hck
            obtain ⟨p, hp⟩ : ∃ p : Nat, Z q i = p := ⟨(Z q i).toNat, by have := (HR.out q hqn i hi').1; omega⟩
            have hpq : p < q := by have := (HR.out q hqn i hi').2.1; omega
            rw [hp] at hz
            have c1 := hx.out.cell hqn
            have f1 := hx.out.frozen q
            simp only [Nat.lt_irrefl, if_false, if_true] at c1
            have hlt : nd (Z q) i < 2 ^ 14 := Nat.lt_of_lt_of_le (nd_lt (n := q) i fun j hj => by have := HR.out q hqn j (by omega); unfold okAt at this; omega) (Nat.pow_le_pow_right (by omega) (by omega))
            generalize hnd : nd (Z q) i = x at *
            have Hnd := Lib.hid hnd
            have Hp := Lib.hid hp
            have HA' := Lib.hid hA
            clear hnd hp hA
            go_upto_region 9 with fail
            go_region
            rw [or_stepI hlt (by omega)]
            have Nx : Nw w (wr.setCell ⟨w.heap.size, q, none⟩ (I (x ||| 2 ^ p : Nat))).drew 3 n w.heap.size (fun v => if v < q then I (nd (Z v) (L v) : Nat) else if v = q then I (nd (Z q) (i + 1) : Nat) else I 0) :=
              (hx.out.set q _ fun u => by
                by_cases e : u = q
                · subst e
                  simp [nd, Hnd.out, Hp.out]
                · simp [e]).drew 1
            have NB : Below w.heap.size w (wr.setCell ⟨w.heap.size, q, none⟩ (I (x ||| 2 ^ p : Nat))).drew := (hB.out.setCell (p := ⟨w.heap.size, q, none⟩) (Nat.le_refl _) _).drew
            have NX := Lib.hid Nx
            have NBB := Lib.hid NB
            clear Nx NB hd hz c1 f1 hx hck
            generalize (wr.setCell ⟨w.heap.size, q, none⟩ (I (x ||| 2 ^ p : Nat))).drew = w9 at *
            generalize (((x ||| 2 ^ p : Nat) : Int)) = y9 at *
            go_wp2
            go_roundw
            case rel => exact ⟨i + 1, by omega, NX, by go_num, NBB⟩
            case measure => simp [intOf]; omega
          · obtain rfl : i = L q := by omega
            go_wp2
            go_roundw
            case rel => exact ⟨q + 1, by omega, Lib.hid (hx.out.congr fun u hu => by
              by_cases e : u < q
              · simp [e, show u < q + 1 by omega]
              · by_cases e2 : u = q
                · simp [e2]
                · simp [e, e2, show ¬ u < q + 1 by omega]), by go_num, hB⟩
            case measure => simp [intOf]; omega
      · obtain rfl : q = n := by omega
        go_wp2
        go_meet
        exact ⟨rfl, Lib.hid (hx.out.congr fun u hu => by simp [hu]), hB⟩
  case rest =>
    obtain ⟨rfl, hnd, hB⟩ := hcut
    obtain ⟨N, hN⟩ : ∃ N : Nat, N = 2 ^ n := ⟨_, rfl⟩
    have hN14 : N ≤ 16384 := by rw [hN]; exact Nat.pow_le_pow_right (by omega) h14
    have hNp : 1 ≤ N := by rw [hN]; exact Nat.one_le_two_pow
    have hw := w2i n (by omega)
    rw [← hN] at hw
    have hmk := run_make_row' (P := Try.prog) 56 3 (.int .i64 0) 8 Try.underlying56 Try.info3 rfl .i64 .i64 N (by omega) (by omega)
    have HN := Lib.hid hN
    clear hN
    go_upto_block 4 with fail
    obtain ⟨b1, hb1⟩ : ∃ b1, b1 = wc.heap.size := ⟨_, rfl⟩
    obtain ⟨W2, hW2⟩ : ∃ W2, W2 = (wc.alloc (.cells (madeCells #[Value.int IntKind.i64 0] N) 3)).alloc (.cells (madeCells #[Value.int IntKind.i64 0] N) 3) := ⟨_, rfl⟩
    have hfr : Nw w W2 3 N b1 (fun _ => I 0) := by
      rw [hW2, hb1]
      have h1 : Nw w (wc.alloc (.cells (madeCells #[Value.int IntKind.i64 0] N) 3)) 3 N wc.heap.size (fun _ => I 0) := ⟨hB.out.size, World.rowIs_made wc _ N 3⟩
      exact h1.alloc _
    have hsz : Nw w W2 3 N (b1 + 1) (fun _ => I 0) := by
      rw [hW2, hb1]
      have h1 := World.rowIs_made (wc.alloc (.cells (madeCells #[Value.int IntKind.i64 0] N) 3)) (Value.int IntKind.i64 0) N 3
      rw [World.size_alloc] at h1
      exact ⟨Nat.le_succ_of_le hB.out.size, h1⟩
    have hnd2 : Nw w W2 3 n w.heap.size (fun v => I (nd (Z v) (L v) : Nat)) := by rw [hW2]; exact (hnd.out.alloc _).alloc _
    have hB2 : Below w.heap.size w W2 := by rw [hW2]; exact (hB.out.alloc hB.out.size _).alloc (by rw [World.size_alloc]; exact Nat.le_succ_of_le hB.out.size) _
    have hne : w.heap.size < b1 := by rw [hb1]; exact hnd.out.lt
    have e1 : (wc.alloc (.cells (madeCells #[Value.int IntKind.i64 0] N) 3)).heap.size = b1 + 1 := by rw [hb1]; simp
    rw [← hW2, ← hb1]
    have HFR := Lib.hid hfr
    have HSZ := Lib.hid hsz
    have HND := Lib.hid hnd2
    have HB2 := Lib.hid hB2
    clear hfr hsz hnd2 hB2 hb1 hW2 hnd hB hmk hw e1
    go_cut [13] from 14 (fun x wr => Hid (Nw w wr 3 N b1 (fun t => if t = 0 then I 0 else I (-1))) ∧ Hid (Nw w wr 3 N (b1 + 1) (fun t => I (pc t))) ∧ Hid (Nw w wr 3 n w.heap.size (fun v => I (nd (Z v) (L v) : Nat))) ∧ Hid (Below w.heap.size w wr))
    case first =>
      go_wp2
      go_loopw [13] (fun x wr => ∃ s : Nat, 1 ≤ s ∧ s ≤ N ∧ Hid (Nw w wr 3 N b1 (fun t => if t = 0 then I 0 else if t < s then I (-1) else I 0)) ∧ Hid (Nw w wr 3 N (b1 + 1) (fun t => if t < s then I (pc t) else I 0)) ∧ Hid (Nw w wr 3 n w.heap.size (fun v => I (nd (Z v) (L v) : Nat))) ∧ x = I s ∧ Hid (Below w.heap.size w wr)) (fun x _ => N - (intOf x).toNat)
      case atStart => exact ⟨1, by omega, hNp, Lib.hid (HFR.out.congr fun u hu => by
        by_cases e : u = 0
        · simp [e]
        · simp [e, show ¬ u < 1 by omega]), Lib.hid (HSZ.out.congr fun u hu => by
        by_cases e : u = 0
        · simp [e, pc, pcF_zero]
        · simp [show ¬ u < 1 by omega]), HND, rfl, HB2⟩
      case round =>
        clear HFR HSZ HND HB2
        obtain ⟨s, hs1, hsN, hfr, hsz, hnd, rfl, hB⟩ := hrel
        by_cases hlt : s < N
        · have c1 := hfr.out.cell hlt
          have f1 := hfr.out.frozen s
          have c2 := (hsz.out.other (c := b1) (by omega) s (I (-1))).cell (u := s / 2) (by omega)
          have f2 := (hsz.out.other (c := b1) (by omega) s (I (-1))).frozen s
          simp only [show s / 2 < s by omega, if_true] at c2
          have c3 := (hsz.out.other (c := b1) (by omega) s (I (-1))).cell (u := s) hlt
          have hp := pc_half (s := s) (by omega)
          have hpl : pc (s / 2) ≤ 14 := pc_le (n := 14) (by omega) (Nat.lt_of_lt_of_le (m := 16384) (by omega) (by decide))
          have hps : pc s ≤ 14 := pc_le (n := 14) (by omega) (Nat.lt_of_lt_of_le (m := 16384) (by omega) (by decide))
          have e1 := one_at (x := s) (by omega)
          have e2 : (s : Int) / 2 = ((s / 2 : Nat) : Int) := by omega
          have e3 : ((pc (s / 2) : Nat) : Int) + ((s % 2 : Nat) : Int) = (pc s : Int) := by omega
          generalize hh : s / 2 = h at *
          have HH := Lib.hid hh
          have hhN : h < N := by omega
          clear hh hp
          generalize s % 2 = m2 at *
          go_wp2
          go_roundw
          case rel => exact ⟨s + 1, by omega, by omega, Lib.hid ((hfr.out.set s (I (-1)) (g := fun t => if t = 0 then I 0 else if t < s + 1 then I (-1) else I 0) (fun u => by
            by_cases e : u = s
            · subst e
              simp [show ¬ u = 0 by omega]
            · by_cases e2 : u < s
              · simp [e, e2, show u < s + 1 by omega]
              · simp [e, e2, show ¬ u < s + 1 by omega])).other (by omega) s _), Lib.hid ((hsz.out.other (c := b1) (by omega) s (I (-1))).set s _ (fun u => by
            by_cases e : u = s
            · subst e
              simp
            · by_cases e2 : u < s
              · simp [e, e2, show u < s + 1 by omega]
              · simp [e, e2, show ¬ u < s + 1 by omega])), Lib.hid ((hnd.out.other (by omega) s _).other (by omega) s _), by go_num, Lib.hid ((hB.out.setCell (p := ⟨b1, s, none⟩) hfr.out.new _).setCell (p := ⟨b1 + 1, s, none⟩) hsz.out.new _)⟩
          case measure => simp [intOf]; omega
        · obtain rfl : s = N := by omega
          go_wp2
          go_meet
          exact ⟨Lib.hid (hfr.out.congr fun u hu => by simp [hu]), Lib.hid (hsz.out.congr fun u hu => by simp [hu]), hnd, hB⟩
    case rest =>
      clear HFR HSZ HND HB2
      obtain ⟨hfr, hsz, hnd, hB⟩ := hcut
      have hfrl := hsz.out.lt
      go_upto_block 6 with fail
      obtain ⟨W3, hW3⟩ : ∃ W3, W3 = wc.alloc (.cells #[I 0] 3) := ⟨_, rfl⟩
      have hfr3 : Nw w W3 3 N b1 (fun t => I (if t = 0 then (0 : Int) else -1)) := by
        rw [hW3]
        exact (hfr.out.alloc _).congr fun u hu => by by_cases e : u = 0 <;> simp [e]
      have hsz3 : Nw w W3 3 N (b1 + 1) (fun t => I (pc t)) := by rw [hW3]; exact hsz.out.alloc _
      have hnd3 : Nw w W3 3 n w.heap.size (fun v => I (nd (Z v) (L v) : Nat)) := by rw [hW3]; exact hnd.out.alloc _
      have hB3 : Below w.heap.size w W3 := by rw [hW3]; exact hB.out.alloc hB.out.size _
      have hq3 : W3.ownsRow (b1 + 2) 3 1 (.slice (some ⟨wc.heap.size, 0, none⟩) 1 1) ([0] : List Nat).length (([0] : List Nat).map fun y => I (y : Nat)) := by
        rw [hW3]
        exact World.ownsRow_lit (base := b1 + 2) (e := 3) (size := 1) wc #[I 0] 1 (by omega) (by decide) rfl
      have hs3 : b1 + 2 ≤ W3.heap.size := by rw [hW3]; simp; omega
      rw [← hW3]
      generalize wc.heap.size = g0 at hq3 ⊢
      have HFR := Lib.hid hfr3
      have HSZ := Lib.hid hsz3
      have HND := Lib.hid hnd3
      have HB3 := Lib.hid hB3
      have HQ3 := Lib.hid hq3
      clear hfr3 hsz3 hnd3 hB3 hq3 hW3 hfr hsz hnd hB hfrl hs3
      go_cut [14] from 15 (fun x wr => ∃ Q dep dp, Hid (Bfs (Ed n (fun v => nd (Z v) (L v)) k rev) Q Q.length dep (fun _ => False)) ∧ Hid (Dp n Q dep dp) ∧ Hid (Nw w wr 3 N b1 (fun t => I (dp t))) ∧ Hid (Below w.heap.size w wr))
      case first =>
        go_wp2
        go_loopg [14, 15, 16, 17, 18, 19] N (fun g x y _ _ _ _ wr => ∃ Q h dep dp, g = N - h ∧ y = I (h : Nat) ∧ h ≤ Q.length ∧ Hid (Bfs (Ed n (fun v => nd (Z v) (L v)) k rev) Q h dep (fun _ => False)) ∧ Hid (Dp n Q dep dp) ∧ Hid (∀ x, x ∈ Q → dep x < Q.length) ∧ Hid (wr.ownsRow (b1 + 2) 3 1 x Q.length (Q.map fun y => I (y : Nat))) ∧ Hid (Nw w wr 3 N b1 (fun t => I (dp t))) ∧ Hid (Nw w wr 3 N (b1 + 1) (fun t => I (pc t))) ∧ Hid (Nw w wr 3 n w.heap.size (fun v => I (nd (Z v) (L v) : Nat))) ∧ Hid (Below w.heap.size w wr))
        case atStart => exact ⟨[0], 0, _, _, by omega, rfl, by simp, Lib.hid (Bfs.start _), Lib.hid (Dp.start n), Lib.hid (fun x _ => by simp), HQ3, HFR, HSZ, HND, HB3⟩
        case round =>
          clear HFR HSZ HND HB3 HQ3
          obtain ⟨Q, h, dep, dp, hg, rfl, hhQ, hbf, hdp, hdl, hq, hfr, hsz, hnd, hB⟩ := hrel
          have hQi : Q.length ≤ N := nodup_len hbf.out.nodup (fun x hx => by rw [HN.out]; exact hdp.out.lt x hx)
          have hQ1 : 0 < Q.length := by
            have := hbf.out.root.1
            cases Q with
            | nil => simp at this
            | cons y l => simp
          obtain ⟨qg, qc, rfl, hqc⟩ := own_qi hq.out hQ1
          by_cases hh : h < Q.length
          · obtain ⟨s, hs⟩ : ∃ s, Q[h]? = some s := ⟨Q[h], List.getElem?_eq_getElem hh⟩
            have cq := hqc h s hs
            have hsN : s < N := by rw [HN.out]; exact hdp.out.lt s (List.mem_of_getElem? hs)
            have Hs := Lib.hid hs
            have hhN : h < N := by omega
            clear hs hqc
            have HHQ := Lib.hid hhQ
            have HQI := Lib.hid hQi
            have HQ1 := Lib.hid hQ1
            have hqb := hq.out
            have HQB := Lib.hid hqb
            generalize hql : Q.length = ql at *
            have HQL := Lib.hid hql
            clear hql hqb hhQ
            go_wp2
            go_loopw [14, 17, 18, 19] (fun y x _ _ wi => ∃ v Q' dep' dp', v ≤ n ∧ Hid (Bfs (Ed n (fun v => nd (Z v) (L v)) k rev) Q' h dep' (fun t => ∃ u, u < v ∧ t = s ^^^ 2 ^ u)) ∧ Hid (Q'[h]? = some s) ∧ Hid (Dp n Q' dep' dp') ∧ Hid (∀ x, x ∈ Q' → dep' x < Q'.length) ∧ Hid (wi.ownsRow (b1 + 2) 3 1 y Q'.length (Q'.map fun y => I (y : Nat))) ∧ Hid (Nw w wi 3 N b1 (fun t => I (dp' t))) ∧ Hid (Nw w wi 3 N (b1 + 1) (fun t => I (pc t))) ∧ Hid (Nw w wi 3 n w.heap.size (fun v => I (nd (Z v) (L v) : Nat))) ∧ Hid (Below w.heap.size w wi) ∧ x = I (v : Nat)) (fun _ x _ _ _ => n - (intOf x).toNat)
            case atStart => exact ⟨0, Q, dep, dp, by omega, Lib.hid (Bfs.some_of (b := hbf.out) (fun t ht => by obtain ⟨u, hu, _⟩ := ht; omega)), Hs, hdp, Lib.hid (by rw [HQL.out]; exact hdl.out), Lib.hid (by rw [HQL.out]; exact HQB.out), hfr, hsz, hnd, hB, rfl⟩
            case round =>
              clear hbf hdp hdl hq hfr hsz hnd hB Hs HHQ HQI HQ1 HQB HQL hQi hQ1 cq hh
              obtain ⟨v, Q', dep', dp', hv, hbf, Hs, hdp, hdl, hq, hfr, hsz, hnd, hB, rfl⟩ := hrel
              by_cases hvn : v < n
              · have hlt14 : ∀ j, j < L v → (Z v j).toNat < 14 := fun j hj => by have := HR.out v hvn j hj; unfold okAt at this; omega
                have hnl : nd (Z v) (L v) < 16384 := nd_lt (n := 14) (L v) hlt14
                have hs14 : s < 16384 := by omega
                obtain ⟨t, ht⟩ : ∃ t, t = s ^^^ 2 ^ v := ⟨_, rfl⟩
                have htN : t < N := by rw [ht, HN.out]; exact xor_lt (by rw [← HN.out]; exact hsN) hvn
                have hxr := xor_stepI hs14 (p := v) (by omega)
                rw [← ht] at hxr
                have hput := put_at hs14 v
                obtain ⟨bv, hbv⟩ : ∃ bv, bv = !s.testBit v := ⟨_, rfl⟩
                rw [← hbv] at hput
                have HST : Hid (s < t ↔ bv = true) := Lib.hid (by rw [ht, hbv, lt_xor_iff s v]; simp)
                have cn := hnd.out.cell hvn
                have ct := hfr.out.cell htN
                have cs := hsz.out.cell htN
                have han := and_natI hs14 hnl
                have HED : Hid (∀ t', t' = t → (Ed n (fun v => nd (Z v) (L v)) k rev) s t' → ((s < t ∨ rev = true) → s &&& nd (Z v) (L v) = nd (Z v) (L v)) ∧ (pc t : Int) ≤ k) := Lib.hid (fun t' e hE => by
                  obtain ⟨u, h1, h2, h3, h4⟩ := hE
                  rw [e] at h2 h3 h4
                  obtain rfl : u = v := by rw [ht] at h2; exact (xor_inj h2).symm
                  exact ⟨h3, h4⟩)
                have HV : Hid (0 ≤ dp' t ↔ t ∈ Q') := Lib.hid ⟨fun h0 => by
                  by_cases hm : t ∈ Q'
                  · exact hm
                  · have := hdp.out.out t (by rw [← HN.out]; exact htN) hm; omega, fun hm => by have := hdp.out.isin t hm; omega⟩
                have Ht := Lib.hid ht
                have Hbv := Lib.hid hbv
                generalize hnv : nd (Z v) (L v) = nv at *
                have Hnv := Lib.hid hnv
                clear ht hlt14 hnv hbv
                generalize hft : dp' t = ft at *
                have Hft := Lib.hid hft
                clear hft
                go_upto_region 27 with fail
                clear hput hxr
                go_cut [136] from 105 to 148 (fun x wi => ∃ r : Bool, x = .bool r ∧ Hid (r = true → t ∈ Q' ∨ ¬ (Ed n (fun v => nd (Z v) (L v)) k rev) s t) ∧ Hid (r = false → t ∉ Q' ∧ (Ed n (fun v => nd (Z v) (L v)) k rev) s t) ∧ ∃ m, wi = wr.drewN m)
                case first =>
                  have HK : Hid (¬ (pc t : Int) ≤ k → ¬ (Ed n (fun v => nd (Z v) (L v)) k rev) s t) := Lib.hid (fun h hE => h (HED.out t rfl hE).2)
                  by_cases d1 : 0 ≤ ft
                  · have hd1 : decide (0 ≤ ft) = true := decide_eq_true d1
                    have HIN : Hid (t ∈ Q') := Lib.hid (HV.out.1 d1)
                    clear HED HST HV HK
                    go_quiet (fail)
                    go_wp2_with fail
                    go_meet
                    exact ⟨_, rfl, Lib.hid (fun _ => .inl HIN.out), Lib.hid (fun h => by cases h), _, rfl⟩
                  · have hd1 : decide (0 ≤ ft) = false := decide_eq_false d1
                    have hnQ : Hid (t ∉ Q') := Lib.hid (fun hm => d1 (HV.out.2 hm))
                    clear HV
                    by_cases d4 : k < (pc t : Int)
                    · have hd4 : decide (k < (pc t : Int)) = true := decide_eq_true d4
                      have HNE : Hid (¬ (Ed n (fun v => nd (Z v) (L v)) k rev) s t) := Lib.hid (HK.out (by omega))
                      clear HED HST HK
                      go_quiet (fail)
                      go_wp2_with fail
                      go_meet
                      exact ⟨_, rfl, Lib.hid (fun _ => .inr HNE.out), Lib.hid (fun h => by cases h), _, rfl⟩
                    · have hd4 : decide (k < (pc t : Int)) = false := decide_eq_false d4
                      have hk4 : (pc t : Int) ≤ k := by omega
                      have HK4 := Lib.hid hk4
                      clear HK hk4
                      cases bv with
                      | true =>
                        have HNE : Hid (¬ s &&& nv = nv → ¬ (Ed n (fun v => nd (Z v) (L v)) k rev) s t) := Lib.hid (fun h hE => h ((HED.out t rfl hE).1 (.inl (HST.out.2 rfl))))
                        clear HED HST
                        by_cases d3 : s &&& nv = nv
                        · have hd3 : (((s &&& nv : Nat) : Int) != (nv : Int)) = false := by simp [d3]
                          have HE : Hid ((Ed n (fun v => nd (Z v) (L v)) k rev) s t) := Lib.hid ⟨v, hvn, Ht.out, (fun _ => by show s &&& nd (Z v) (L v) = nd (Z v) (L v); rw [Hnv.out]; exact d3), HK4.out⟩
                          clear d3 HNE
                          go_quiet (fail)
                          go_wp2_with fail
                          go_meet
                          exact ⟨_, rfl, Lib.hid (fun h => by cases h), Lib.hid (fun _ => ⟨hnQ.out, HE.out⟩), _, rfl⟩
                        · have hd3 : (((s &&& nv : Nat) : Int) != (nv : Int)) = true := by simp; omega
                          have HNF := Lib.hid (HNE.out d3)
                          clear HNE d3
                          go_quiet (fail)
                          go_wp2_with fail
                          go_meet
                          exact ⟨_, rfl, Lib.hid (fun _ => .inr HNF.out), Lib.hid (fun h => by cases h), _, rfl⟩
                      | false =>
                        have HS1 : Hid (¬ s < t) := Lib.hid (fun h => by have := HST.out.1 h; cases this)
                        clear HST
                        cases rev with
                        | true =>
                          have HST := HS1
                          have HNE : Hid (¬ s &&& nv = nv → ¬ (Ed n (fun v => nd (Z v) (L v)) k true) s t) := Lib.hid (fun h hE => h ((HED.out t rfl hE).1 (.inr rfl)))
                          clear HED HST
                          by_cases d3 : s &&& nv = nv
                          · have hd3 : (((s &&& nv : Nat) : Int) != (nv : Int)) = false := by simp [d3]
                            have HE : Hid ((Ed n (fun v => nd (Z v) (L v)) k true) s t) := Lib.hid ⟨v, hvn, Ht.out, (fun _ => by show s &&& nd (Z v) (L v) = nd (Z v) (L v); rw [Hnv.out]; exact d3), HK4.out⟩
                            clear d3 HNE
                            go_quiet (fail)
                            go_wp2_with fail
                            go_meet
                            exact ⟨_, rfl, Lib.hid (fun h => by cases h), Lib.hid (fun _ => ⟨hnQ.out, HE.out⟩), _, rfl⟩
                          · have hd3 : (((s &&& nv : Nat) : Int) != (nv : Int)) = true := by simp; omega
                            have HNF := Lib.hid (HNE.out d3)
                            clear HNE d3
                            go_quiet (fail)
                            go_wp2_with fail
                            go_meet
                            exact ⟨_, rfl, Lib.hid (fun _ => .inr HNF.out), Lib.hid (fun h => by cases h), _, rfl⟩
                        | false =>
                          have HE : Hid ((Ed n (fun v => nd (Z v) (L v)) k false) s t) := Lib.hid ⟨v, hvn, Ht.out, (fun h => by rcases h with h | h <;> first | exact absurd h HS1.out | cases h), HK4.out⟩
                          clear HED
                          go_quiet (fail)
                          go_wp2_with fail
                          go_meet
                          exact ⟨_, rfl, Lib.hid (fun h => by cases h), Lib.hid (fun _ => ⟨hnQ.out, HE.out⟩), _, rfl⟩
                case rest =>
                  obtain ⟨r, rfl, hr1, hr2, m, rfl⟩ := hcut
                  clear HED cn ct cs han
                  cases r with
                  | true =>
                    have HOLD := Lib.hid (hbf.out.old (t := t) Hs.out (hr1.out rfl))
                    clear hr1 hr2
                    go_wp2
                    go_roundw
                    case rel => exact ⟨v + 1, Q', dep', dp', by omega, Lib.hid (Bfs.some_of (b := HOLD.out) (fun x hx => by
                      obtain ⟨u, hu, hx⟩ := hx
                      rcases Nat.lt_or_ge u v with hl | hl
                      · exact .inl ⟨u, hl, hx⟩
                      · obtain rfl : u = v := by omega
                        exact .inr (by rw [Ht.out]; exact hx))), Hs, hdp, hdl, hq, Lib.hid (hfr.out.drew _), Lib.hid (hsz.out.drew _), Lib.hid (hnd.out.drew _), Lib.hid (below_drewN hB.out _), by go_num⟩
                    case measure => simp [intOf]; omega
                  | false =>
                    have hE : (Ed n (fun v => nd (Z v) (L v)) k rev) s (s ^^^ 2 ^ v) := by rw [← Ht.out]; exact (hr2.out rfl).2
                    have hsQ : s ∈ Q' := List.mem_of_getElem? Hs.out
                    have hnt : s ^^^ 2 ^ v ∉ Q' := by rw [← Ht.out]; exact (hr2.out rfl).1
                    have NBF := Lib.hid (hbf.out.new Hs.out hnt hE)
                    have NDP := Lib.hid (hdp.out.new hsQ hvn hnt)
                    have hQn : Q'.length ≤ N := nodup_len hbf.out.nodup (fun x hx => by rw [HN.out]; exact hdp.out.lt x hx)
                    have hsd := hdp.out.isin s hsQ
                    have hsl := hdl.out s hsQ
                    have css := (hfr.out.drew m).cell hsN
                    have ftf := (hfr.out.drew m).frozen t
                    have ctt := (hfr.out.drew m).cell htN
                    obtain ⟨z, hz⟩ : ∃ z, z = dp' s := ⟨_, rfl⟩
                    rw [← hz] at css hsd
                    have hz0 : 0 ≤ z := by omega
                    have hz1 : z ≤ 16384 := by omega
                    have HDL2 : Hid (∀ x, x ∈ Q' ++ [s ^^^ 2 ^ v] → (if x = s ^^^ 2 ^ v then dep' s + 1 else dep' x) < (Q' ++ [s ^^^ 2 ^ v]).length) := Lib.hid (fun x hx => by
                      simp only [List.length_append, List.length_singleton]
                      split
                      · omega
                      · rcases List.mem_append.1 hx with hx | hx
                        · have := hdl.out x hx; omega
                        · simp at hx; contradiction)
                    have hs2 : (Q' ++ [s ^^^ 2 ^ v])[h]? = some s := by rw [List.getElem?_append_left (List.getElem?_eq_some_iff.1 Hs.out).1]; exact Hs.out
                    have HS2 := Lib.hid hs2
                    have hql : Q'.length ≤ 2 ^ 40 := by omega
                    have HXL := Lib.hid hql
                    have Hz := Lib.hid hz
                    have hb2s : b1 + 1 < wr.heap.size := hsz.out.lt
                    have HW := Lib.hid hb2s
                    clear hr1 hr2 hE hsQ hnt hQn hs2 hql hsd hsl hz hb2s
                    have HOQ := Lib.hid (own_set hq.out (p := ⟨b1, t, none⟩) (show b1 < b1 + 2 by omega) (I (z + 1)) m)
                    have HNF := Lib.hid (((hfr.out.drew m).set t (I (z + 1)) (g := fun x => I (if x = s ^^^ 2 ^ v then dp' s + 1 else dp' x)) (fun x => by rw [← Ht.out, Hz.out]; split <;> rfl)).alloc (.cells #[I t] 3))
                    have HNS := Lib.hid (((hsz.out.drew m).other (c := b1) (by omega) t (I (z + 1))).alloc (.cells #[I t] 3))
                    have HNN := Lib.hid (((hnd.out.drew m).other (c := b1) (by omega) t (I (z + 1))).alloc (.cells #[I t] 3))
                    have HBN := Lib.hid (((below_drewN hB.out m).setCell (p := ⟨b1, t, none⟩) hfr.out.new (I (z + 1))).alloc (by rw [Deep.nblk_setCell]; exact (below_drewN hB.out m).size) (.cells #[I t] 3))
                    go_wp2_with (first
                      | (at_builtin; refine wpList_append_qi rfl (.tmp 145) (.tmp 147) rfl (B := b1 + 2) (t := t) (xs := Q') rfl (HOQ.out.alloc (.cells #[I t] 3)) (by rw [World.size_alloc, Deep.nblk_setCell]; exact Nat.le_succ_of_le HW.out) rfl (cells_one2 _ _ _ (Deep.nblk_setCell _ _ _)) HXL.out ?_; intro u9 w9 hq9 hb9; have HQ9 := Lib.hid hq9; have HL9 := Lib.hid hb9; clear hq9 hb9))
                    go_roundw
                    case rel => exact ⟨v + 1, Q' ++ [s ^^^ 2 ^ v], _, _, by omega, Lib.hid (Bfs.some_of (b := NBF.out) (fun x hx => by
                      obtain ⟨u, hu, hx⟩ := hx
                      rcases Nat.lt_or_ge u v with hl | hl
                      · exact .inl ⟨u, hl, hx⟩
                      · obtain rfl : u = v := by omega
                        exact .inr hx)), HS2, NDP, HDL2, Lib.hid (by rw [← Ht.out]; simpa using HQ9.out), Lib.hid (nw_block HNF.out (HL9.out.block _ (by omega))), Lib.hid (nw_block HNS.out (HL9.out.block _ (by omega))), Lib.hid (nw_block HNN.out (HL9.out.block _ (by omega))), Lib.hid (HBN.out.trans (HL9.out.mono (by omega))), by go_num⟩
                    case measure => simp [intOf]; omega
              · obtain rfl : v = n := by omega
                go_wp2
                go_roundg (N - (h + 1))
                case measure => omega
                case rel => exact ⟨Q', h + 1, dep', dp', rfl, by go_num, by have := (List.getElem?_eq_some_iff.1 Hs.out).1; omega, Lib.hid (hbf.out.next Hs.out (fun t ht => by obtain ⟨u, h1, h2, _⟩ := ht; exact ⟨u, h1, h2⟩)), hdp, hdl, hq, hfr, hsz, hnd, hB⟩
          · obtain rfl : h = Q.length := by omega
            have HQE := Lib.hid hQi
            clear hqc
            generalize hql : Q.length = ql at *
            have HQL := Lib.hid hql
            clear hql
            go_wp2
            go_meet
            exact ⟨Q, dep, dp, Lib.hid (by rw [HQL.out]; exact hbf.out), hdp, hfr, hB⟩
      case rest =>
        clear HFR HSZ HND HB3 HQ3
        obtain ⟨Q, dep, dp, hbf, hdp, hfr, hB⟩ := hcut
        have hgl : 2 ^ (n - 1) < N := by rw [HN.out]; exact Nat.pow_lt_pow_right (by omega) (by omega)
        have cg := hfr.out.cell hgl
        have hwg := w2i (n - 1) (by omega)
        generalize hG : 2 ^ (n - 1) = G at *
        have HGG := Lib.hid hG
        clear hG
        go_wp2
        go_ret
        refine ⟨dp G, ?_, rfl, hB.out⟩
        rw [HGG.out]
        by_cases hm : G ∈ Q
        · exact .inl ⟨dep G, hdp.out.isin G hm, hbf.out.real _ hm, fun m' h' => hbf.out.min _ hm m' h'⟩
        · exact .inr ⟨hdp.out.out G (by rw [← HN.out]; exact hgl) hm, fun m h' => hm (hbf.out.all rfl h')⟩
end Go.Proofs.Ytihpdmchppcbfaa
