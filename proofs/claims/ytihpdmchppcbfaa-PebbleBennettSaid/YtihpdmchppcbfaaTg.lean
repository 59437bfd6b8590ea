/- Words for the search: queues of sets, plays in memory, and the laws of their appends. -/
import Derived.Test.YtihpdmchppcbfaaTf
import Derived.Test.YtihpdmchppcbfaaFc
import Derived.Deep.LoopGhost
import Derived.Deep.OwnRows
import Derived.Deep.Cut
import Derived.Deep.CutRange
import Derived.Deep.CutBlock
import Derived.OwnWalk
import Derived.ArgAppend
namespace Go.Proofs.Ytihpdmchppcbfaa
open Go.RowKit
set_option linter.unusedVariables false
set_option linter.unusedSimpArgs false

theorem ones_any {s : Nat} (hs : s < 16384) (w : World) : Calls Try.prog 42 #[U s] w fun e w' => e = .returned (I (pc s)) ∧ w' = w := by
  have H := Lib.hid (fun w => ones64 hs w)
  go_enter Try.func42, Try.ntmps42
  go_wp2_with (first | (go_at_call 48; (with_reducible refine (H.out _).mono ?_); rintro e w' ⟨rfl, rfl⟩))
  go_ret
  exact ⟨rfl, rfl⟩

/-- a slice of the call's own at block b: n elements of type t -/
structure Nw (w wr : World) (t : TypeId) (n b : Nat) (f : Nat → Value) : Prop where
  new : w.heap.size ≤ b
  row : wr.rowIs b t n f
namespace Nw
variable {w wr wr' : World} {t : TypeId} {n b c : Nat} {f g : Nat → Value}
theorem cell (h : Nw w wr t n b f) {u : Nat} (hu : u < n) : wr.cell? ⟨b, u, none⟩ = some (f u) := h.row.cell hu
theorem frozen (h : Nw w wr t n b f) (u : Nat) : wr.frozen? ⟨b, u, none⟩ = false := h.row.frozen u
theorem set (h : Nw w wr t n b f) (i : Nat) (x : Value) (e : ∀ u, (if u = i then x else f u) = g u) : Nw w (wr.setCell ⟨b, i, none⟩ x) t n b g :=
  ⟨h.new, (h.row.set i x).congr fun u _ => e u⟩
theorem other (h : Nw w wr t n b f) (hb : b ≠ c) (i : Nat) (x : Value) : Nw w (wr.setCell ⟨c, i, none⟩ x) t n b f := ⟨h.new, h.row.setOther hb x⟩
theorem drew (h : Nw w wr t n b f) (m : Nat) : Nw w (wr.drewN m) t n b f := ⟨h.new, h.row⟩
theorem alloc (h : Nw w wr t n b f) (o : Obj) : Nw w (wr.alloc o) t n b f := ⟨h.new, h.row.alloc o⟩
theorem lt (h : Nw w wr t n b f) : b < wr.heap.size := h.row.lt
theorem congr (h : Nw w wr t n b f) (e : ∀ u, u < n → f u = g u) : Nw w wr t n b g := ⟨h.new, h.row.congr e⟩
theorem keep (h : Nw w wr t n b f) (hb : Below wr.heap.size wr wr') : Nw w wr' t n b f := ⟨h.new, h.row.of_block (hb.block _ h.row.lt)⟩
end Nw

theorem w2u (p : Nat) (h : p < 14) : IntKind.u64.wrap ((2 : Int) ^ p) = ((2 ^ p : Nat) : Int) := by
  have : ∀ c : Fin 14, IntKind.u64.wrap ((2 : Int) ^ c.val) = ((2 ^ c.val : Nat) : Int) := by decide +kernel
  exact this ⟨p, h⟩
theorem two_lt {p : Nat} (h : p < 14) : 2 ^ p < 16384 := Nat.lt_of_lt_of_le (Nat.pow_lt_pow_right (by omega) h) (by decide)
theorem or_step {x p : Nat} (hx : x < 16384) (hp : p < 14) : bits BinOp.or IntKind.u64 (x : Int) (IntKind.u64.wrap ((2 : Int) ^ p)) = ((x ||| 2 ^ p : Nat) : Int) := by
  rw [w2u p hp, bits_or_u64_nat _ _ (by omega) (by have := two_lt hp; omega)]
theorem xor_step {x p : Nat} (hx : x < 16384) (hp : p < 14) : bits BinOp.xor IntKind.u64 (x : Int) (IntKind.u64.wrap ((2 : Int) ^ p)) = ((x ^^^ 2 ^ p : Nat) : Int) := by
  rw [w2u p hp, bits_xor_u64_nat _ _ (by omega) (by have := two_lt hp; omega)]
theorem and_nat {x y : Nat} (hx : x < 16384) (hy : y < 16384) : bits BinOp.and IntKind.u64 (x : Int) (y : Int) = ((x &&& y : Nat) : Int) := bits_and_u64_nat _ _ (by omega) (by omega)

theorem Try.info57 : (Try.prog.info? 57).map (fun i => (i.zero, i.size, i.bytes)) = some (some (.int .u64 0), 1, 8) := by kernel_rfl
theorem Try.info3 : (Try.prog.info? 3).map (fun i => (i.zero, i.size, i.bytes)) = some (some (.int .i64 0), 1, 8) := by kernel_rfl

/-- a queue of sets at a block above lo -/
structure Qs (lo : Nat) (wr : World) (v : Value) (xs : List Nat) : Prop where
  ex : ∃ g off cap cur, v = .slice (some ⟨g, off, none⟩) xs.length cap ∧ lo < g ∧ wr.heap[g]? = some (.cells cur 57 (0, 0)) ∧ xs.length ≤ cap ∧ off + cap ≤ cur.size ∧ cap ≤ maxLen ∧ ∀ i, i < xs.length → cur[off + i]? = some (U (xs.getD i 0 : Nat))

theorem Qs.drew {lo : Nat} {wr : World} {v : Value} {xs : List Nat} (h : Qs lo wr v xs) (m : Nat) : Qs lo (wr.drewN m) v xs := ⟨h.ex⟩
theorem Qs.other {lo : Nat} {wr : World} {v : Value} {xs : List Nat} (h : Qs lo wr v xs) {a : Addr} (ha : a.block ≤ lo) (x : Value) : Qs lo (wr.setCell a x) v xs := by
  obtain ⟨g, off, cap, cur, h1, h2, h3, h4, h5, h6, h7⟩ := h.ex
  exact ⟨g, off, cap, cur, h1, h2, by rw [Deep.blk_setCell_other _ _ _ _ (by omega)]; exact h3, h4, h5, h6, h7⟩
theorem Qs.alloc {lo : Nat} {wr : World} {v : Value} {xs : List Nat} (h : Qs lo wr v xs) (o : Obj) : Qs lo (wr.alloc o) v xs := by
  obtain ⟨g, off, cap, cur, h1, h2, h3, h4, h5, h6, h7⟩ := h.ex
  exact ⟨g, off, cap, cur, h1, h2, by rw [Deep.blk_alloc_lt _ _ _ (Array.getElem?_eq_some_iff.1 h3).1]; exact h3, h4, h5, h6, h7⟩
theorem cells_one (w : World) (u : Value) (t : TypeId) : ∀ j x, [u][j]? = some x → (w.alloc (.cells #[u] t)).cell? ((⟨w.heap.size, 0, none⟩ : Addr).add j) = some x := by
  intro j x hj
  match j, hj with
  | 0, hj => simp at hj; subst hj; simp [go_sem, Addr.add]
theorem cells_one2 (w : World) (u : Value) (t : TypeId) {N : Nat} (h : w.heap.size = N) : ∀ j x, [u][j]? = some x → (w.alloc (.cells #[u] t)).cell? ((⟨N, 0, none⟩ : Addr).add j) = some x := h ▸ cells_one w u t
theorem wpList_append_qs {w : World} {ops : Array Oper} {rest : List Oper} {o : Oper} {a : Act} {Q : Exit → Act → World → Prop} (hg : o.guard = none) (s x : Operand) (hop : o.op = Op.call { callee := Callee.builtin Builtin.append, args := #[s, x], argTypes := #[67, 67] })
    {lo t : Nat} {v : Value} {xs : List Nat} {ad : Addr} (hs : a.eval s = v) (hq : Qs lo w v xs) (hlo : lo < w.heap.size) (hx : a.eval x = .slice (some ad) 1 1) (hc : ∀ j u, [U t][j]? = some u → w.cell? (ad.add j) = some u) (hn : xs.length ≤ 2 ^ 40)
    (hK : ∀ v' w', Qs lo w' v' (xs ++ [t]) → Below (lo + 1) w w' → wpList Try.prog ops Q rest (a.put o.dst v') w') : wpList Try.prog ops Q (o :: rest) a w := by
  obtain ⟨g, off, cap, cur, rfl, h2, h3, h4, h5, h6, h7⟩ := hq.ex
  obtain ⟨i0, hi, hz0, hz1, hz2⟩ := info_parts Try.info57
  refine wpList_append_arg w hg s x 67 hop 57 i0 (U 0) 1 8 Try.underlying67 hi hz0 hz1 hz2 rfl (by decide) g off xs.length cap (xs.map fun y => U (y : Nat)) hs (by simp) (fun j u hj => ?_) ad 1 1 [U t] hx rfl hc (fun u hu => by simp at hu; subst hu; rfl) (fun hr j hj => ?_) (by unfold maxLen; omega) (by omega) (fun hr => ?_) (fun hr v' w' ho hgr => ?_)
  · have hjl : j < xs.length := by
      have := (List.getElem?_eq_some_iff.1 hj).1
      simpa using this
    have h := h7 j hjl
    simp only [World.cell?, h3]
    rw [List.getElem?_map, List.getElem?_eq_getElem hjl] at hj
    simp at hj
    subst hj
    simpa [List.getD, hjl] using h
  · obtain rfl : j = 0 := by simpa using hj
    have hsz : off + xs.length * 1 + 0 < cur.size := by omega
    simp only [World.cell?, World.frozen?, h3]
    simp [hsz]
    omega
  · refine hK _ _ ?_ ?_
    · have hset : (w.setCells g (off + xs.length * 1) [U t]).heap[g]? = some (.cells (cur.setIfInBounds (off + xs.length) (U t)) 57 (0, 0)) := by
        simp [World.setCells, World.setCell, Array.getElem?_modify, h3]
      refine ⟨g, off, cap, _, by simp, h2, hset, by simp; omega, by simp; omega, h6, fun j hj => ?_⟩
      simp only [List.length_append, List.length_singleton] at hj
      rw [Array.getElem?_setIfInBounds]
      by_cases e : j = xs.length
      · subst e
        simp [List.getD, show off + xs.length < cur.size by omega]
      · rw [if_neg (by omega), h7 j (by omega)]
        simp [List.getD, List.getElem?_append_left (show j < xs.length by omega)]
    · simp only [World.setCells]
      exact (Below.refl _ _).setCell (p := ⟨g, _, none⟩) (show lo + 1 ≤ g by omega) _
  · rcases ho.2 with ⟨rfl, h0⟩ | ⟨g', cap', cur', rfl, hb, hh, hn', hc', hs', ht'⟩
    · omega
    · refine hK _ _ ?_ ⟨hgr.os, hgr.tape, hgr.output, hgr.size, fun k hk => hgr.block k (by omega) (by simp)⟩
      refine ⟨g', 0, cap', cur', by simp, by omega, hh, by simp; omega, by omega, hc', fun j hj => ?_⟩
      simp only [List.length_append, List.length_singleton] at hj
      have hg' : (cur'.toList.take ((xs.length + 1) * 1))[j]? = (xs.map (fun y => U (y : Nat)) ++ [U t])[j]? := by rw [ht']
      rw [List.getElem?_take, if_pos (by omega)] at hg'
      rw [Nat.zero_add, ← Array.getElem?_toList, hg']
      by_cases e : j = xs.length
      · subst e
        simp [List.getD]
      · have hjl : j < xs.length := by omega
        rw [List.getElem?_append_left (by simpa using hjl)]
        simp [List.getD, List.getElem?_append_left hjl, hjl]
theorem nw_block {w wr wr' : World} {t : TypeId} {n b : Nat} {f : Nat → Value} (h : Nw w wr t n b f) (e : wr'.heap[b]? = wr.heap[b]?) : Nw w wr' t n b f := ⟨h.new, h.row.of_block e⟩
theorem bit_at {x : Nat} (hx : x < 16384) (u : Nat) : (bits BinOp.and IntKind.u64 ((x : Int) / 2 ^ u) 1 == 1) = x.testBit u := by
  have e : (x : Int) / 2 ^ u = ((x / 2 ^ u : Nat) : Int) := by norm_cast
  have h1 : x / 2 ^ u < 16384 := Nat.lt_of_le_of_lt (Nat.div_le_self _ _) hx
  rw [e, show (1 : Int) = ((1 : Nat) : Int) from rfl, and_nat h1 (by decide), Nat.and_one_is_mod, Nat.testBit_eq_decide_div_mod_eq]
  rw [Bool.eq_iff_iff, beq_iff_eq, decide_eq_true_iff]
  omega
/-- a play in memory -/
structure Pl (w : World) (v : Value) (l : List (Bool × Int)) : Prop where
  ex : ∃ (a : Option Addr) (cap : Nat), v = .slice a l.length cap ∧ l.length ≤ cap ∧ cap ≤ maxLen ∧ (a = none → l = []) ∧ ∀ b, a = some b → ∀ i, i < l.length → w.cell? (b.add (i * 2)) = some (.bool (l.getD i (false, 0)).1) ∧ w.cell? ⟨(b.add (i * 2)).block, (b.add (i * 2)).off + 1, none⟩ = some (I (l.getD i (false, 0)).2)
theorem Pl.keep {w w' : World} {v : Value} {l : List (Bool × Int)} (h : Pl w v l) (hb : Below w.heap.size w w') : Pl w' v l := by
  obtain ⟨a, cap, h1, h2, h3, h4, h5⟩ := h.ex
  refine ⟨a, cap, h1, h2, h3, h4, fun b hb' i hi => ?_⟩
  obtain ⟨c1, c2⟩ := h5 b hb' i hi
  exact ⟨(hb.cell (World.block_lt_of_cell? _ _ c1)).trans c1, (hb.cell (World.block_lt_of_cell? _ _ c2)).trans c2⟩
theorem Pl.nil (w : World) : Pl w (.slice none 0 0) [] := ⟨none, 0, rfl, by simp, by decide, fun _ => rfl, fun b hb => by cases hb⟩

/-- the cells of moves -/
def mc : List (Bool × Int) → List Value
  | [] => []
  | m :: l => .bool m.1 :: I m.2 :: mc l
theorem mc_len : ∀ l, (mc l).length = l.length * 2
  | [] => rfl
  | m :: l => by simp [mc, mc_len l]; omega
theorem mc_app : ∀ l k, mc (l ++ k) = mc l ++ mc k
  | [], k => rfl
  | m :: l, k => by simp [mc, mc_app l k]
theorem mc_get : ∀ (l : List (Bool × Int)) i, i < l.length → (mc l)[2 * i]? = some (.bool (l.getD i (false, 0)).1) ∧ (mc l)[2 * i + 1]? = some (I (l.getD i (false, 0)).2)
  | [], i, h => by simp at h
  | m :: l, 0, h => ⟨rfl, rfl⟩
  | m :: l, i + 1, h => by
    have := mc_get l i (by simpa using h)
    have e : 2 * (i + 1) = 2 * i + 2 := by omega
    rw [e]
    simpa [mc] using this
theorem Try.info49 : (Try.prog.info? 49).map (fun i => (i.zero, i.size, i.bytes)) = some (some (.agg #[.bool false, .int .i64 0]), 2, 16) := by kernel_rfl
theorem cells_two (w : World) (u v : Value) (t : TypeId) {N : Nat} (h : w.heap.size = N) : ∀ j x, [u, v][j]? = some x → (w.alloc (.cells #[u, v] t)).cell? ((⟨N, 0, none⟩ : Addr).add j) = some x := by
  intro j x hj
  subst h
  match j, hj with
  | 0, hj => simp at hj; subst hj; simp [go_sem, Addr.add]
  | 1, hj => simp at hj; subst hj; simp [go_sem, Addr.add]
theorem wpList_append_mv {w : World} {ops : Array Oper} {rest : List Oper} {o : Oper} {a : Act} {Q : Exit → Act → World → Prop} (hg : o.guard = none) (s x : Operand) (hop : o.op = Op.call { callee := Callee.builtin Builtin.append, args := #[s, x], argTypes := #[32, 32] })
    {B : Nat} {v : Value} {l : List (Bool × Int)} {m : Bool × Int} {ad : Addr} (hs : a.eval s = v) (hq : w.ownsRow B 49 2 v l.length (mc l)) (hB : B ≤ w.heap.size) (hx : a.eval x = .slice (some ad) 1 1) (hc : ∀ j u, [Value.bool m.1, I m.2][j]? = some u → w.cell? (ad.add j) = some u) (hn : l.length ≤ 2 ^ 40)
    (hK : ∀ v' w', w'.ownsRow B 49 2 v' (l.length + 1) (mc (l ++ [m])) → Below B w w' → wpList Try.prog ops Q rest (a.put o.dst v') w') : wpList Try.prog ops Q (o :: rest) a w := by
  obtain ⟨i0, hi, hz0, hz1, hz2⟩ := info_parts Try.info49
  refine wpList_append_own w hg s x 32 hop B 49 i0 _ 2 16 Try.underlying32 hi hz0 hz1 hz2 rfl (by decide) v l.length (mc l) hs hq ad 1 1 [Value.bool m.1, I m.2] hx rfl hc (fun u hu => by simp at hu; rcases hu with rfl | rfl <;> rfl) (by unfold maxLen; omega) (by omega) hB (fun v' w' ho hgr _ => ?_)
  refine hK v' w' ?_ ⟨hgr.os, hgr.tape, hgr.output, hgr.size, fun k hk => hgr.block k (by omega) (fun e => ?_)⟩
  · rw [mc_app]; exact ho
  · have := (hq.lt k e.symm).1
    omega
theorem own_mv {w : World} {B g n cap : Nat} {l : List (Bool × Int)} (h : w.ownsRow B 49 2 (.slice (some ⟨g, 0, none⟩) n cap) l.length (mc l)) : B ≤ g ∧ n = l.length ∧ l.length ≤ cap ∧ cap ≤ maxLen ∧ Mv w g l.length (fun i => l.getD i (false, 0)) := by
  rcases h.2 with ⟨h1, _⟩ | ⟨g', cap', cur, h1, h2, h3, h4, h5, h6, h7⟩
  · cases h1
  · cases h1
    refine ⟨h2, rfl, h4, h5, ⟨cur, h3, by omega, fun i hi => ?_⟩⟩
    have e := mc_get l i hi
    rw [← h7] at e
    simp only [List.getElem?_take, Array.getElem?_toList] at e
    rw [if_pos (by omega), if_pos (by omega)] at e
    exact e
theorem add_z (g j : Nat) : (⟨g, 0, none⟩ : Addr).add j = ⟨g, j, none⟩ := by unfold Addr.add; split <;> simp_all
theorem mv_pl {w : World} {g cap : Nat} {l : List (Bool × Int)} (h : Mv w g l.length (fun i => l.getD i (false, 0))) (h1 : l.length ≤ cap) (h2 : cap ≤ maxLen) : Pl w (.slice (some ⟨g, 0, none⟩) l.length cap) l := by
  refine ⟨some ⟨g, 0, none⟩, cap, rfl, h1, h2, (fun h => by cases h), ?_⟩
  intro b hb i hi
  cases hb
  rw [add_z]
  exact ⟨h.cell0 hi, h.cell1 hi⟩

def Srch (E : Nat → Nat → Prop) (n : Nat) (w : World) (e : Ending) (w' : World) : Prop := ∃ l b v0, Told E n (2 ^ (n - 1)) l b ∧ e = .returned (.tuple #[v0, .bool b]) ∧ Pl w' v0 l ∧ Below w.heap.size w w'

end Go.Proofs.Ytihpdmchppcbfaa
