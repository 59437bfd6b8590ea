/- Blocks of variables that grow: lists of numbers in own memory. -/
import Derived.Test.YtpfbommaddaijaaZfH2a
namespace Go.Proofs.Ytpfbommaddaijaa
open Go.RowKit Go.Proofs.YtpfbommaddaijaaW.PrintWords Go.Proofs.YtpfbommaddaijaaW.PrintLast PBoundTo
set_option linter.unusedVariables false
set_option linter.unusedSimpArgs false

theorem own_base {w : World} {base n : Nat} {e : TypeId} {size : Nat} {v : Value} {xs : List Value} (h : w.ownsRow base e size v n xs) {k : Nat} (hk : v.ownBlock = some k) : base ≤ k ∧ k < w.heap.size := by
  rcases h.2 with ⟨rfl, _⟩ | ⟨g, cap, cur, rfl, hb, hh, _⟩
  · simp [Value.ownBlock] at hk
  · have : g = k := by simpa [Value.ownBlock] using hk
    subst this
    exact ⟨hb, (Array.getElem?_eq_some_iff.1 hh).1⟩
theorem Tw.keep {W wr w1 : World} {v u : Value} {p q : List Int} (h : Tw W wr v u p q) (hb : Below wr.heap.size wr w1) : Tw W w1 v u p q :=
  ⟨own_move h.p fun k hk => hb.block k (own_block_lt h.p hk), own_move h.q fun k hk => hb.block k (own_block_lt h.q hk), h.b.trans (hb.mono h.b.size), h.ne⟩
theorem bs_at {w : World} {a : Addr} {N c i : Nat} {f : Nat → Bool} (h : Bs w (.slice (some a) N c) N f) (hi : i < N) : w.cell? (a.add i) = some (.bool (f i)) := by
  obtain ⟨a', c', h1, _, _, _, h5⟩ := h.ex
  cases h1
  exact h5 a rfl i hi
/-- own lists in an own list -/
structure Bk (W wr : World) (v : Value) (vs : List Value) (l : List (List Int)) : Prop where
  n : vs.length = l.length
  o : wr.ownsRow W.heap.size 52 1 v vs.length vs
  r : ∀ (i : Nat) (x : Value) (r : List Int), vs[i]? = some x → l[i]? = some r → wr.ownsRow W.heap.size 3 1 x r.length (nums .i64 r)
  d : ∀ (i j : Nat) (x y : Value) (k : Nat), vs[i]? = some x → vs[j]? = some y → x.ownBlock = some k → y.ownBlock = some k → i = j
  e : ∀ (i : Nat) (x : Value) (k : Nat), vs[i]? = some x → x.ownBlock = some k → v.ownBlock = some k → False
  b : Below W.heap.size W wr
theorem Bk.start (W : World) : Bk W W (.slice none 0 0) [] [] := ⟨rfl, own_nil _ _ _ _, fun i x r h => by simp at h, fun i j x y k h => by simp at h, fun i x k h => by simp at h, Below.refl _ _⟩
/-- what other calls leave -/
theorem Bk.keep {W wr w1 : World} {v : Value} {vs : List Value} {l : List (List Int)} (h : Bk W wr v vs l) (hb : Below wr.heap.size wr w1) : Bk W w1 v vs l where
  n := h.n
  o := own_move h.o fun k hk => hb.block k ((own_base h.o hk).2)
  r i x r h1 h2 := own_move (h.r i x r h1 h2) fun k hk => hb.block k (own_block_lt (h.r i x r h1 h2) hk)
  d := h.d
  e := h.e
  b := h.b.trans (hb.mono h.b.size)
/-- a new block of one variable -/
theorem Bk.push {W wr w1 : World} {v v1 : Value} {vs : List Value} {l : List (List Int)} {y : Int} (h : Bk W wr v vs l) (ho : w1.ownsRow W.heap.size 52 1 v1 (vs ++ [Value.slice (some ⟨wr.heap.size, 0, none⟩) 1 1]).length (vs ++ [Value.slice (some ⟨wr.heap.size, 0, none⟩) 1 1])) (hb : Below W.heap.size W w1) (hg : (wr.alloc (.cells #[I y] 3)).grownBy w1 v.ownBlock) (ha : v1.ownBlock = v.ownBlock ∨ ∃ b, v1.ownBlock = some b ∧ (wr.alloc (.cells #[I y] 3)).heap.size ≤ b) : Bk W w1 v1 (vs ++ [Value.slice (some ⟨wr.heap.size, 0, none⟩) 1 1]) (l ++ [[y]]) := by
  have hs : (wr.alloc (.cells #[I y] 3)).heap.size = wr.heap.size + 1 := World.size_alloc _ _
  have hold : ∀ k, k < wr.heap.size → some k ≠ v.ownBlock → w1.heap[k]? = wr.heap[k]? := fun k hk hne => (hg.block k (by omega) hne).trans (((Below.refl wr.heap.size wr).alloc (Nat.le_refl _) _).block k hk)
  have hlt : ∀ (i : Nat) (x : Value) (r : List Int) (k : Nat), vs[i]? = some x → l[i]? = some r → x.ownBlock = some k → k < wr.heap.size := fun i x r k h1 h2 h3 => (own_base (h.r i x r h1 h2) h3).2
  have hrow : ∀ (i : Nat) (x : Value), vs[i]? = some x → ∃ r, l[i]? = some r := fun i x hx => by
    have : i < l.length := by rw [← h.n]; exact (List.getElem?_eq_some_iff.1 hx).1
    exact ⟨l[i], List.getElem?_eq_getElem this⟩
  have hv1 : ∀ k, v1.ownBlock = some k → v.ownBlock = some k ∨ wr.heap.size + 1 ≤ k := fun k hk => by
    rcases ha with ha | ⟨b, ha, hlt⟩
    · exact .inl (by rw [← ha]; exact hk)
    · rw [hk] at ha; injection ha with ha; exact .inr (by omega)
  have hvlt : ∀ k, v.ownBlock = some k → k < wr.heap.size := fun k hk => (own_base h.o hk).2
  refine ⟨by simp [h.n], ho, fun i x r h1 h2 => ?_, fun i j x y k h1 h2 h3 h4 => ?_, fun i x k h1 h2 h3 => ?_, hb⟩
  · rw [List.getElem?_append] at h1 h2
    by_cases hi : i < vs.length
    · rw [if_pos hi] at h1
      rw [if_pos (by rw [← h.n]; exact hi)] at h2
      exact own_move (h.r i x r h1 h2) fun k hk => hold k (hlt i x r k h1 h2 hk) fun e => h.e i x k h1 hk e.symm
    · rw [if_neg hi] at h1
      rw [if_neg (by rw [← h.n]; exact hi), ← h.n] at h2
      have hi0 : i - vs.length = 0 := by
        have := (List.getElem?_eq_some_iff.1 h1).1
        simp at this; omega
      rw [hi0] at h1 h2
      simp at h1 h2
      subst h1; subst h2
      refine own_move (own_lit wr W.heap.size 3 .i64 [y] h.b.size (by simp)) fun k hk => ?_
      have hk' : k = wr.heap.size := by simpa [Value.ownBlock, eq_comm] using hk
      subst hk'
      exact hg.block _ (by omega) fun e => by have := hvlt _ e.symm; omega
  · rw [List.getElem?_append] at h1 h2
    by_cases hi : i < vs.length <;> by_cases hj : j < vs.length
    · rw [if_pos hi] at h1
      rw [if_pos hj] at h2
      exact h.d i j x y k h1 h2 h3 h4
    · rw [if_pos hi] at h1
      rw [if_neg hj] at h2
      obtain ⟨r, hr⟩ := hrow i x h1
      have hk := hlt i x r k h1 hr h3
      have hm := List.mem_of_getElem? h2
      simp at hm
      subst hm
      have : wr.heap.size = k := by simpa [Value.ownBlock] using h4
      omega
    · rw [if_neg hi] at h1
      rw [if_pos hj] at h2
      obtain ⟨r, hr⟩ := hrow j y h2
      have hk := hlt j y r k h2 hr h4
      have hm := List.mem_of_getElem? h1
      simp at hm
      subst hm
      have : wr.heap.size = k := by simpa [Value.ownBlock] using h3
      omega
    · rw [if_neg hi] at h1
      rw [if_neg hj] at h2
      have a1 := (List.getElem?_eq_some_iff.1 h1).1
      have a2 := (List.getElem?_eq_some_iff.1 h2).1
      simp at a1 a2
      omega
  · rw [List.getElem?_append] at h1
    by_cases hi : i < vs.length
    · rw [if_pos hi] at h1
      obtain ⟨r, hr⟩ := hrow i x h1
      have hk := hlt i x r k h1 hr h2
      rcases hv1 k h3 with h3 | h3
      · exact h.e i x k h1 h2 h3
      · omega
    · rw [if_neg hi] at h1
      have hm := List.mem_of_getElem? h1
      simp at hm
      subst hm
      have : wr.heap.size = k := by simpa [Value.ownBlock] using h2
      rcases hv1 k h3 with h3 | h3
      · have := hvlt k h3; omega
      · omega
/-- one variable more in the last block -/
theorem Bk.more {W wr w1 : World} {g cap : Nat} {x x1 : Value} {vs : List Value} {l : List (List Int)} {r : List Int} {y : Int} (h : Bk W wr (.slice (some ⟨g, 0, none⟩) (vs ++ [x]).length cap) (vs ++ [x]) (l ++ [r])) (ho : w1.ownsRow W.heap.size 3 1 x1 (r ++ [y]).length (nums .i64 (r ++ [y]))) (hb : Below W.heap.size W w1) (hg : wr.grownBy w1 x.ownBlock) (ha : x1.ownBlock = x.ownBlock ∨ ∃ b, x1.ownBlock = some b ∧ wr.heap.size ≤ b) :
    Bk W (w1.setCell ⟨g, vs.length, none⟩ x1) (.slice (some ⟨g, 0, none⟩) (vs ++ [x]).length cap) (vs ++ [x1]) (l ++ [r ++ [y]]) := by
  have hn : vs.length = l.length := by have := h.n; simpa using this
  have hgo : (Value.slice (some ⟨g, 0, none⟩) (vs ++ [x]).length cap).ownBlock = some g := by simp [Value.ownBlock]
  obtain ⟨hg1, hg2⟩ := own_base h.o hgo
  have hxg : ∀ k, x.ownBlock = some k → k ≠ g := fun k hk e => h.e vs.length x k (by simp) hk (by rw [hgo, e])
  have hx1g : ∀ k, x1.ownBlock = some k → k ≠ g := fun k hk e => by
    rcases ha with ha | ⟨b, ha, hlt⟩
    · exact hxg k (by rw [← ha]; exact hk) e
    · rw [hk] at ha; injection ha with ha; omega
  have ho1 : w1.ownsRow W.heap.size 52 1 (.slice (some ⟨g, 0, none⟩) (vs ++ [x]).length cap) (vs ++ [x]).length (vs ++ [x]) := own_move h.o fun k hk => by
    rw [hgo] at hk; injection hk with hk; subst hk
    exact hg.block _ hg2 fun e => hxg _ e.symm rfl
  have hst := ho1.stored vs.length x1
  have hset : (vs ++ [x]).set vs.length x1 = vs ++ [x1] := by simp
  have hlen : (vs ++ [x]).length = (vs ++ [x1]).length := by simp
  rw [hset] at hst
  have hbl : ∀ k, k ≠ g → (w1.setCell ⟨g, vs.length, none⟩ x1).heap[k]? = w1.heap[k]? := fun k hk => Below.heap_setCell _ _ _ k hk
  have hrow : ∀ (i : Nat) (z : Value), vs[i]? = some z → ∃ q, l[i]? = some q := fun i z hz => by
    have : i < l.length := by rw [← hn]; exact (List.getElem?_eq_some_iff.1 hz).1
    exact ⟨l[i], List.getElem?_eq_getElem this⟩
  have old : ∀ (i : Nat) (z : Value), vs[i]? = some z → (vs ++ [x])[i]? = some z := fun i z hz => by
    rw [List.getElem?_append_left (List.getElem?_eq_some_iff.1 hz).1]; exact hz
  have oldl : ∀ (i : Nat) (q : List Int), l[i]? = some q → (l ++ [r])[i]? = some q := fun i z hz => by
    rw [List.getElem?_append_left (List.getElem?_eq_some_iff.1 hz).1]; exact hz
  have hzx : ∀ (i : Nat) (z : Value) (k : Nat), vs[i]? = some z → z.ownBlock = some k → x.ownBlock ≠ some k := fun i z k hz hk hxk => by
    have := h.d i vs.length z x k (old i z hz) (by simp) hk hxk
    have := (List.getElem?_eq_some_iff.1 hz).1
    omega
  have hzlt : ∀ (i : Nat) (z : Value) (k : Nat), vs[i]? = some z → z.ownBlock = some k → k < wr.heap.size ∧ k ≠ g := fun i z k hz hk => by
    obtain ⟨q, hq⟩ := hrow i z hz
    exact ⟨(own_base (h.r i z q (old i z hz) (oldl i q hq)) hk).2, fun e => h.e i z k (old i z hz) hk (by rw [hgo, e])⟩
  have hzx1 : ∀ (i : Nat) (z : Value) (k : Nat), vs[i]? = some z → z.ownBlock = some k → x1.ownBlock ≠ some k := fun i z k hz hk hxk => by
    rcases ha with ha | ⟨b, ha, hlt⟩
    · exact hzx i z k hz hk (by rw [← ha]; exact hxk)
    · rw [hxk] at ha; injection ha with ha; have := (hzlt i z k hz hk).1; omega
  refine ⟨by simp [hn], by rw [← hlen]; exact hst.1, fun i z q h1 h2 => ?_, fun i j z z' k h1 h2 h3 h4 => ?_, fun i z k h1 h2 h3 => ?_, below_set hb hg1⟩
  · rw [List.getElem?_append] at h1 h2
    by_cases hi : i < vs.length
    · rw [if_pos hi] at h1
      rw [if_pos (by rw [← hn]; exact hi)] at h2
      refine own_move (h.r i z q (old i z h1) (oldl i q h2)) fun k hk => ?_
      obtain ⟨q1, q2⟩ := hzlt i z k h1 hk
      rw [hbl k q2]
      exact hg.block k q1 fun e => hzx i z k h1 hk e.symm
    · rw [if_neg hi] at h1
      rw [if_neg (by rw [← hn]; exact hi), ← hn] at h2
      have hi0 : i - vs.length = 0 := by
        have := (List.getElem?_eq_some_iff.1 h1).1
        simp at this; omega
      rw [hi0] at h1 h2
      simp at h1 h2
      subst h1; subst h2
      exact own_move ho fun k hk => hbl k (hx1g k hk)
  · rw [List.getElem?_append] at h1 h2
    by_cases hi : i < vs.length <;> by_cases hj : j < vs.length
    · rw [if_pos hi] at h1
      rw [if_pos hj] at h2
      exact h.d i j z z' k (old i z h1) (old j z' h2) h3 h4
    · rw [if_pos hi] at h1
      rw [if_neg hj] at h2
      have hm := List.mem_of_getElem? h2
      simp at hm
      subst hm
      exact absurd h4 (hzx1 i z k h1 h3)
    · rw [if_neg hi] at h1
      rw [if_pos hj] at h2
      have hm := List.mem_of_getElem? h1
      simp at hm
      subst hm
      exact absurd h3 (hzx1 j z' k h2 h4)
    · rw [if_neg hi] at h1
      rw [if_neg hj] at h2
      have a1 := (List.getElem?_eq_some_iff.1 h1).1
      have a2 := (List.getElem?_eq_some_iff.1 h2).1
      simp at a1 a2
      omega
  · have h3' : g = k := by simpa [Value.ownBlock] using h3
    rw [List.getElem?_append] at h1
    by_cases hi : i < vs.length
    · rw [if_pos hi] at h1
      exact (hzlt i z k h1 h2).2 h3'.symm
    · rw [if_neg hi] at h1
      have hm := List.mem_of_getElem? h1
      simp at hm
      subst hm
      exact hx1g k h2 h3'.symm
theorem Bk.cell {W wr w1 : World} {g cap : Nat} {x : Value} {vs : List Value} {l : List (List Int)} (h : Bk W wr (.slice (some ⟨g, 0, none⟩) (vs ++ [x]).length cap) (vs ++ [x]) l) (hg : wr.grownBy w1 x.ownBlock) : w1.cell? ⟨g, vs.length, none⟩ = some x ∧ w1.frozen? ⟨g, vs.length, none⟩ = false := by
  have hgo : (Value.slice (some ⟨g, 0, none⟩) (vs ++ [x]).length cap).ownBlock = some g := by simp [Value.ownBlock]
  obtain ⟨hg1, hg2⟩ := own_base h.o hgo
  have ho1 : w1.ownsRow W.heap.size 52 1 (.slice (some ⟨g, 0, none⟩) (vs ++ [x]).length cap) (vs ++ [x]).length (vs ++ [x]) := own_move h.o fun k hk => by
    rw [hgo] at hk; injection hk with hk; subst hk
    exact hg.block _ hg2 fun e => h.e vs.length x _ (by simp) e.symm hgo
  have hc := ho1.cells (g := g) rfl vs.length x (by simp)
  rw [add_plain] at hc
  refine ⟨hc, ?_⟩
  rcases ho1.2 with ⟨h', _⟩ | ⟨g', cap', cur, h', _, hh, _⟩
  · cases h'
  · have : g = g' := by injection h' with h'; injection h' with h'; injection h' with h'
    subst this
    simp [World.frozen?, hh]
/-- the blocks as a list of lists that is read -/
theorem Bk.reads {W wr : World} {v : Value} {vs : List Value} {l : List (List Int)} (h : Bk W wr v vs l) (hl : l.length ≤ 9223372036854775807) : ∃ A c, v = .slice A l.length c ∧ l.length ≤ c ∧ Kd.C (Kd.slice 3 (Kd.int .i64)) wr A l.length l := by
  have hrow : ∀ (i : Nat) (x : Value) (r : List Int), vs[i]? = some x → l[i]? = some r → ∃ A c, x = .slice A r.length c ∧ r.length ≤ c ∧ Kd.C (Kd.int .i64) wr A r.length r := fun i x r h1 h2 => by
    have ho := h.r i x r h1 h2
    obtain ⟨A, c, rfl, hr⟩ := own_reads ho
    refine ⟨A, c, rfl, ?_, C_of_reads hr⟩
    rcases ho.2 with ⟨e, h0⟩ | ⟨g, cap, cur, e, _, _, hle, _⟩
    · injection e with e1 e2 e3; omega
    · injection e with e1 e2 e3; omega
  have hn := h.n
  rcases h.o.2 with ⟨rfl, h0⟩ | ⟨g, cap, cur, rfl, _, _, hle, _⟩
  · have hl0 : l = [] := List.eq_nil_of_length_eq_zero (by omega)
    subst hl0
    exact ⟨none, 0, rfl, Nat.le_refl _, rfl, by decide, fun h => absurd h (by decide)⟩
  · rw [hn] at hle ⊢
    refine ⟨some ⟨g, 0, none⟩, cap, rfl, hle, rfl, hl, fun _ => ⟨⟨g, 0, none⟩, rfl, fun j r hj => ?_⟩⟩
    have hjl : j < vs.length := by rw [hn]; exact (List.getElem?_eq_some_iff.1 hj).1
    have hx : vs[j]? = some vs[j] := List.getElem?_eq_getElem hjl
    obtain ⟨A, c, e, h1, h2⟩ := hrow j _ r hx hj
    refine ⟨[vs[j]], rfl, ⟨A, c, by rw [e], h1, h2⟩, fun i u hu => ?_⟩
    cases i with
    | zero =>
      simp at hu
      subst hu
      have := h.o.cells (g := g) rfl j _ hx
      show wr.cell? ((⟨g, 0, none⟩ : Addr).add (j * 1 + 0)) = _
      rw [Nat.mul_one, Nat.add_zero]
      exact this
    | succ i => simp at hu
end Go.Proofs.Ytpfbommaddaijaa

