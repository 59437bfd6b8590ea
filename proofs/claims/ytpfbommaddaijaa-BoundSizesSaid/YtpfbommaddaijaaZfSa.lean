/- Nechiporuk's bound for formulas, in plain mathematics. -/
import Derived.Test.YtpfbommaddaijaaZfFm
import Derived.Test.YtpfbommaddaijaaZfN3
namespace Go.Proofs.Ytpfbommaddaijaa
open Go.RowKit
set_option linter.unusedVariables false
set_option linter.unusedSimpArgs false

/-- a list without doubles is not longer than one that holds it -/
theorem nodup_len {α : Type} [DecidableEq α] : ∀ {l K : List α}, l.Nodup → (∀ x, x ∈ l → x ∈ K) → l.length ≤ K.length
  | [], K, _, _ => Nat.zero_le _
  | a :: l, K, h, hs => by
    have ha : a ∈ K := hs a (by simp)
    obtain ⟨h1, h2⟩ := List.nodup_cons.1 h
    have := nodup_len (l := l) (K := K.erase a) h2 fun x hx => (List.mem_erase_of_ne (by rintro rfl; exact h1 hx)).2 (hs x (by simp [hx]))
    rw [List.length_erase_of_mem ha] at this
    have : 0 < K.length := List.length_pos_of_mem ha
    simp only [List.length_cons]; omega
/-- the different functions are no more than a list that holds them all -/
theorem cnt_list (P : Nat → Bool) (key : Nat → List Bool) : ∀ i, ∃ l : List (List Bool), l.Nodup ∧ l.length = cnt P key i ∧ ∀ y, y ∈ l ↔ ∃ j, j < i ∧ P j = true ∧ key j = y
  | 0 => ⟨[], List.nodup_nil, rfl, fun y => by simp⟩
  | i + 1 => by
    obtain ⟨l, h1, h2, h3⟩ := cnt_list P key i
    rw [cnt]
    by_cases e : P i = true ∧ ¬ ∃ j, j < i ∧ P j = true ∧ key j = key i
    · rw [if_pos e]
      refine ⟨key i :: l, List.nodup_cons.2 ⟨fun h => e.2 ((h3 _).1 h), h1⟩, by simp [h2], fun y => ?_⟩
      rw [List.mem_cons, h3]
      constructor
      · rintro (rfl | ⟨j, a, b⟩)
        · exact ⟨i, by omega, e.1, rfl⟩
        · exact ⟨j, by omega, b⟩
      · rintro ⟨j, a, b, c⟩
        by_cases ej : j = i
        · subst ej; exact .inl c.symm
        · exact .inr ⟨j, by omega, b, c⟩
    · rw [if_neg e]
      refine ⟨l, h1, h2, fun y => ?_⟩
      rw [h3]
      constructor
      · rintro ⟨j, a, b⟩; exact ⟨j, by omega, b⟩
      · rintro ⟨j, a, b, c⟩
        by_cases ej : j = i
        · subst ej
          by_cases q : ∃ k, k < j ∧ P k = true ∧ key k = key j
          · obtain ⟨k, q1, q2, q3⟩ := q; exact ⟨k, q1, q2, q3.trans c⟩
          · exact absurd ⟨b, q⟩ e
        · exact ⟨j, by omega, b, c⟩
theorem cnt_bound {P : Nat → Bool} {key : Nat → List Bool} {i : Nat} {K : List (List Bool)} (h : ∀ j, j < i → P j = true → key j ∈ K) : cnt P key i ≤ K.length := by
  obtain ⟨l, h1, h2, h3⟩ := cnt_list P key i
  rw [← h2]
  exact nodup_len h1 fun x hx => by obtain ⟨j, a, b, rfl⟩ := (h3 x).1 hx; exact h j a b
/-- the leaves of a formula whose variable lies in a block -/
def Fx.lin (B : Nat → Bool) : Fx → Nat
  | .leaf k n => if k = 0 ∧ B n.toNat = true then 1 else 0
  | .not a => a.lin B
  | .bin _ a b => a.lin B + b.lin B
def opv (k : Int) (x y : Bool) : Bool := if k = 3 then x && y else if k = 4 then x || y else x != y
theorem val_bin (u : Nat) (k : Int) (a b : Fx) : (Fx.bin k a b).val u = opv k (a.val u) (b.val u) := rfl
/-- two inputs that agree outside a block -/
theorem lin_same {B : Nat → Bool} {x y : Nat} (h : ∀ v, B v = false → x.testBit v = y.testBit v) : ∀ {t : Fx}, t.lin B = 0 → t.val x = t.val y
  | .leaf k n, e => by
    simp only [Fx.lin] at e
    simp only [Fx.val]
    by_cases hk : k = 0
    · rw [if_pos hk, if_pos hk]
      refine h _ ?_
      cases eb : B n.toNat with
      | false => rfl
      | true => rw [if_pos ⟨hk, eb⟩] at e; cases e
    · rw [if_neg hk, if_neg hk]
  | .not a, e => by simp only [Fx.val]; rw [lin_same h (t := a) e]
  | .bin k a b, e => by
    simp only [Fx.lin] at e
    rw [val_bin, val_bin, lin_same h (t := a) (by omega), lin_same h (t := b) (by omega)]
/-- unary functions -/
def una (u : Bool × Bool) (x : Bool) : Bool := if x = true then u.2 else u.1
def unas : List (Bool × Bool) := [(false, true), (true, false), (false, false), (true, true)]
theorem unas_all (u : Bool × Bool) : u ∈ unas := by obtain ⟨a, b⟩ := u; cases a <;> cases b <;> decide
/-- the values that a formula may take on a block, for the inputs s y of the block -/
def Tb (B : Nat → Bool) (s : Nat → Nat) (N : Nat) : Fx → List (List Bool)
  | .leaf k n => unas.map fun u => (List.range N).map fun y => una u ((s y).testBit n.toNat)
  | .not a => Tb B s N a
  | .bin k a b => if a.lin B = 0 then Tb B s N b else if b.lin B = 0 then Tb B s N a else
      unas.flatMap fun u => (Tb B s N a).flatMap fun p => (Tb B s N b).map fun q => (List.range N).map fun y => una u (opv k (p.getD y false) (q.getD y false))
theorem flat_len {α β : Type} {f : α → List β} {m : Nat} : ∀ {l : List α}, (∀ x, x ∈ l → (f x).length ≤ m) → (l.flatMap f).length ≤ l.length * m
  | [], _ => by simp
  | a :: l, h => by
    rw [List.flatMap_cons, List.length_append, List.length_cons, Nat.succ_mul]
    have := h a (by simp)
    have := flat_len (l := l) fun x hx => h x (by simp [hx])
    omega
theorem Tb_len {B : Nat → Bool} {s : Nat → Nat} {N : Nat} : ∀ {t : Fx}, t.lin B ≠ 0 → (Tb B s N t).length ≤ 2 ^ (4 * t.lin B - 2)
  | .leaf k n, e => by
    simp only [Fx.lin] at e ⊢
    split
    · simp [Tb, unas]
    · simp_all
  | .not a, e => Tb_len (t := a) e
  | .bin k a b, e => by
    simp only [Fx.lin] at e ⊢
    rw [Tb]
    by_cases h1 : a.lin B = 0
    · rw [if_pos h1, h1, Nat.zero_add]; exact Tb_len (t := b) (by omega)
    rw [if_neg h1]
    by_cases h2 : b.lin B = 0
    · rw [if_pos h2, h2, Nat.add_zero]; exact Tb_len (t := a) h1
    rw [if_neg h2]
    have ha := Tb_len (B := B) (s := s) (N := N) (t := a) h1
    have hb := Tb_len (B := B) (s := s) (N := N) (t := b) h2
    refine Nat.le_trans (flat_len (m := 2 ^ (4 * a.lin B - 2) * 2 ^ (4 * b.lin B - 2)) fun u _ => ?_) ?_
    · refine Nat.le_trans (flat_len (m := 2 ^ (4 * b.lin B - 2)) fun p _ => ?_) (Nat.mul_le_mul_right _ ha)
      rw [List.length_map]; exact hb
    · rw [← Nat.pow_add]
      show 4 * _ ≤ _
      rw [show (4 : Nat) = 2 ^ 2 from rfl, ← Nat.pow_add]
      exact Nat.pow_le_pow_right (by decide) (by omega)
theorem map_getD {N : Nat} (f : Nat → Bool) {y : Nat} (h : y < N) : ((List.range N).map f).getD y false = f y := by
  rw [List.getD_eq_getElem?_getD, List.getElem?_map, List.getElem?_range h]; rfl
theorem una_una (u v : Bool × Bool) : ∃ w, ∀ x, una u (una v x) = una w x := ⟨(una u (una v false), una u (una v true)), fun x => by cases x <;> rfl⟩
theorem opv_l (k : Int) (c : Bool) : ∃ u, ∀ x, opv k c x = una u x := ⟨(opv k c false, opv k c true), fun x => by cases x <;> rfl⟩
theorem opv_r (k : Int) (c : Bool) : ∃ u, ∀ x, opv k x c = una u x := ⟨(opv k false c, opv k true c), fun x => by cases x <;> rfl⟩
/-- an input x outside the block joined with s y inside -/
structure Blkd (B : Nat → Bool) (s : Nat → Nat) (N : Nat) (z : Nat → Nat) : Prop where
  i : ∀ y, y < N → ∀ v, B v = true → (z y).testBit v = (s y).testBit v
  o : ∀ y y', y < N → y' < N → ∀ v, B v = false → (z y).testBit v = (z y').testBit v
theorem Tb_mem {B : Nat → Bool} {s z : Nat → Nat} {N : Nat} (h : Blkd B s N z) : ∀ {t : Fx}, t.lin B ≠ 0 → ∀ u, ((List.range N).map fun y => una u (t.val (z y))) ∈ Tb B s N t
  | .leaf k n, e, u => by
    simp only [Fx.lin] at e
    have hk : k = 0 ∧ B n.toNat = true := by
      by_cases q : k = 0 ∧ B n.toNat = true
      · exact q
      · rw [if_neg q] at e; exact absurd rfl e
    rw [Tb, List.mem_map]
    refine ⟨u, unas_all u, List.map_congr_left fun y hy => ?_⟩
    rw [List.mem_range] at hy
    simp only [Fx.val]
    rw [if_pos hk.1, h.i y hy _ hk.2]
  | .not a, e, u => by
    have hu := Tb_mem h (t := a) e (una u true, una u false)
    rw [Tb]
    refine (congrArg (· ∈ Tb B s N a) (List.map_congr_left fun y _ => ?_)).mp hu
    simp only [Fx.val]
    cases a.val (z y) <;> rfl
  | .bin k a b, e, u => by
    simp only [Fx.lin] at e
    rw [Tb]
    by_cases h1 : a.lin B = 0
    · rw [if_pos h1]
      by_cases hN : N = 0
      · subst hN; exact Tb_mem h (t := b) (by omega) u
      obtain ⟨v, hv⟩ := opv_l k (a.val (z 0))
      obtain ⟨w, hw⟩ := una_una u v
      refine (congrArg (· ∈ Tb B s N b) (List.map_congr_left fun y hy => ?_)).mp (Tb_mem h (t := b) (by omega) w)
      rw [List.mem_range] at hy
      rw [val_bin, lin_same (x := z y) (y := z 0) (fun v hv => h.o y 0 hy (by omega) v hv) h1, hv, hw]
    rw [if_neg h1]
    by_cases h2 : b.lin B = 0
    · rw [if_pos h2]
      by_cases hN : N = 0
      · subst hN; exact Tb_mem h (t := a) h1 u
      obtain ⟨v, hv⟩ := opv_r k (b.val (z 0))
      obtain ⟨w, hw⟩ := una_una u v
      refine (congrArg (· ∈ Tb B s N a) (List.map_congr_left fun y hy => ?_)).mp (Tb_mem h (t := a) h1 w)
      rw [List.mem_range] at hy
      rw [val_bin, lin_same (x := z y) (y := z 0) (fun v hv => h.o y 0 hy (by omega) v hv) h2, hv, hw]
    rw [if_neg h2, List.mem_flatMap]
    refine ⟨u, unas_all u, List.mem_flatMap.2 ⟨_, Tb_mem h (t := a) h1 (false, true), List.mem_map.2 ⟨_, Tb_mem h (t := b) h2 (false, true), List.map_congr_left fun y hy => ?_⟩⟩⟩
    rw [List.mem_range] at hy
    rw [map_getD _ hy, map_getD _ hy, val_bin]
    have : ∀ x, una (false, true) x = x := fun x => by cases x <;> rfl
    rw [this, this]
/-- the block of a row -/
def blk (l : Nat → Nat) (k : Nat) (v : Nat) : Bool := decide (∃ i, i < k ∧ l i = v)
theorem spr_out {l : Nat → Nat} {y v : Nat} : ∀ {k : Nat}, (∀ i, i < k → l i ≠ v) → (spr l y k).testBit v = false
  | 0, _ => by simp [spr]
  | k + 1, h => by
    rw [spr, Nat.testBit_or, spr_out fun i hi => h i (by omega)]
    split
    · rw [Nat.testBit_two_pow]; simp [h k (by omega)]
    · simp
theorem msk_in {l : Nat → Nat} {v : Nat} : ∀ {k i : Nat}, i < k → l i = v → (msk l k).testBit v = true
  | k + 1, i, hi, e => by
    rw [msk, Nat.testBit_or]
    by_cases hk : i = k
    · subst hk; subst e; simp [Nat.testBit_two_pow]
    · rw [msk_in (i := i) (by omega) e]; rfl
theorem blk_blkd {l : Nat → Nat} {k x : Nat} (hx : out l k x = true) : Blkd (blk l k) (fun y => spr l y k) (2 ^ k) (fun y => x ||| spr l y k) where
  i y hy v hv := by
    obtain ⟨i, hi, e⟩ := of_decide_eq_true hv
    have hm := msk_in hi e
    have : (x &&& msk l k).testBit v = false := by
      rw [show x &&& msk l k = 0 by simpa [out] using hx]; simp
    rw [Nat.testBit_and, hm, Bool.and_true] at this
    rw [Nat.testBit_or, this, Bool.false_or]
  o y y' hy hy' v hv := by
    have : ∀ i, i < k → l i ≠ v := fun i hi e => by
      have := of_decide_eq_false hv
      exact this ⟨i, hi, e⟩
    rw [Nat.testBit_or, Nat.testBit_or, spr_out this, spr_out this]
theorem spr_lim {l : Nat → Nat} {n : Nat} (y : Nat) : ∀ {k : Nat}, (∀ i, i < k → l i < n) → spr l y k < 2 ^ n
  | 0, _ => by rw [spr]; exact Nat.two_pow_pos n
  | k + 1, h => by
    rw [spr]
    refine Nat.or_lt_two_pow (spr_lim y fun i hi => h i (by omega)) ?_
    split
    · exact Nat.pow_lt_pow_right (by decide) (h k (by omega))
    · exact Nat.two_pow_pos n
/-- the different functions on a block are few -/
theorem cnt_few {t : Fx} {f : Nat → Bool} {l : Nat → Nat} {k n : Nat} (hl : ∀ i, i < k → l i < n) (hf : ∀ x, x < 2 ^ n → f x = t.val x) (h : t.lin (blk l k) ≠ 0) : cnt (out l k) (prt f l k) (2 ^ n) ≤ 2 ^ (4 * t.lin (blk l k) - 2) := by
  refine Nat.le_trans (cnt_bound (K := Tb (blk l k) (fun y => spr l y k) (2 ^ k) t) fun j hj hP => ?_) (Tb_len h)
  have := Tb_mem (blk_blkd hP) h (false, true)
  refine (congrArg (· ∈ Tb (blk l k) (fun y => spr l y k) (2 ^ k) t) (List.map_congr_left fun y hy => ?_)).mp this
  rw [hf _ (Nat.or_lt_two_pow hj (spr_lim y hl))]
  cases t.val (j ||| spr l y k) <;> rfl
theorem bl_lt {m x j : Nat} (h : x < 2 ^ j) : bl m x ≤ j := by
  induction m generalizing x j with
  | zero => exact Nat.zero_le _
  | succ m ih =>
    rw [bl]
    by_cases hx : x = 0
    · rw [if_pos hx]; exact Nat.zero_le _
    · rw [if_neg hx]
      cases j with
      | zero => rw [Nat.pow_zero] at h; omega
      | succ j => have := ih (x := x / 2) (j := j) (by rw [Nat.pow_succ] at h; omega); omega
/-- the leaves in all blocks -/
def linS (t : Fx) : List (List Int) → Nat
  | [] => 0
  | r :: l => t.lin (blk (pl r) r.length) + linS t l
theorem linS_not (a : Fx) : ∀ l, linS (.not a) l = linS a l
  | [] => rfl
  | r :: l => by rw [linS, linS, linS_not a l]; rfl
theorem linS_bin (k : Int) (a b : Fx) : ∀ l, linS (.bin k a b) l = linS a l + linS b l
  | [] => rfl
  | r :: l => by rw [linS, linS, linS, linS_bin k a b l, Fx.lin]; omega
theorem blk_mem {r : List Int} {v : Nat} (h0 : ∀ x, x ∈ r → 0 ≤ x) (h : blk (pl r) r.length v = true) : (v : Int) ∈ r := by
  obtain ⟨i, hi, e⟩ := of_decide_eq_true h
  unfold pl at e
  rw [if_pos hi] at e
  have hm : r.getD i 0 ∈ r := by
    rw [List.getD_eq_getElem?_getD, List.getElem?_eq_getElem hi]
    exact List.getElem_mem hi
  have := h0 _ hm
  rwa [show (v : Int) = r.getD i 0 by omega]
theorem mem_blk {r : List Int} {v : Nat} (h : (v : Int) ∈ r) : blk (pl r) r.length v = true := by
  obtain ⟨i, hi, e⟩ := List.getElem_of_mem h
  refine decide_eq_true ⟨i, hi, ?_⟩
  unfold pl
  rw [if_pos hi, List.getD_eq_getElem?_getD, List.getElem?_eq_getElem hi, e]
  simp
theorem linS_leaf {n : Int} : ∀ {l : List (List Int)}, (∀ r, r ∈ l → ∀ x, x ∈ r → 0 ≤ x) → linS (.leaf 0 n) l ≤ (l.flatten).count (n.toNat : Int)
  | [], _ => Nat.zero_le _
  | r :: l, h => by
    rw [linS, List.flatten_cons, List.count_append]
    have := linS_leaf (n := n) (l := l) fun r' hr => h r' (by simp [hr])
    have h2 : Fx.lin (blk (pl r) r.length) (.leaf 0 n) ≤ r.count (n.toNat : Int) := by
      simp only [Fx.lin]
      split
      · rename_i q
        exact List.count_pos_iff.2 (blk_mem (h r (by simp)) q.2)
      · exact Nat.zero_le _
    omega
theorem linS_le {l : List (List Int)} (hd : l.flatten.Nodup) (h0 : ∀ r, r ∈ l → ∀ x, x ∈ r → 0 ≤ x) : ∀ t : Fx, linS t l ≤ t.size
  | .leaf k n => by
    by_cases hk : k = 0
    · subst hk
      exact Nat.le_trans (linS_leaf h0) (List.nodup_iff_count.1 hd _)
    · have : ∀ l, linS (.leaf k n) l = 0 := fun l => by
        induction l with
        | nil => rfl
        | cons r l ih => rw [linS, ih]; simp [Fx.lin, hk]
      rw [this]; exact Nat.zero_le _
  | .not a => by rw [linS_not]; exact linS_le hd h0 a
  | .bin k a b => by rw [linS_bin, Fx.size]; have := linS_le hd h0 a; have := linS_le hd h0 b; omega
/-- a block on which the table depends has a leaf -/
theorem lin_pos {t : Fx} {B : Nat → Bool} {v : Nat} (hv : B v = true) {x y : Nat} (h : ∀ u, u ≠ v → x.testBit u = y.testBit u) (hd : t.val x ≠ t.val y) : t.lin B ≠ 0 := fun e =>
  hd (lin_same (B := B) (fun u hu => h u (by rintro rfl; rw [hv] at hu; cases hu)) e)
/-- NECHIPORUK: the sum of the logarithms is at most four times the size -/
theorem nech_size {t : Fx} {f : Nat → Bool} {n : Nat} (hf : ∀ x, x < 2 ^ n → f x = t.val x) : ∀ {l : List (List Int)}, (∀ r, r ∈ l → ∀ x, x ∈ r → 0 ≤ x ∧ x < n) → (∀ r, r ∈ l → t.lin (blk (pl r) r.length) ≠ 0) → sums f n l ≤ 4 * (linS t l : Nat)
  | [], _, _ => by simp [sums]; omega
  | r :: l, h0, hp => by
    rw [sums, linS]
    have ih := nech_size hf (l := l) (fun r' hr => h0 r' (by simp [hr])) fun r' hr => hp r' (by simp [hr])
    have h1 := hp r (by simp)
    have hl : ∀ i, i < r.length → pl r i < n := fun i hi => by
      unfold pl
      rw [if_pos hi]
      have hm : r.getD i 0 ∈ r := by
        rw [List.getD_eq_getElem?_getD, List.getElem?_eq_getElem hi]
        exact List.getElem_mem hi
      have := h0 r (by simp) _ hm
      omega
    have hc := cnt_few hl hf h1
    generalize hlin : t.lin (blk (pl r) r.length) = L at *
    have hb : bl 13 (cntR f n r) ≤ 4 * L - 2 + 1 := bl_lt (Nat.lt_of_le_of_lt hc (by rw [Nat.pow_succ]; have := Nat.two_pow_pos (4 * L - 2); omega))
    omega
end Go.Proofs.Ytpfbommaddaijaa

