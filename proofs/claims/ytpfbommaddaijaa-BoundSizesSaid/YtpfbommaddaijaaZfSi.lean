/- The law BoundSizes: the lists and the blocks, in plain mathematics. -/
import Derived.Test.YtpfbommaddaijaaZfSa
import Derived.Test.YtpfbommaddaijaaZfSb
import Derived.Test.YtpfbommaddaijaaZfSf
import Derived.Test.YtpfbommaddaijaaZfSe
namespace Go.Proofs.Ytpfbommaddaijaa
open Go.RowKit
set_option linter.unusedVariables false
set_option linter.unusedSimpArgs false

theorem ed_snoc (a : Nat) (B : List Nat) : ∀ A, ed (A ++ [a]) B = ed A B + B.countP (adj a)
  | [] => by simp [ed]
  | b :: A => by rw [List.cons_append, ed, ed, ed_snoc a B A]; omega
theorem take_int (l : List Int) {i : Nat} (h : i < l.length) : l.take (i + 1) = l.take i ++ [l.getD i 0] := by
  rw [List.take_add_one, List.getD_eq_getElem?_getD, List.getElem?_eq_getElem h]; simp
theorem er_count (B : List Int) (x : Int) : ∀ j, j ≤ B.length → er (fun i => B.getD i 0) x j = ((B.take j).map Int.toNat).countP (adj x.toNat)
  | 0, _ => by simp [er]
  | j + 1, h => by
    rw [er, er_count B x j (by omega), take_int B (by omega), List.map_append, List.countP_append]
    congr 1
    simp only [List.map_cons, List.map_nil, List.countP_cons, List.countP_nil, adj, xr, Nat.zero_add]
    rfl
theorem es_ed (A B : List Int) : ∀ i, i ≤ A.length → es (fun i => A.getD i 0) (fun i => B.getD i 0) B.length i = ed ((A.take i).map Int.toNat) (B.map Int.toNat)
  | 0, _ => by simp [es, ed]
  | i + 1, h => by
    rw [es, es_ed A B i (by omega), er_count B _ _ (Nat.le_refl _), take_int A (by omega), List.map_append, List.map_cons, List.map_nil, ed_snoc, List.take_length]
theorem es_all (A B : List Int) : es (fun i => A.getD i 0) (fun i => B.getD i 0) B.length A.length = ed (A.map Int.toNat) (B.map Int.toNat) := by
  rw [es_ed A B _ (Nat.le_refl _), List.take_length]
theorem map_nat_nodup : ∀ {A : List Int}, A.Nodup → (∀ y, y ∈ A → 0 ≤ y) → (A.map Int.toNat).Nodup
  | [], _, _ => List.nodup_nil
  | a :: A, h, h0 => by
    obtain ⟨h1, h2⟩ := List.nodup_cons.1 h
    rw [List.map_cons, List.nodup_cons]
    refine ⟨fun hm => h1 ?_, map_nat_nodup h2 fun y hy => h0 y (by simp [hy])⟩
    obtain ⟨b, hb, e⟩ := List.mem_map.1 hm
    have := h0 a (by simp)
    have := h0 b (by simp [hb])
    rwa [show a = b by omega]
/-- the numbers rise -/
theorem laz_rise (sk f : Nat → Bool) : ∀ x, (laz sk f x).Pairwise (· < ·)
  | 0 => List.Pairwise.nil
  | x + 1 => by
    rw [laz]; split; · exact laz_rise sk f x
    split; · exact laz_rise sk f x
    refine List.pairwise_append.2 ⟨laz_rise sk f x, by simp, fun a ha b hb => ?_⟩
    simp at hb
    obtain ⟨u, rfl, h, _⟩ := laz_mem ha
    omega
theorem lbz_rise (sk f : Nat → Bool) : ∀ x, (lbz sk f x).Pairwise (· < ·)
  | 0 => List.Pairwise.nil
  | x + 1 => by
    rw [lbz]; split; · exact lbz_rise sk f x
    split
    · refine List.pairwise_append.2 ⟨lbz_rise sk f x, by simp, fun a ha b hb => ?_⟩
      simp at hb
      obtain ⟨u, rfl, h, _⟩ := lbz_mem ha
      omega
    · exact lbz_rise sk f x
theorem getD_mem {l : List Int} {j : Nat} (h : j < l.length) : l.getD j 0 ∈ l := by
  rw [List.getD_eq_getElem?_getD, List.getElem?_eq_getElem h]; exact List.getElem_mem h
theorem rise_getD {l : List Int} (h : l.Pairwise (· < ·)) {j : Nat} (h0 : 0 < j) (hj : j < l.length) : l.getD (j - 1) 0 < l.getD j 0 := by
  rw [List.getD_eq_getElem?_getD, List.getD_eq_getElem?_getD, List.getElem?_eq_getElem hj, List.getElem?_eq_getElem (show j - 1 < l.length by omega)]
  exact List.pairwise_iff_getElem.1 h (j - 1) j (by omega) hj (by omega)
theorem al_of {N : Nat} {f : Nat → Bool} {l : List Int} {is : Bool} (h0 : 0 < l.length) (hr : l.Pairwise (· < ·)) (hm : ∀ y, y ∈ l → ∃ u : Nat, y = u ∧ u < N ∧ f u = is) : Al N f (fun i => l.getD i 0) is l.length :=
  ⟨h0, fun j hj => by
    obtain ⟨u, e, h1, h2⟩ := hm _ (getD_mem hj)
    refine ⟨?_, ?_, ?_, fun h => rise_getD hr h hj⟩
    · show 0 ≤ l.getD j 0; omega
    · show l.getD j 0 < N; omega
    · show f (l.getD j 0).toNat = is; rw [e, Int.toNat_natCast]; exact h2⟩
/-- KHRAPCHENKO for the lists of the law -/
theorem khr_lists {t : Fx} {sk : Nat → Bool} {N : Nat} {f : Nat → Bool} (hN : N ≤ 256) (h5 : t.has 5 = false) (ho : t.ok 16) (hf : ∀ u, u < N → f u = t.val u) : es (fun i => (laz sk f N).getD i 0) (fun i => (lbz sk f N).getD i 0) (lbz sk f N).length (laz sk f N).length * es (fun i => (laz sk f N).getD i 0) (fun i => (lbz sk f N).getD i 0) (lbz sk f N).length (laz sk f N).length ≤ t.size * ((laz sk f N).length * (lbz sk f N).length) := by
  rw [es_all]
  have h := khr_size (t := t) (A := (laz sk f N).map Int.toNat) (B := (lbz sk f N).map Int.toNat) h5 ho (map_nat_nodup (laz_nodup sk f N) fun y hy => by obtain ⟨u, e, _⟩ := laz_mem hy; omega) (map_nat_nodup (lbz_nodup sk f N) fun y hy => by obtain ⟨u, e, _⟩ := lbz_mem hy; omega) (fun a ha => by
    obtain ⟨y, hy, rfl⟩ := List.mem_map.1 ha
    obtain ⟨u, rfl, h1, h2⟩ := laz_mem hy
    rw [Int.toNat_natCast]
    exact ⟨by omega, by rw [← hf u h1]; exact h2⟩) (fun a ha => by
    obtain ⟨y, hy, rfl⟩ := List.mem_map.1 ha
    obtain ⟨u, rfl, h1, h2⟩ := lbz_mem hy
    rw [Int.toNat_natCast]
    exact ⟨by omega, by rw [← hf u h1]; exact h2⟩)
  simpa using h
theorem row_chk {n : Int} : ∀ {r met : List Int} {p : Option Int}, (∀ v, v ∈ r → 0 ≤ v ∧ v < n) → (∀ v, v ∈ r → ∀ u, u ∈ met → u < v) → (∀ q, p = some q → ∀ v, v ∈ r → q < v) → r.Pairwise (· < ·) → rowChk n met p r = some (r.reverse ++ met)
  | [], met, p, _, _, _, _ => rfl
  | v :: r, met, p, h1, h2, h3, h4 => by
    obtain ⟨a1, a2⟩ := h1 v (by simp)
    obtain ⟨b1, b2⟩ := List.pairwise_cons.1 h4
    rw [rowChk, if_neg]
    · rw [row_chk (fun w hw => h1 w (by simp [hw])) (fun w hw u hu => ?_) (fun q hq w hw => ?_) b2]
      · simp
      · rcases List.mem_cons.1 hu with rfl | hu
        · exact b1 w hw
        · exact h2 w (by simp [hw]) u hu
      · injection hq with hq; subst hq; exact b1 w hw
    · rintro (c | c | c | c)
      · omega
      · omega
      · have := h2 v (by simp) v c; omega
      · cases p with
        | none => cases c
        | some q => have := h3 q rfl v (by simp); have := of_decide_eq_true c; omega
theorem blk_chk {n : Int} : ∀ {l : List (List Int)} {met : List Int}, (∀ r, r ∈ l → r ≠ []) → (∀ v, v ∈ l.flatten → 0 ≤ v ∧ v < n) → (∀ v, v ∈ l.flatten → ∀ u, u ∈ met → u < v) → l.flatten.Pairwise (· < ·) → blkChk n met l = true
  | [], met, _, _, _, _ => rfl
  | r :: l, met, h0, h1, h2, h3 => by
    rw [List.flatten_cons] at h1 h2 h3
    obtain ⟨a1, a2, a3⟩ := List.pairwise_append.1 h3
    rw [blkChk, if_neg (h0 r (by simp)), row_chk (fun v hv => h1 v (by simp [hv])) (fun v hv => h2 v (by simp [hv])) (fun q hq => by cases hq) a1]
    refine blk_chk (fun q hq => h0 q (by simp [hq])) (fun v hv => h1 v (List.mem_append_right _ hv)) (fun v hv u hu => ?_) a2
    rcases List.mem_append.1 hu with hu | hu
    · exact a3 u (List.mem_reverse.1 hu) v hv
    · exact h2 v (List.mem_append_right _ hv) u hu
/-- the blocks hold the variables on which the table depends, in order -/
theorem bkz_flat (dp jt : Nat → Bool) : ∀ v, (bkz dp jt v).flatten = ((List.range v).filter dp).map fun u : Nat => (u : Int)
  | 0 => rfl
  | v + 1 => by
    have ih := bkz_flat dp jt v
    rw [List.range_succ, List.filter_append, List.map_append, ← ih]
    by_cases e : dp v = false
    · rw [bkz_same e]; simp [e]
    have e' : dp v = true := by simpa using e
    by_cases h2 : 0 < (bkz dp jt v).length ∧ jt v = true
    · obtain ⟨l, q, hq⟩ := last_of h2.1
      rw [bkz_more e' h2.2 hq, hq]; simp [e']
    · rw [bkz_new e' h2]; simp [e']
theorem bkz_ne {dp jt : Nat → Bool} {r : List Int} : ∀ {v}, r ∈ bkz dp jt v → r ≠ []
  | 0, h => by simp [bkz] at h
  | v + 1, h => by
    by_cases e : dp v = false
    · rw [bkz_same e] at h; exact bkz_ne h
    have e' : dp v = true := by simpa using e
    by_cases h2 : 0 < (bkz dp jt v).length ∧ jt v = true
    · obtain ⟨l, q, hq⟩ := last_of h2.1
      rw [bkz_more e' h2.2 hq, List.mem_append] at h
      rcases h with h | h
      · exact bkz_ne (v := v) (by rw [hq]; exact List.mem_append_left _ h)
      · simp at h; subst h; simp
    · rw [bkz_new e' h2, List.mem_append] at h
      rcases h with h | h
      · exact bkz_ne h
      · simp at h; subst h; simp
theorem bkz_mem {dp jt : Nat → Bool} {v : Nat} {y : Int} (h : y ∈ (bkz dp jt v).flatten) : ∃ u : Nat, y = u ∧ u < v ∧ dp u = true := by
  rw [bkz_flat] at h
  obtain ⟨u, hu, rfl⟩ := List.mem_map.1 h
  obtain ⟨h1, h2⟩ := List.mem_filter.1 hu
  exact ⟨u, rfl, List.mem_range.1 h1, h2⟩
theorem bkz_rise (dp jt : Nat → Bool) (v : Nat) : (bkz dp jt v).flatten.Pairwise (· < ·) := by
  rw [bkz_flat, List.pairwise_map]
  refine (List.pairwise_lt_range.filter _).imp fun h => ?_
  omega
theorem bkz_chk (dp jt : Nat → Bool) (n : Nat) : blkChk n [] (bkz dp jt n) = true :=
  blk_chk (fun r hr => bkz_ne hr) (fun v hv => by obtain ⟨u, rfl, h, _⟩ := bkz_mem hv; omega) (fun v hv u hu => by cases hu) (bkz_rise dp jt n)
theorem bkz_sm (dp jt : Nat → Bool) {n : Nat} (hn : n ≤ 16) : Sm (bkz dp jt n) :=
  ⟨by have := bkz_len dp jt n; omega, fun i => by
    by_cases h : i < (bkz dp jt n).length
    · have hm : (bkz dp jt n).getD i [] ∈ bkz dp jt n := by rw [List.getD_eq_getElem?_getD, List.getElem?_eq_getElem h]; exact List.getElem_mem h
      have := bkz_row hm; omega
    · rw [List.getD_eq_getElem?_getD, List.getElem?_eq_none (by omega)]; simp⟩
/-- NECHIPORUK for the blocks of the law -/
theorem nech_blocks {t : Fx} {f : Nat → Bool} {n : Nat} (jt : Nat → Bool) (hf : ∀ u, u < 2 ^ n → f u = t.val u) : sums f n (bkz (dpd ((List.range (2 ^ n)).map f) n) jt n) ≤ 4 * (t.size : Int) := by
  have h0 : ∀ r, r ∈ bkz (dpd ((List.range (2 ^ n)).map f) n) jt n → ∀ x, x ∈ r → 0 ≤ x ∧ x < n := fun r hr x hx => by
    obtain ⟨u, rfl, h, _⟩ := bkz_mem (List.mem_flatten.2 ⟨r, hr, hx⟩); omega
  have h1 := nech_size (t := t) hf h0 fun r hr => by
    obtain ⟨x, hx⟩ := List.exists_mem_of_ne_nil r (bkz_ne hr)
    obtain ⟨u, rfl, hu, hd⟩ := bkz_mem (List.mem_flatten.2 ⟨r, hr, hx⟩)
    obtain ⟨y, hy, hne⟩ := of_decide_eq_true hd
    have hy2 : y ^^^ 2 ^ u < 2 ^ n := Nat.xor_lt_two_pow hy (Nat.pow_lt_pow_right (by decide) hu)
    rw [map_getD f hy, map_getD f hy2, hf _ hy, hf _ hy2] at hne
    refine lin_pos (v := u) (mem_blk hx) (x := y) (y := y ^^^ 2 ^ u) (fun w hw => ?_) hne
    rw [Nat.testBit_xor, Nat.testBit_two_pow]
    simp [show ¬ u = w from fun e => hw e.symm]
  have h2 := linS_le (l := bkz (dpd ((List.range (2 ^ n)).map f) n) jt n) ((bkz_rise _ jt n).imp fun h => by omega) (fun r hr x hx => (h0 r hr x hx).1) t
  omega
end Go.Proofs.Ytpfbommaddaijaa

