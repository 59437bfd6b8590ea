/- Walks through the functions of the field and of its reference: what each call returns; no memory that was there is changed. -/
import Derived.Test.YtbddhccbmieokaaT4
namespace Go.Proofs.Ytbddhccbmieokaa
open Go.RowKit FieldMath

abbrev T2 (v e : Int) : Value := .tuple #[I v, I e]
theorem rt2 {a b c d : Int} (h : a = c) (h2 : b = d) : Ending.returned (.tuple #[.int .i64 a, .int .i64 b]) = .returned (T2 c d) := by rw [h, h2]

theorem ord_fq {P M : Nat} (h : FV P M) : ord P M = (fq P M : Nat) := by
  have hs := h.spec
  unfold ord fq
  rw [if_pos (show vld P M = true from h)]
  by_cases h1 : M = 1
  · rw [if_pos h1, if_neg (by omega)]
  · rw [if_neg h1, if_pos (by omega), Int.toNat_natCast, Int.natCast_pow]; rfl
theorem order_fv {P M : Nat} (h : FV P M) : Fn 14 #[A2 P M] (I (fq P M)) := by rw [← ord_fq h]; exact order_any P M
theorem of_res {P : Nat} (hv : FV P 1) : Fn 41 #[A2 P (1 : Nat)] (.iface 53 (AR P)) := by have := of_any P 1 hv; unfold ifc at this; rwa [if_pos rfl] at this
theorem of_bit {P M : Nat} (hv : FV P M) (h : M ≠ 1) : Fn 41 #[A2 P M] (.iface 55 (AB M (modT M))) := by have := of_any P M hv; unfold ifc at this; rwa [if_neg h] at this

theorem two_cells (W : World) (a b : Int) (t : TypeId) : ∀ i, i < [a, b].length → (W.alloc (.cells #[I a, I b] t)).cell? ⟨W.heap.size, i, none⟩ = some (I ([a, b].getD i 0)) := by
  intro i hi
  match i, hi with
  | 0, _ => simp [go_sem]
  | 1, _ => simp [go_sem]
theorem one_cell (W : World) (a : Int) (t : TypeId) : ∀ i, i < [a].length → (W.alloc (.cells #[I a] t)).cell? ⟨W.heap.size, i, none⟩ = some (I ([a].getD i 0)) := by
  intro i hi
  match i, hi with
  | 0, _ => simp [go_sem]
theorem ch2 (P M a b : Int) (w : World) : Calls Try.prog 43 #[A2 P M, .slice (some ⟨w.heap.size + 1, 0, none⟩) 2 2] ((w.alloc (.cells #[I P, I M] 23)).alloc (.cells #[I a, I b] 3)) fun e w' => e = .returned (I (chk P M [a, b])) ∧ Below w.heap.size w w' ∧ Below (w.heap.size + 1) (w.alloc (.cells #[I P, I M] 23)) w' :=
  (check_any P M [a, b] (w.heap.size + 1) 2 (by simp) ((w.alloc (.cells #[I P, I M] 23)).alloc (.cells #[I a, I b] 3)) (by simp) (by have := two_cells (w.alloc (.cells #[I P, I M] 23)) a b 3; simpa using this)).mono
    fun _ _ ⟨he, hb⟩ => ⟨he, (((Below.refl _ _).alloc (Nat.le_refl _) _).alloc (by simp) _).trans (hb.mono (by simp; omega)), ((Below.refl _ _).alloc (by simp) _).trans (hb.mono (by simp))⟩
theorem ch1 (P M a : Int) (w : World) : Calls Try.prog 43 #[A2 P M, .slice (some ⟨w.heap.size + 1, 0, none⟩) 1 1] ((w.alloc (.cells #[I P, I M] 23)).alloc (.cells #[I a] 3)) fun e w' => e = .returned (I (chk P M [a])) ∧ Below w.heap.size w w' ∧ Below (w.heap.size + 1) (w.alloc (.cells #[I P, I M] 23)) w' :=
  (check_any P M [a] (w.heap.size + 1) 1 (by simp) ((w.alloc (.cells #[I P, I M] 23)).alloc (.cells #[I a] 3)) (by simp) (by simp [go_sem])).mono
    fun _ _ ⟨he, hb⟩ => ⟨he, (((Below.refl _ _).alloc (Nat.le_refl _) _).alloc (by simp) _).trans (hb.mono (by simp; omega)), ((Below.refl _ _).alloc (by simp) _).trans (hb.mono (by simp))⟩
/-- the boxed field, read behind calls -/
theorem box_cells {w w' : World} {P M : Int} {t : TypeId} (hb : Below (w.heap.size + 1) (w.alloc (.cells #[I P, I M] t)) w') : w'.cell? ⟨w.heap.size, 0, none⟩ = some (I P) ∧ w'.cell? ⟨w.heap.size, 1, none⟩ = some (I M) ∧ w.heap.size < w'.heap.size := by
  refine ⟨?_, ?_, by have := hb.size; simp at this; omega⟩
  · rw [hb.cell (p := ⟨w.heap.size, 0, none⟩) (by simp)]; simp [go_sem]
  · rw [hb.cell (p := ⟨w.heap.size, 1, none⟩) (by simp)]; simp [go_sem]

theorem radd' (p a b : Nat) (hp : 2 ≤ p) (hp2 : p ≤ 65536) (h1 : a < p) (h3 : b < p) : Fn 59 #[AR p, I a, I b] (I ((a + b) % p : Nat)) := by
  have := radd p a b (by omega) (by omega) (by omega) (by omega) (by omega)
  rw [show (((a + b) % p : Nat) : Int) = ((a : Int) + b) % p by simp]; exact this
theorem rmul' (p a b : Nat) (hp : 2 ≤ p) (hp2 : p ≤ 65536) (h1 : a < p) (h3 : b < p) : Fn 60 #[AR p, I a, I b] (I (a * b % p : Nat)) := by
  have := rmul p a b (by omega) (by omega) (by omega) (by omega) (by omega)
  rw [show ((a * b % p : Nat) : Int) = ((a : Int) * b) % p by simp]; exact this
theorem rneg' (p a : Nat) (hp : 2 ≤ p) (hp2 : p ≤ 65536) (h1 : a < p) : Fn 61 #[AR p, I a] (I ((p - a) % p : Nat)) := by
  have := rneg p a (by omega) (by omega) (by omega) (by omega) (by omega)
  rw [show (((p - a) % p : Nat) : Int) = ((p : Int) - a) % p by rw [Int.natCast_emod, Int.natCast_sub (by omega)]]; exact this
theorem two_ok {P M a b : Nat} (hv : FV P M) (ha : a < fq P M) (hb : b < fq P M) : ∀ x ∈ [(a : Int), (b : Int)], 0 ≤ x ∧ x < ord P M := by
  intro x hx
  rw [ord_fq hv]
  simp only [List.mem_cons, List.not_mem_nil, or_false] at hx
  rcases hx with rfl | rfl <;> omega
theorem one_ok {P M a : Nat} (hv : FV P M) (ha : a < fq P M) : ∀ x ∈ [(a : Int)], 0 ≤ x ∧ x < ord P M := by
  intro x hx
  rw [ord_fq hv]
  simp only [List.mem_cons, List.not_mem_nil, or_false] at hx
  subst hx; omega

set_option maxHeartbeats 1000000 in
theorem add_bad (P M a b : Int) (he : chk P M [a, b] ≠ 0) : Fn 23 #[A2 P M, I a, I b] (T2 0 (chk P M [a, b])) := by
  intro w
  have Hc := Lib.hid (ch2 P M a b w)
  have hn : (chk P M [a, b] != 0) = true := by rw [bne_iff_ne]; exact he
  clear he
  generalize chk P M [a, b] = e at *
  go_enter Try.func23, Try.ntmps23
  go_wp2_with (go_at_call 43; refine Hc.out.mono ?_; rintro e w' ⟨rfl, hB, hb⟩)
  go_ret2
  exact ⟨rfl, hB⟩

set_option maxHeartbeats 1000000 in
theorem sub_bad (P M a b : Int) (he : chk P M [a, b] ≠ 0) : Fn 24 #[A2 P M, I a, I b] (T2 0 (chk P M [a, b])) := by
  intro w
  have Hc := Lib.hid (ch2 P M a b w)
  have hn : (chk P M [a, b] != 0) = true := by rw [bne_iff_ne]; exact he
  clear he
  generalize chk P M [a, b] = e at *
  go_enter Try.func24, Try.ntmps24
  go_wp2_with (go_at_call 43; refine Hc.out.mono ?_; rintro e w' ⟨rfl, hB, hb⟩)
  go_ret2
  exact ⟨rfl, hB⟩

set_option maxHeartbeats 1000000 in
theorem mul_bad (P M a b : Int) (he : chk P M [a, b] ≠ 0) : Fn 25 #[A2 P M, I a, I b] (T2 0 (chk P M [a, b])) := by
  intro w
  have Hc := Lib.hid (ch2 P M a b w)
  have hn : (chk P M [a, b] != 0) = true := by rw [bne_iff_ne]; exact he
  clear he
  generalize chk P M [a, b] = e at *
  go_enter Try.func25, Try.ntmps25
  go_wp2_with (go_at_call 43; refine Hc.out.mono ?_; rintro e w' ⟨rfl, hB, hb⟩)
  go_ret2
  exact ⟨rfl, hB⟩

set_option maxHeartbeats 1000000 in
theorem inv_bad (P M a : Int) (he : chk P M [a] ≠ 0) : Fn 34 #[A2 P M, I a] (T2 0 (chk P M [a])) := by
  intro w
  have Hc := Lib.hid (ch1 P M a w)
  have hn : (chk P M [a] != 0) = true := by rw [bne_iff_ne]; exact he
  clear he
  generalize chk P M [a] = e at *
  go_enter Try.func34, Try.ntmps34
  go_wp2_with (go_at_call 43; refine Hc.out.mono ?_; rintro e w' ⟨rfl, hB, hb⟩)
  go_ret2
  exact ⟨rfl, hB⟩

set_option maxHeartbeats 1000000 in
theorem pow_bad (P M a k : Int) (he : chk P M [a] ≠ 0) : Fn 31 #[A2 P M, I a, I k] (T2 0 (chk P M [a])) := by
  intro w
  have Hc := Lib.hid (ch1 P M a w)
  have hn : (chk P M [a] != 0) = true := by rw [bne_iff_ne]; exact he
  clear he
  generalize chk P M [a] = e at *
  go_enter Try.func31, Try.ntmps31
  go_wp2_with (go_at_call 43; refine Hc.out.mono ?_; rintro e w' ⟨rfl, hB, hb⟩)
  go_ret2
  exact ⟨rfl, hB⟩

set_option maxHeartbeats 1000000 in
theorem add_res (P a b : Nat) (hv : FV P 1) (ha : a < P) (hb0 : b < P) : Fn 23 #[A2 P (1 : Nat), I a, I b] (T2 ((a + b) % P : Nat) 0) := by
  intro w
  have hs := hv.spec
  have h1 := hs.1; have h2 := hs.2.1
  have Hk := Lib.hid (chk_ok (P := P) (M := (1 : Nat)) (xs := [(a : Int), (b : Int)]) hv (two_ok hv (show a < fq P 1 from ha) (show b < fq P 1 from hb0)))
  have hm := m_radd P
  have Hc := Lib.hid (ch2 P (1 : Nat) a b w)
  have Hv := Lib.hid hv
  clear hs hv
  go_enter Try.func23, Try.ntmps23
  go_wp2_with (first
    | (go_at_call 43; refine Hc.out.mono ?_; rintro e w' ⟨rfl, hB, hb⟩; rw [Hk.out]; obtain ⟨hx0, hx1, hx2⟩ := box_cells hb; clear hb)
    | (go_at_call 41; refine (of_res Hv.out _).mono ?_; rintro e w' ⟨rfl, hb⟩; replace hB := hB.trans (hb.mono hB.size); clear hb)
    | (go_at_call 59; refine (radd' P _ _ h1 h2 ha hb0 _).mono ?_; rintro e w' ⟨rfl, hb⟩; replace hB := hB.trans (hb.mono hB.size); clear hb))
  go_ret2
  exact ⟨rfl, hB⟩

set_option maxHeartbeats 1000000 in
theorem add_bit (P M a b : Nat) (hv : FV P M) (hM : M ≠ 1) (ha : a < 2 ^ M) (hb0 : b < 2 ^ M) : Fn 23 #[A2 P M, I a, I b] (T2 (a ^^^ b : Nat) 0) := by
  intro w
  have hs := hv.spec
  have h1 : 2 ≤ M := by omega
  have h2 := hs.2.2.2.1
  have hp2 := pow2_bd h2
  have Hk := Lib.hid (chk_ok (P := P) (M := M) (xs := [(a : Int), (b : Int)]) hv (two_ok hv (show a < fq P M by unfold fq; rw [if_neg hM]; exact ha) (show b < fq P M by unfold fq; rw [if_neg hM]; exact hb0)))
  have HM := Lib.hid hM
  clear hM
  have hm := m_badd M (modT M)
  have Hc := Lib.hid (ch2 P M a b w)
  have Hv := Lib.hid hv
  clear hs hv
  go_enter Try.func23, Try.ntmps23
  go_wp2_with (first
    | (go_at_call 43; refine Hc.out.mono ?_; rintro e w' ⟨rfl, hB, hb⟩; rw [Hk.out]; obtain ⟨hx0, hx1, hx2⟩ := box_cells hb; clear hb)
    | (go_at_call 41; refine (of_bit Hv.out HM.out _).mono ?_; rintro e w' ⟨rfl, hb⟩; replace hB := hB.trans (hb.mono hB.size); clear hb)
    | (go_at_call 62; refine (badd M (modT M) _ _ (by omega) (by omega) _).mono ?_; rintro e w' ⟨rfl, hb⟩; replace hB := hB.trans (hb.mono hB.size); clear hb))
  go_ret2
  exact ⟨rfl, hB⟩

set_option maxHeartbeats 1000000 in
theorem mul_res (P a b : Nat) (hv : FV P 1) (ha : a < P) (hb0 : b < P) : Fn 25 #[A2 P (1 : Nat), I a, I b] (T2 (a * b % P : Nat) 0) := by
  intro w
  have hs := hv.spec
  have h1 := hs.1; have h2 := hs.2.1
  have Hk := Lib.hid (chk_ok (P := P) (M := (1 : Nat)) (xs := [(a : Int), (b : Int)]) hv (two_ok hv (show a < fq P 1 from ha) (show b < fq P 1 from hb0)))
  have hm := m_rmul P
  have Hc := Lib.hid (ch2 P (1 : Nat) a b w)
  have Hv := Lib.hid hv
  clear hs hv
  go_enter Try.func25, Try.ntmps25
  go_wp2_with (first
    | (go_at_call 43; refine Hc.out.mono ?_; rintro e w' ⟨rfl, hB, hb⟩; rw [Hk.out]; obtain ⟨hx0, hx1, hx2⟩ := box_cells hb; clear hb)
    | (go_at_call 41; refine (of_res Hv.out _).mono ?_; rintro e w' ⟨rfl, hb⟩; replace hB := hB.trans (hb.mono hB.size); clear hb)
    | (go_at_call 60; refine (rmul' P _ _ h1 h2 ha hb0 _).mono ?_; rintro e w' ⟨rfl, hb⟩; replace hB := hB.trans (hb.mono hB.size); clear hb))
  go_ret2
  exact ⟨rfl, hB⟩

set_option maxHeartbeats 1000000 in
theorem mul_bit (P M a b : Nat) (hv : FV P M) (hM : M ≠ 1) (ha : a < 2 ^ M) (hb0 : b < 2 ^ M) : Fn 25 #[A2 P M, I a, I b] (T2 (pmul M (modT M) a b 0 : Nat) 0) := by
  intro w
  have hs := hv.spec
  have h1 : 2 ≤ M := by omega
  have h2 := hs.2.2.2.1
  have hp2 := pow2_bd h2
  have Hk := Lib.hid (chk_ok (P := P) (M := M) (xs := [(a : Int), (b : Int)]) hv (two_ok hv (show a < fq P M by unfold fq; rw [if_neg hM]; exact ha) (show b < fq P M by unfold fq; rw [if_neg hM]; exact hb0)))
  have HM := Lib.hid hM
  clear hM
  have hm := m_bmul M (modT M)
  have Hc := Lib.hid (ch2 P M a b w)
  have Hv := Lib.hid hv
  clear hs hv
  go_enter Try.func25, Try.ntmps25
  go_wp2_with (first
    | (go_at_call 43; refine Hc.out.mono ?_; rintro e w' ⟨rfl, hB, hb⟩; rw [Hk.out]; obtain ⟨hx0, hx1, hx2⟩ := box_cells hb; clear hb)
    | (go_at_call 41; refine (of_bit Hv.out HM.out _).mono ?_; rintro e w' ⟨rfl, hb⟩; replace hB := hB.trans (hb.mono hB.size); clear hb)
    | (go_at_call 63; refine (bmul M (modT M) _ _ h1 h2 (modT_top h1 h2) (modT_bd h1 h2) ha hb0 _).mono ?_; rintro e w' ⟨rfl, hb⟩; replace hB := hB.trans (hb.mono hB.size); clear hb))
  go_ret2
  exact ⟨rfl, hB⟩

end Go.Proofs.Ytbddhccbmieokaa
