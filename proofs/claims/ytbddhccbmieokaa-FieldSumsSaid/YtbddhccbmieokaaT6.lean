/- Walks through the functions of the field and of its reference: what each call returns; no memory that was there is changed. -/
import Derived.Test.YtbddhccbmieokaaT5
namespace Go.Proofs.Ytbddhccbmieokaa
open Go.RowKit FieldMath

/-- worlds behind calls that make memory alone -/
structure Ext (w : World) where
  val : World
  ok : Below w.heap.size w val
instance (w : World) : Nonempty (Ext w) := ⟨⟨w, Below.refl _ _⟩⟩
theorem wp_region_ext {id : Nat} {Q : Exit → Act → World → Prop} {a : Act} {w : World} {l : List Oper} (hm : Try.prog.follows .mixedOrders = true) (hB : Region.lexB .any l.toArray = true)
    (h : wpQuiet Try.prog l.toArray (fun w' => ∃ x : Ext w, w' = x.val) (fun a' => ∀ w', (∃ x : Ext w, w' = x.val) → Q .normal a' w') l a) : (Code.region id l.toArray true).wp Try.prog Q a w :=
  wp_region_quiet (C := fun w' => ∃ x : Ext w, w' = x.val) hm hB ⟨⟨{ w with drawn := w.drawn + 1 }, ⟨rfl, rfl, rfl, Nat.le_refl _, fun _ _ => rfl⟩⟩, rfl⟩ (by simpa using h)
theorem Fn.ext {f : FuncId} {args : Array Value} {v : Value} (h : Fn f args v) (w : World) (x : Ext w) : Calls Try.prog f args x.val fun e w'' => e = .returned v ∧ ∃ y : Ext w, w'' = y.val :=
  (h x.val).mono fun _ w'' ⟨he, hb⟩ => ⟨he, ⟨w'', x.ok.trans (hb.mono x.ok.size)⟩, rfl⟩

set_option maxHeartbeats 1000000 in
theorem inv_zero (P M : Nat) (hv : FV P M) : Fn 34 #[A2 P M, I (0 : Nat)] (T2 0 6) := by
  intro w
  have hs := hv.spec
  have hq := fq_cases hv
  have Hk := Lib.hid (chk_ok (P := P) (M := M) (xs := [((0 : Nat) : Int)]) hv (one_ok hv (show 0 < fq P M by omega)))
  have Hc := Lib.hid (ch1 P M (0 : Nat) w)
  clear hs hv
  go_enter Try.func34, Try.ntmps34
  go_wp2_with (go_at_call 43; refine Hc.out.mono ?_; rintro e w' ⟨rfl, hB, hb⟩; rw [Hk.out])
  go_ret2
  exact ⟨rfl, hB⟩

set_option maxHeartbeats 1000000 in
theorem inv_ok (P M a : Nat) (hv : FV P M) (ha0 : 0 < a) (ha : a < fq P M) : Fn 34 #[A2 P M, I a] (T2 (fpow P M a (fq P M - 2) : Nat) 0) := by
  intro w
  have hq := fq_cases hv
  have Hk := Lib.hid (chk_ok (P := P) (M := M) (xs := [(a : Int)]) hv (one_ok hv ha))
  have Hc := Lib.hid (ch1 P M a w)
  have Hv := Lib.hid hv
  have Hq := Lib.hid (show ((fq P M : Nat) : Int) - 2 = ((fq P M - 2 : Nat) : Int) by omega)
  have Hp := Lib.hid (power_any P M a (fq P M - 2) hv ha (by omega))
  have Ho := Lib.hid (order_fv hv)
  have Hf := Lib.hid (of_any P M hv)
  have h0 : ((a : Int) == 0) = false := by rw [beq_eq_false_iff_ne]; omega
  clear hv
  generalize fq P M = q at *
  generalize fpow P M a (q - 2) = r at *
  generalize ifc P M = f at *
  go_enter Try.func34, Try.ntmps34
  go_wp2_with (go_at_call 43; refine Hc.out.mono ?_; rintro e w' ⟨rfl, hB, hb⟩; rw [Hk.out])
  obtain ⟨hx0, hx1, hx2⟩ := box_cells hb
  have HB := Lib.hid hB
  have e0 : ∀ x : Ext w', x.val.cell? ⟨w.heap.size, 0, none⟩ = some (I P) := fun x => (x.ok.cell (p := ⟨w.heap.size, 0, none⟩) hx2).trans hx0
  have e1 : ∀ x : Ext w', x.val.cell? ⟨w.heap.size, 1, none⟩ = some (I M) := fun x => (x.ok.cell (p := ⟨w.heap.size, 1, none⟩) hx2).trans hx1
  clear hB hb hx0 hx1 hx2
  refine wp_region_ext (by kernel_rfl) (by kernel_rfl) ?_
  repeat (go_big_quiet_step (first
    | (go_at_call 41; exact Fn.ext Hf.out _ _)
    | (go_at_call 14; exact Fn.ext Ho.out _ _)
    | (go_at_call 42; (try rw [Hq.out]); exact Fn.ext Hp.out _ _)))
  refine wpQuiet_nil ?_
  rintro _ ⟨x, rfl⟩
  go_wp2
  go_ret2
  exact ⟨rfl, HB.out.trans (x.ok.mono HB.out.size)⟩

theorem n_radd (p : Int) (w : World) : (nilAhead 174 53 (AR p) "commodatum/field.add").run Try.prog w = .ok (some false) w := by kernel_rfl
theorem n_badd (m k : Int) (w : World) : (nilAhead 174 55 (AB m k) "commodatum/field.add").run Try.prog w = .ok (some false) w := by kernel_rfl
set_option maxHeartbeats 1000000 in
theorem sub_res (P a b : Nat) (hv : FV P 1) (ha : a < P) (hb0 : b < P) : Fn 24 #[A2 P (1 : Nat), I a, I b] (T2 ((a + (P - b) % P) % P : Nat) 0) := by
  intro w
  have hs := hv.spec
  have h1 := hs.1; have h2 := hs.2.1
  have Hk := Lib.hid (chk_ok (P := P) (M := (1 : Nat)) (xs := [(a : Int), (b : Int)]) hv (two_ok hv (show a < fq P 1 from ha) (show b < fq P 1 from hb0)))
  have Hc := Lib.hid (ch2 P (1 : Nat) a b w)
  have Hv := Lib.hid hv
  have Hn := Lib.hid (rneg' P b h1 h2 hb0)
  have Ha := Lib.hid (radd' P a ((P - b) % P) h1 h2 ha (Nat.mod_lt _ (by omega)))
  have hm1 := m_radd P
  have hm2 := m_rneg P
  have hn1 := n_radd P
  clear hs hv
  generalize (P - b) % P = c at *
  generalize (a + c) % P = r at *
  go_enter Try.func24, Try.ntmps24
  go_wp2_with (first
    | (go_at_call 43; refine Hc.out.mono ?_; rintro e w' ⟨rfl, hB, hb⟩; rw [Hk.out]; obtain ⟨hx0, hx1, hx2⟩ := box_cells hb; clear hb)
    | (go_at_call 41; refine (of_res Hv.out _).mono ?_; rintro e w' ⟨rfl, hb⟩; replace hB := hB.trans (hb.mono hB.size); clear hb hx0 hx1 hx2))
  have HB := Lib.hid hB
  clear hB
  refine wp_region_ext (by kernel_rfl) (by kernel_rfl) ?_
  repeat (go_big_quiet_step (first
    | (go_at_call 61; exact Fn.ext Hn.out _ _)
    | (go_at_call 59; exact Fn.ext Ha.out _ _)))
  refine wpQuiet_nil ?_
  rintro _ ⟨x, rfl⟩
  go_wp2
  go_ret2
  exact ⟨rfl, HB.out.trans (x.ok.mono HB.out.size)⟩

set_option maxHeartbeats 1000000 in
theorem sub_bit (P M a b : Nat) (hv : FV P M) (hM : M ≠ 1) (ha : a < 2 ^ M) (hb0 : b < 2 ^ M) : Fn 24 #[A2 P M, I a, I b] (T2 (a ^^^ b : Nat) 0) := by
  intro w
  have hs := hv.spec
  have h2 := hs.2.2.2.1
  have hp2 := pow2_bd h2
  have Hk := Lib.hid (chk_ok (P := P) (M := M) (xs := [(a : Int), (b : Int)]) hv (two_ok hv (show a < fq P M by unfold fq; rw [if_neg hM]; exact ha) (show b < fq P M by unfold fq; rw [if_neg hM]; exact hb0)))
  have Hc := Lib.hid (ch2 P M a b w)
  have Hv := Lib.hid hv
  have HM := Lib.hid hM
  have Hn := Lib.hid (bneg M (modT M) b)
  have Ha := Lib.hid (badd M (modT M) a b (by omega) (by omega))
  have hm1 := m_badd M (modT M)
  have hm2 := m_bneg M (modT M)
  have hn1 := n_badd M (modT M)
  clear hs hv hM
  generalize a ^^^ b = r at *
  go_enter Try.func24, Try.ntmps24
  go_wp2_with (first
    | (go_at_call 43; refine Hc.out.mono ?_; rintro e w' ⟨rfl, hB, hb⟩; rw [Hk.out]; obtain ⟨hx0, hx1, hx2⟩ := box_cells hb; clear hb)
    | (go_at_call 41; refine (of_bit Hv.out HM.out _).mono ?_; rintro e w' ⟨rfl, hb⟩; replace hB := hB.trans (hb.mono hB.size); clear hb hx0 hx1 hx2))
  have HB := Lib.hid hB
  clear hB
  refine wp_region_ext (by kernel_rfl) (by kernel_rfl) ?_
  repeat (go_big_quiet_step (first
    | (go_at_call 64; exact Fn.ext Hn.out _ _)
    | (go_at_call 62; exact Fn.ext Ha.out _ _)))
  refine wpQuiet_nil ?_
  rintro _ ⟨x, rfl⟩
  go_wp2
  go_ret2
  exact ⟨rfl, HB.out.trans (x.ok.mono HB.out.size)⟩

set_option maxHeartbeats 1000000 in
theorem pow_neg (P M a : Nat) (k : Int) (hv : FV P M) (ha : a < fq P M) (hk : k < 0) : Fn 31 #[A2 P M, I a, I k] (T2 0 2) := by
  intro w
  have Hk := Lib.hid (chk_ok (P := P) (M := M) (xs := [(a : Int)]) hv (one_ok hv ha))
  have Hc := Lib.hid (ch1 P M a w)
  clear hv
  go_enter Try.func31, Try.ntmps31
  go_wp2_with (go_at_call 43; refine Hc.out.mono ?_; rintro e w' ⟨rfl, hB, hb⟩; rw [Hk.out])
  go_ret2
  exact ⟨rfl, hB⟩

set_option maxHeartbeats 1000000 in
theorem pow_ok (P M a k : Nat) (hv : FV P M) (ha : a < fq P M) (hk : k < 2 ^ 63) : Fn 31 #[A2 P M, I a, I k] (T2 (fpow P M a k : Nat) 0) := by
  intro w
  have Hk := Lib.hid (chk_ok (P := P) (M := M) (xs := [(a : Int)]) hv (one_ok hv ha))
  have Hc := Lib.hid (ch1 P M a w)
  have Hf := Lib.hid (of_any P M hv)
  have Hp := Lib.hid (power_any P M a k hv ha hk)
  clear hv hk
  generalize fpow P M a k = r at *
  generalize ifc P M = f at *
  go_enter Try.func31, Try.ntmps31
  go_wp2_with (first
    | (go_at_call 43; refine Hc.out.mono ?_; rintro e w' ⟨rfl, hB, hb⟩; rw [Hk.out]; obtain ⟨hx0, hx1, hx2⟩ := box_cells hb; clear hb)
    | (go_at_call 41; refine (Hf.out _).mono ?_; rintro e w' ⟨rfl, hb⟩; replace hB := hB.trans (hb.mono hB.size); clear hb)
    | (go_at_call 42; refine (Hp.out _).mono ?_; rintro e w' ⟨rfl, hb⟩; replace hB := hB.trans (hb.mono hB.size); clear hb))
  go_ret2
  exact ⟨rfl, hB⟩

set_option maxHeartbeats 1000000 in
theorem modulus_form (P M : Int) (hv : vld P M = false) : Fn 12 #[A2 P M] (T2 0 1) := by
  intro w
  have Hv := Lib.hid hv
  clear hv
  go_enter Try.func12, Try.ntmps12
  go_wp2_with (go_at_call 13; refine (valid_not Hv.out _).mono ?_; rintro e w' ⟨rfl, hb⟩)
  go_ret2
  exact ⟨rfl, ((Below.refl _ _).alloc (Nat.le_refl _) _).trans (hb.mono (by simp))⟩
set_option maxHeartbeats 1000000 in
theorem modulus_one (P : Nat) (hv : FV P 1) : Fn 12 #[A2 P (1 : Nat)] (T2 0 6) := by
  intro w
  have Hv := Lib.hid hv
  clear hv
  go_enter Try.func12, Try.ntmps12
  go_wp2_with (go_at_call 13; refine (valid_yes Hv.out _).mono ?_; rintro e w' ⟨rfl, hb⟩; obtain ⟨hc, hf⟩ := bcell hb)
  go_ret2
  exact ⟨rfl, ((Below.refl _ _).alloc (Nat.le_refl _) _).trans (hb.mono (by simp))⟩
set_option maxHeartbeats 1000000 in
theorem modulus_bit (P M : Nat) (hv : FV P M) (hM : M ≠ 1) : Fn 12 #[A2 P M] (T2 (modT M : Nat) 0) := by
  intro w
  have hs := hv.spec
  have Hv := Lib.hid hv
  have h2 := hs.2.2.2.1
  have h1 : 2 ≤ M := by omega
  have hd : ((M : Int) == 1) = false := by rw [beq_eq_false_iff_ne]; omega
  clear hv hs hM
  go_enter Try.func12, Try.ntmps12
  go_wp2_with (first
    | (go_at_call 13; refine (valid_yes Hv.out _).mono ?_; rintro e w' ⟨rfl, hb⟩; obtain ⟨hc, hf⟩ := bcell hb)
    | (go_at_call 39; refine (moduli_any M h1 h2 _).mono ?_; rintro e w' ⟨rfl, rfl⟩))
  go_ret2
  exact ⟨rfl, ((Below.refl _ _).alloc (Nat.le_refl _) _).trans (hb.mono (by simp))⟩

end Go.Proofs.Ytbddhccbmieokaa
