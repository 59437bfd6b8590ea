/- What bound.Solves answers; What ToFormula answers. -/
import Derived.Test.YtpfbommaddaijaaZeQ8
import Derived.Test.YtpfbommaddaijaaZeV5
import Derived.Test.YtpfbommaddaijaaZex19
import Derived.Test.YtpfbommaddaijaaZeKb
import Derived.Test.YtpfbommaddaijaaZeKc
namespace Go.Proofs.Ytpfbommaddaijaa
open Go.RowKit Go.Proofs.YtpfbommaddaijaaW.PrintWords Go.Proofs.YtpfbommaddaijaaW.PrintLast PBoundTo
set_option linter.unusedVariables false
set_option linter.unusedSimpArgs false

set_option maxHeartbeats 4000000 in
set_option maxRecDepth 100000 in
theorem solv57 {W : World} {lf b : Bool} {v pl er : Int} {la lk c3 c4 len tc : Nat} {A3 A4 ta : Option Addr}
    (HS : ∀ w' : World, Below W.heap.size W w' → Calls Try.prog 100 #[.agg #[.bool lf, I v, I pl, .slice A3 la c3, .slice A4 lk c4], .slice ta len tc] w' fun e w'' => ∃ k n A l c, e = .returned (.tuple #[.agg #[I k, I n, .slice A l c], .bool b, I er]) ∧ Below w'.heap.size w' w'') :
    Calls Try.prog 57 #[.agg #[.bool lf, I v, I pl, .slice A3 la c3, .slice A4 lk c4], .slice ta len tc] W fun e w' => e = .returned (.tuple #[.bool b, I er]) ∧ Below W.heap.size W w' := by
  replace HS := Lib.hid HS
  obtain ⟨W1, hW1⟩ : ∃ W1, W1 = W.alloc (.cells #[.bool lf, I v, I pl, .slice A3 la c3, .slice A4 lk c4] 32) := ⟨_, rfl⟩
  have HB1 : Hid (Below W.heap.size W W1) := Lib.hid (by rw [hW1]; exact below_alloc (Below.refl _ _) _)
  have BK : W1.heap[W.heap.size]? = some (.cells #[.bool lf, I v, I pl, .slice A3 la c3, .slice A4 lk c4] 32 (0, 0)) := by rw [hW1]; exact blk_new _ _
  have k0 : W1.cell? ⟨W.heap.size, 0, none⟩ = some (.bool lf) := (blk_cell BK 0).trans rfl
  have k1 : W1.cell? ⟨W.heap.size, 1, none⟩ = some (I v) := (blk_cell BK 1).trans rfl
  have k2 : W1.cell? ⟨W.heap.size, 2, none⟩ = some (I pl) := (blk_cell BK 2).trans rfl
  have k3 : W1.cell? ⟨W.heap.size, 3, none⟩ = some (.slice A3 la c3) := (blk_cell BK 3).trans rfl
  have k4 : W1.cell? ⟨W.heap.size, 4, none⟩ = some (.slice A4 lk c4) := (blk_cell BK 4).trans rfl
  clear BK
  go_enter Try.func57, Try.ntmps57
  go_upto_region 1 with fail
  rw [← hW1]
  clear hW1
  go_wp2_with (go_at_call 100; (with_reducible refine (HS.out _ HB1.out).mono ?_); rintro e w2 ⟨kk, nn, ka, kl, kc, rfl, hb⟩; have HB2 := Lib.hid (HB1.out.trans (hb.mono HB1.out.size)); clear hb)
  go_ret2
  exact ⟨rfl, below_alloc HB2.out _⟩
/-- solved, where both fit -/
theorem solved_ok {W : World} {t : Pt} {n : Nat} {l : List Bool} {A3 A4 ta : Option Addr} {c3 c4 tc : Nat} (hn1 : 1 ≤ n) (hn : n ≤ 12) (ho : t.ok n) (hv : vld n t.toS = true) (hl : l.length = 2 ^ n) (h3 : Kd.C Kd.bool W A3 t.toS.f3.length t.toS.f3) (l3 : t.toS.f3.length ≤ c3) (h4 : Kd.C k32 W A4 t.toS.f4.length t.toS.f4) (hc : Kd.C Kd.bool W ta l.length l) (lc : l.length ≤ tc) :
    Calls Try.prog 100 #[.agg #[.bool t.toS.f0, I t.toS.f1, I t.toS.f2, .slice A3 t.toS.f3.length c3, .slice A4 t.toS.f4.length c4], .slice ta l.length tc] W (SR W (md t (ons l 0 l.length) (zrs l 0 l.length))) := by
  have h4096 : 2 ^ n ≤ 4096 := Nat.pow_le_pow_right (n := 2) (by decide) hn
  have HIN : ∀ w' : World, Calls Try.prog 84 #[.slice ta l.length tc] w' fun e w'' => e = .returned (.tuple #[I (n : Int), .bool true]) ∧ Below w'.heap.size w' w'' := fun w' => (inputs_any (w := w') (a := ta) (cap := tc) (by omega) (by rw [hl]; exact inp_pow hn)).mono fun e w'' ⟨h1, m, h2⟩ => ⟨h1, by rw [h2]; exact pw_below_drewN (Below.refl _ _) m⟩
  have hon : ∀ x ∈ ons l 0 l.length, 0 ≤ x ∧ x < ((2 ^ n : Nat) : Int) := fun x hx => by obtain ⟨m, rfl, _, h, _⟩ := (ons_mem l x _ _).1 hx; omega
  have hzr : ∀ x ∈ zrs l 0 l.length, 0 ≤ x ∧ x < ((2 ^ n : Nat) : Int) := fun x hx => by obtain ⟨m, rfl, _, h, _⟩ := (zrs_mem l x _ _).1 hx; omega
  have lon : (ons l 0 l.length).length ≤ l.length := by
    have : ∀ j i, (ons l i j).length ≤ j := by
      intro j
      induction j with
      | zero => intro i; simp [ons]
      | succ j ih => intro i; rw [ons]; split <;> (have := ih (i + 1); simp; omega)
    exact this _ _
  have lzr : (zrs l 0 l.length).length ≤ l.length := by
    have : ∀ j i, (zrs l i j).length ≤ j := by
      intro j
      induction j with
      | zero => intro i; simp [zrs]
      | succ j ih => intro i; rw [zrs]; split <;> (have := ih (i + 1); simp; omega)
    exact this _ _
  exact sol_ok HIN rfl (decide_eq_false (by omega)) (fun w' hW => by have h := bValid_any (W := w') (x := t.toS) (n := (n : Int)) (c3 := c3) (c4 := c4) (Kd.C_below h3 hW) (Kd.C_below h4 hW); rw [hv] at h; exact h)
    (fun w' hW => lists_any (Kd.C_below hc hW) lc (by omega))
    (fun w' A B c d hW hc1 hc2 hA hB => made_any hn t ho (Kd.C_below h3 hW) l3 (Kd.C_below h4 hW) ⟨hA, hon, by omega⟩ ⟨hB, hzr, by omega⟩ hc1 hc2)
end Go.Proofs.Ytpfbommaddaijaa

namespace Go.Proofs.Ytpfbommaddaijaa
open Go.RowKit Go.Proofs.YtpfbommaddaijaaW.PrintWords Go.Proofs.YtpfbommaddaijaaW.PrintLast PBoundTo
set_option linter.unusedVariables false
set_option linter.unusedSimpArgs false

/-- the same, the formula lying in new blocks -/
def TfS (W : World) (t : Fx) (e : Ending) (w' : World) : Prop := ∃ x y z, e = .returned (.tuple #[.agg #[x, y, z], I 0]) ∧ FmS W.heap.size w'.heap.size w' t [x, y, z] ∧ Below W.heap.size W w'
set_option maxHeartbeats 4000000 in
set_option maxRecDepth 100000 in
theorem tf_okS {W : World} {lf : Bool} {v pl : Int} {la lk : Nat} {A3 A4 ta : Option Addr} {c3 c4 len tc : Nat} {q : Fx × Bool} (hq : q.2 = true) (hv : wok 0 1 (toS q.1) = true) (HSO : ∀ W', Below W.heap.size W W' → Calls Try.prog 100 #[.agg #[.bool lf, I v, I pl, .slice A3 la c3, .slice A4 lk c4], .slice ta len tc] W' (SR W' q)) : Calls Try.prog 58 #[.agg #[.bool lf, I v, I pl, .slice A3 la c3, .slice A4 lk c4], .slice ta len tc] W (TfS W q.1) := by
  unfold SR at HSO
  rw [hq] at HSO
  replace HSO := Lib.hid HSO
  have HV := Lib.hid hv
  clear hq hv
  obtain ⟨W0, hW0⟩ : ∃ W0, W0 = W.alloc (.cells #[.bool lf, I v, I pl, .slice A3 la c3, .slice A4 lk c4] 32) := ⟨_, rfl⟩
  obtain ⟨W1, hW1⟩ : ∃ W1, W1 = W0.alloc (.cells #[I 0, I 0, .slice none 0 0] 24) := ⟨_, rfl⟩
  have hs0 : W0.heap.size = W.heap.size + 1 := by rw [hW0]; exact World.size_alloc _ _
  have hs1 : W.heap.size + 1 < W1.heap.size := by rw [hW1, World.size_alloc, hs0]; exact Nat.lt_succ_self _
  have HB1 : Hid (Below W.heap.size W W1) := Lib.hid (by rw [hW1]; exact below_alloc (by rw [hW0]; exact below_alloc (Below.refl _ _) _) _)
  have BK : W1.heap[W.heap.size]? = some (.cells #[.bool lf, I v, I pl, .slice A3 la c3, .slice A4 lk c4] 32 (0, 0)) := by rw [hW1]; exact blk_alloc (by rw [hW0]; exact blk_new _ _) _
  have HRB : Hid (W1.heap[W.heap.size + 1]? = some (.cells #[I 0, I 0, .slice none 0 0] 24 (0, 0))) := Lib.hid (by rw [hW1, ← hs0]; exact blk_new _ _)
  have k0 : W1.cell? ⟨W.heap.size, 0, none⟩ = some (.bool lf) := (blk_cell BK 0).trans rfl
  have k1 : W1.cell? ⟨W.heap.size, 1, none⟩ = some (I v) := (blk_cell BK 1).trans rfl
  have k2 : W1.cell? ⟨W.heap.size, 2, none⟩ = some (I pl) := (blk_cell BK 2).trans rfl
  have k3 : W1.cell? ⟨W.heap.size, 3, none⟩ = some (.slice A3 la c3) := (blk_cell BK 3).trans rfl
  have k4 : W1.cell? ⟨W.heap.size, 4, none⟩ = some (.slice A4 lk c4) := (blk_cell BK 4).trans rfl
  have HS1 := Lib.hid hs1
  clear BK hs1
  go_enter Try.func58, Try.ntmps58
  go_upto_region 1 with fail
  rw [← hW0, ← hW1]
  clear hW0 hW1 hs0
  go_upto_region 2 with (go_at_call 100; (with_reducible refine (HSO.out _ HB1.out).mono ?_); rintro e w2 ⟨kk, nn, ka, kl, kc, rfl, hfm, hb⟩; have HB2 := Lib.hid (HB1.out.trans (hb.mono HB1.out.size)); have HR2 := Lib.hid (blk_below HRB.out hb); have HW2 := Lib.hid hb.size; have HFM := Lib.hid hfm; clear hfm; clear hb)
  have HB9 := Lib.hid (below_alloc HB2.out (.cells #[I kk, I nn, .slice ka kl kc] 24))
  have HR9 := Lib.hid (blk_alloc HR2.out (.cells #[I kk, I nn, .slice ka kl kc] 24))
  have HC9 : Hid ((w2.alloc (.cells #[I kk, I nn, .slice ka kl kc] 24)).heap[w2.heap.size]? = some (.cells #[I kk, I nn, .slice ka kl kc] 24 (0, 0))) := Lib.hid (blk_new _ _)
  have HK9 : Hid (∀ k, k < w2.heap.size → (w2.alloc (.cells #[I kk, I nn, .slice ka kl kc] 24)).heap[k]? = w2.heap[k]?) := Lib.hid (fun k hk => ((Below.refl w2.heap.size w2).alloc (Nat.le_refl _) _).block k hk)
  obtain ⟨gb, hgb⟩ : ∃ gb, gb = w2.heap.size := ⟨_, rfl⟩
  rw [← hgb] at HC9 ⊢
  have HGB := Lib.hid hgb
  clear hgb
  generalize w2.alloc (.cells #[I kk, I nn, .slice ka kl kc] 24) = w9 at *
  have HVL : Hid (Calls Try.prog 91 #[.agg #[I kk, I nn, .slice ka kl kc]] w9 fun e w' => e = .returned (.bool true) ∧ Below w9.heap.size w9 w') := Lib.hid (by
    have hfm9 : Fm w9 q.1 [I kk, I nn, .slice ka kl kc] := HFM.out w9 (fun k _ h2 => HK9.out k h2)
    obtain ⟨A, c, e1, e2, e3, l2, hC⟩ := fm_arg hfm9
    have h := fvalid_any (W := w9) (c := c) hC
    rw [HV.out, ← e1, ← e2, ← e3] at h
    exact h)
  have m0 : w9.cell? ⟨gb, 0, none⟩ = some (I kk) := (blk_cell HC9.out 0).trans rfl
  have m1 : w9.cell? ⟨gb, 1, none⟩ = some (I nn) := (blk_cell HC9.out 1).trans rfl
  have m2 : w9.cell? ⟨gb, 2, none⟩ = some (.slice ka kl kc) := (blk_cell HC9.out 2).trans rfl
  clear k0 k1 k2 k3 k4
  go_upto_if 25 with (go_at_call 91; (with_reducible refine HVL.out.mono ?_); rintro e w10 ⟨rfl, hb⟩; have HBx := Lib.hid hb; clear hb)
  have HW9 : Hid (gb < w9.heap.size) := Lib.hid (blk_lt HC9.out)
  replace HR9 := Lib.hid (blk_below HR9.out HBx.out)
  replace HC9 := Lib.hid (blk_below HC9.out HBx.out)
  replace HK9 : Hid (∀ k, k < w2.heap.size → w10.heap[k]? = w2.heap[k]?) := Lib.hid (fun k hk => (HBx.out.block k (by have := HW9.out; have := HGB.out; omega)).trans (HK9.out k hk))
  replace HB9 := Lib.hid (HB9.out.trans (HBx.out.mono HB9.out.size))
  clear m0 m1 m2
  have m0 : w10.cell? ⟨gb, 0, none⟩ = some (I kk) := (blk_cell HC9.out 0).trans rfl
  have m1 : w10.cell? ⟨gb, 1, none⟩ = some (I nn) := (blk_cell HC9.out 1).trans rfl
  have m2 : w10.cell? ⟨gb, 2, none⟩ = some (.slice ka kl kc) := (blk_cell HC9.out 2).trans rfl
  have r0 : w10.cell? ⟨W.heap.size + 1, 0, none⟩ = some (I 0) := (blk_cell HR9.out 0).trans rfl
  have q0 := blk_frozen HR9.out 0
  have r1 : w10.cell? ⟨W.heap.size + 1, 1, none⟩ = some (I 0) := (blk_cell HR9.out 1).trans rfl
  have q1 := blk_frozen HR9.out 1
  have r2 : w10.cell? ⟨W.heap.size + 1, 2, none⟩ = some (.slice none 0 0) := (blk_cell HR9.out 2).trans rfl
  have q2 := blk_frozen HR9.out 2
  go_wp2
  have HF := Lib.hid (blk_pt3 (a := I kk) (b := I nn) (c := .slice ka kl kc) HR9.out)
  have HBF := Lib.hid (below_pt3 (a := I kk) (b := I nn) (c := .slice ka kl kc) HB9.out (Nat.le_succ _))
  refine bodyPost_ret (results_ct (by rfl) _ _ (W.heap.size + 1) 24 #[I kk, I nn, .slice ka kl kc] (0, 0) _ (by rfl) HF.out Try.underlying24 (by rfl) (by kernel_rfl)) rfl ?_
  unfold TfS
  refine ⟨I kk, I nn, .slice ka kl kc, rfl, (FmS.on HFM.out (fun k h1 h2 => ?_)).wide (by have := HS1.out; omega) (by
    have h1 := HW9.out; have h2 := HGB.out; have h3 := HBx.out.size
    simp only [World.size_setCell]; omega), HBF.out⟩
  have hne : k ≠ W.heap.size + 1 := by have := HS1.out; omega
  have hk9 := HK9.out k h2
  rw [← hk9]
  refine (((Below.heap_setCell _ _ _ k hne).trans (Below.heap_setCell _ _ _ k hne)).trans (Below.heap_setCell _ _ _ k hne))
end Go.Proofs.Ytpfbommaddaijaa

