/- What Depth answers for any tree. -/
import Derived.Test.YtpfbommaddaijaaZeQi
import Derived.Test.YtpfbommaddaijaaZex22
namespace Go.Proofs.Ytpfbommaddaijaa
open Go.RowKit Go.Maps Go.Proofs.YtpfbommaddaijaaW.PrintWords Go.Proofs.YtpfbommaddaijaaW.PrintLast PBoundTo
set_option linter.unusedVariables false
set_option linter.unusedSimpArgs false

theorem dm_new (W : World) : Dm (W.alloc (.map #[] 0)) W.heap.size [] := ⟨#[], 0, by show (W.heap.push _)[W.heap.size]? = _; simp, .nil, fun x h => by cases h⟩
set_option maxHeartbeats 2000000 in
theorem bDepth_any {W : World} {x : S32} {A3 A4 : Option Addr} {c3 c4 : Nat} (hR : KRow W x.f4 A4 c4) :
    Calls Try.prog 55 #[.agg #[.bool x.f0, I x.f1, I x.f2, .slice A3 x.f3.length c3, .slice A4 x.f4.length c4]] W fun e W' => e = .returned (I ((min (dpt x) 61 : Nat) : Int)) ∧ Below W.heap.size W W' := by
  obtain ⟨W1, hW1⟩ : ∃ W1, W1 = W.alloc (.cells #[.bool x.f0, I x.f1, I x.f2, .slice A3 x.f3.length c3, .slice A4 x.f4.length c4] 32) := ⟨_, rfl⟩
  have hB1 : Below W.heap.size W W1 := by rw [hW1]; exact below_alloc (Below.refl _ _) _
  have BK : W1.heap[W.heap.size]? = some (.cells #[.bool x.f0, I x.f1, I x.f2, .slice A3 x.f3.length c3, .slice A4 x.f4.length c4] 32 (0, 0)) := by rw [hW1]; exact blk_new _ _
  have k0 : W1.cell? ⟨W.heap.size, 0, none⟩ = some (.bool x.f0) := (blk_cell BK 0).trans rfl
  have k1 : W1.cell? ⟨W.heap.size, 1, none⟩ = some (I x.f1) := (blk_cell BK 1).trans rfl
  have k2 : W1.cell? ⟨W.heap.size, 2, none⟩ = some (I x.f2) := (blk_cell BK 2).trans rfl
  have k3 : W1.cell? ⟨W.heap.size, 3, none⟩ = some (.slice A3 x.f3.length c3) := (blk_cell BK 3).trans rfl
  have k4 : W1.cell? ⟨W.heap.size, 4, none⟩ = some (.slice A4 x.f4.length c4) := (blk_cell BK 4).trans rfl
  have hB2 : Below W.heap.size W (W1.alloc (.map #[] 0)) := below_alloc hB1 _
  have HB2 := Lib.hid hB2
  have HZ := Lib.hid hB1.size
  have HC := Lib.hid (depth_any W W1.heap.size hB1.size 60 (by decide) x (W1.alloc (.map #[] 0)) A3 A4 c3 c4 [] hR hB2 (dm_new W1) (fun e h => by cases h))
  unfold DpR at HC
  rw [show ((60 : Nat) : Int) = 60 from rfl] at HC
  have hmm := @run_makeMap Try.prog
  clear BK hB1 hB2
  go_enter Try.func55, Try.ntmps55
  go_upto_region 1 with fail
  rw [← hW1]
  clear hW1
  go_wp2_with (go_at_call 99; (with_reducible refine HC.out.mono ?_); rintro e w7 ⟨rfl, hg7, _⟩; have HG7 := Lib.hid hg7; clear hg7)
  go_ret
  exact ⟨rfl, pw_below_grown HB2.out _ HB2.out.size HG7.out (fun k hk => by cases hk; exact HZ.out)⟩
/-- a row of the copy -/
def KRowR (w : World) (l : List S32) (A : Option Addr) (c : Nat) : Prop := ∃ base ok, PCopy.k32.R 32 w base ok (.slice A l.length c) (cvL l)
theorem KRowR.C {w : World} {l : List S32} {A : Option Addr} {c : Nat} (h : KRowR w l A c) : k32.C w A l.length l ∧ l.length ≤ c := by
  obtain ⟨base, ok, h⟩ := h
  obtain ⟨A', c', e, h1, h2⟩ := Kd.R_reads h
  rw [cvL_len] at e h1
  injection e with e1 e2 e3
  subst e1 e3
  exact ⟨vc_C (hgL l) (Nat.le_refl _) h2, h1⟩
theorem rowR_at {w : World} {l : List S32} {A : Option Addr} {c : Nat} (h : KRowR w l A c) (i : Nat) (hi : i < l.length) : ∃ ad A3 c3 A4 c4, A = some ad ∧ Pl w ad ∧ w.cell? (ad.add (i * 5)) = some (.bool (rd_T32 l i).f0) ∧ w.cell? ⟨(ad.add (i * 5)).block, (ad.add (i * 5)).off + 1, none⟩ = some (I (rd_T32 l i).f1) ∧ w.cell? ⟨(ad.add (i * 5)).block, (ad.add (i * 5)).off + 2, none⟩ = some (I (rd_T32 l i).f2) ∧ w.cell? ⟨(ad.add (i * 5)).block, (ad.add (i * 5)).off + 3, none⟩ = some (.slice A3 (rd_T32 l i).f3.length c3) ∧ w.cell? ⟨(ad.add (i * 5)).block, (ad.add (i * 5)).off + 4, none⟩ = some (.slice A4 (rd_T32 l i).f4.length c4) ∧ KRowR w (rd_T32 l i).f4 A4 c4 := by
  obtain ⟨base, ok, h⟩ := h
  obtain ⟨A', c', e, h1, h2⟩ := OwnRow.reads h.2
  rw [cvL_len] at e h1
  injection e with e1 e2 e3
  subst e1 e3
  obtain ⟨inner, ho⟩ := Kd.R_own h
  obtain ⟨ad, cs, rfl, hsz, hM, hc0⟩ := h2.get_ PCopy.z32 (i : Int) (by omega) (by rw [cvL_len]; omega)
  have hrd := cvL_rd l i hi
  simp only [Int.toNat_natCast] at hM hc0
  have hM' : PCopy.k32.M w base (fun k => ok k ∧ some k ≠ (Value.slice (some ad) l.length c).ownBlock) (cv (rd_T32 l i)) cs := by
    rw [← hrd]; simpa [PCopy.rd_T32] using hM
  have hc : ∀ j u, cs[j]? = some u → w.cell? (ad.add (i * 5 + j)) = some u := hc0
  obtain ⟨v3, v4, rfl, g3, g4⟩ := PCopy.k32_openM hM'
  obtain ⟨A3, c3, rfl, l3, q3⟩ := Kd.R_reads g3
  obtain ⟨A4, c4, rfl, l4, q4⟩ := Kd.R_reads g4
  rw [cv_f0, cv_f1, cv_f2, cv_f3, cv_f4] at hc
  rw [cvL_len] at hc
  have g4' : KRowR w (rd_T32 l (i : Int)).f4 A4 c4 := by
    rw [cv_f4] at g4
    rw [cvL_len] at g4
    exact ⟨_, _, g4⟩
  obtain ⟨cells, hb⟩ := own_typed ho ad.block rfl
  refine ⟨ad, A3, c3, A4, c4, rfl, ⟨_, _, hb⟩, hc 0 _ rfl, by rw [← add_field _ _ 1 (by omega)]; exact hc 1 _ rfl, by rw [← add_field _ _ 2 (by omega)]; exact hc 2 _ rfl, by rw [← add_field _ _ 3 (by omega)]; exact hc 3 _ rfl, by rw [← add_field _ _ 4 (by omega)]; exact hc 4 _ rfl, g4'⟩
theorem KRowR.pl {w : World} : ∀ (m : Nat) {l : List S32} {A : Option Addr} {c : Nat}, (∀ i, i < l.length → hg (rd_T32 l i) < m) → KRowR w l A c → PlR m w l A := by
  intro m
  induction m with
  | zero =>
    intro l A c h _
    cases l with
    | nil => rfl
    | cons x r => exact absurd (h 0 (by simp)) (Nat.not_lt_zero _)
  | succ m ih =>
    intro l A c h hr i hi
    obtain ⟨ad, A3, c3, A4, c4, e, hp, x0, x1, x2, x3, x4, hk⟩ := rowR_at hr i hi
    refine ⟨ad, A3, c3, A4, c4, e, hp, x0, x1, x2, x3, x4, ih (fun j hj => ?_) hk⟩
    have h1 := h i hi
    have h2 := hg_kid (rd_T32 l i).f4 j hj
    have h3 := hg_eq (rd_T32 l i)
    omega
theorem KRowR.row {w : World} {l : List S32} {A : Option Addr} {c : Nat} (h : KRowR w l A c) : KRow w l A c :=
  ⟨h.C.1, h.C.2, hgL l + 1, KRowR.pl _ (fun i hi => by have := hg_kid l i hi; omega) h⟩
/-- the copy is a row in plain blocks -/
theorem CR.row {W w' : World} {x : S32} {e : Ending} (h : CR W x e w') : ∃ A3 c3 A4 c4, e = .returned (.agg #[.bool x.f0, I x.f1, I x.f2, .slice A3 x.f3.length c3, .slice A4 x.f4.length c4]) ∧ x.f3.length ≤ c3 ∧ Kd.C Kd.bool w' A3 x.f3.length x.f3 ∧ x.f4.length ≤ c4 ∧ Kd.C k32 w' A4 x.f4.length x.f4 ∧ KRow w' x.f4 A4 c4 ∧ Below W.heap.size W w' := by
  obtain ⟨A3, c3, A4, c4, he, h1, h2, h3, h4, ⟨ok, h5⟩, h6⟩ := h
  exact ⟨A3, c3, A4, c4, he, h1, h2, h3, h4, KRowR.row ⟨_, _, h5⟩, h6⟩
end Go.Proofs.Ytpfbommaddaijaa

