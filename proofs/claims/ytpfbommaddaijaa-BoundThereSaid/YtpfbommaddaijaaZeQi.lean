/- depth at a node that the map does not know yet. -/
import Derived.Test.YtpfbommaddaijaaZex22
namespace Go.Proofs.Ytpfbommaddaijaa
open Go.RowKit Go.Maps Go.Proofs.YtpfbommaddaijaaW.PrintWords Go.Proofs.YtpfbommaddaijaaW.PrintLast PBoundTo
set_option linter.unusedVariables false
set_option linter.unusedSimpArgs false

/-- what depth answers -/
def DpR (w0 W : World) (b : Nat) (xs : List De) (M d : Nat) (e : Ending) (W' : World) : Prop := e = .returned (I (d : Int)) ∧ W.grownBy W' (some b) ∧ ∃ ys, Dm W' b (xs ++ ys) ∧ ∀ y ∈ ys, Iv w0 y ∧ y.m ≤ M
def DpH (w0 : World) (b M : Nat) (x : S32) : Prop := ∀ (W : World) (A3 A4 : Option Addr) (c3 c4 : Nat) (xs : List De), KRow w0 x.f4 A4 c4 → Below w0.heap.size w0 W → Dm W b xs → (∀ e ∈ xs, Iv w0 e) → Calls Try.prog 99 #[.agg #[.bool x.f0, I x.f1, I x.f2, .slice A3 x.f3.length c3, .slice A4 x.f4.length c4], I M, .map (some b)] W (DpR w0 W b xs M (min (dpt x) (M + 1)))
theorem Dm.keep {w w' : World} {b : Nat} {xs : List De} (h : Dm w b xs) {r : Option Nat} (hg : w.grownBy w' r) (hr : r ≠ some b) (hp : ∀ x ∈ xs, some x.a.block ≠ r) : Dm w' b xs := by
  obtain ⟨es, c, h1, h2, h3⟩ := h
  refine ⟨es, c, (hg.block _ (Array.getElem?_eq_some_iff.1 h1).1 (fun e => hr e.symm)).trans h1, h2, fun x hx => ?_⟩
  obtain ⟨cs, t, h⟩ := h3 x hx
  exact ⟨cs, t, (hg.block _ (Array.getElem?_eq_some_iff.1 h).1 (hp x hx)).trans h⟩
theorem dp_step {M n d D : Nat} {y : S32} {r : List S32} (hM : 0 < M) (h : max n (min (dptL (y :: r)) (M + 1)) = D) (hd : d = min (dpt y) (M - 1 + 1)) : max (max n (1 + d)) (min (dptL r) (M + 1)) = D ∧ 1 + d ≤ 61 + M := by
  rw [dptL_cons] at h; omega
theorem dp_end {n M D : Nat} (h : max n (min (dptL []) (M + 1)) = D) : n = D := by
  rw [dptL_nil] at h; omega
theorem grown_of_below {w w' : World} (h : Below w.heap.size w w') (r : Option Nat) : w.grownBy w' r := ⟨h.os, h.tape, h.output, h.size, fun k hk _ => h.block k hk⟩
set_option maxHeartbeats 8000000 in
set_option maxRecDepth 100000 in
theorem depth_node {w0 W : World} {v p : Int} {A3 : Option Addr} {l3 c3 c4 : Nat} {a4 : Addr} {b : Nat} {xs : List De} {kids : List S32} {M : Nat} (hM0 : 0 < M) (hM : M ≤ 60) (hN0 : 0 < kids.length) (hR : KRow w0 kids (some a4) c4) (hB : Below w0.heap.size w0 W) (hb : w0.heap.size ≤ b) (hD : Dm W b xs) (hI : ∀ e ∈ xs, Iv w0 e) (hq : lookD a4 kids.length M xs 0 = none) (ih : ∀ i : Nat, i < kids.length → DpH w0 b (M - 1) (rd_T32 kids i)) :
    Calls Try.prog 99 #[.agg #[.bool false, I v, I p, .slice A3 l3 c3, .slice (some a4) kids.length c4], I M, .map (some b)] W (DpR w0 W b xs M (min (dptL kids) (M + 1))) := by
  have hp : Pl w0 a4 := by
    obtain ⟨ad, _, _, _, _, e, h, _⟩ := row_at hR 0 hN0
    injection e with e; subst e; exact h
  have hmax : kids.length ≤ 9223372036854775807 := by have := hR.C.1.2.1; omega
  have hbW : b < W.heap.size := by obtain ⟨es, c, h1, _⟩ := hD; exact (Array.getElem?_eq_some_iff.1 h1).1
  have hpb : a4.block < w0.heap.size := by obtain ⟨cs, t, h⟩ := hp; exact (Array.getElem?_eq_some_iff.1 h).1
  unfold DpR
  obtain ⟨D, hDD⟩ : ∃ D, D = min (dptL kids) (M + 1) := ⟨_, rfl⟩
  rw [← hDD]
  have HDD := Lib.hid hDD
  clear hDD
  obtain ⟨W1, hW1⟩ : ∃ W1, W1 = W.alloc (.cells #[.bool false, I v, I p, .slice A3 l3 c3, .slice (some a4) kids.length c4] 32) := ⟨_, rfl⟩
  have hB1 : Below W.heap.size W W1 := by rw [hW1]; exact below_alloc (Below.refl _ _) _
  have hs1 : W1.heap.size = W.heap.size + 1 := by rw [hW1]; exact World.size_alloc _ _
  have BK : W1.heap[W.heap.size]? = some (.cells #[.bool false, I v, I p, .slice A3 l3 c3, .slice (some a4) kids.length c4] 32 (0, 0)) := by rw [hW1]; exact blk_new _ _
  have HN0 := Lib.hid hN0
  have h0N : (0 : Int) < (kids.length : Int) := by omega
  have hNe : ((kids.length : Int) == 0) = false := beq_eq_false_iff_ne.2 (by omega)
  have hMe : ((M : Int) == 0) = false := beq_eq_false_iff_ne.2 (by omega)
  have HM := Lib.hid hM
  have HM0 := Lib.hid hM0
  have Hq := Lib.hid hq
  have HD := Lib.hid hD
  have HI := Lib.hid hI
  have Hih := Lib.hid ih
  have HR := Lib.hid hR
  have HB := Lib.hid hB
  have Hb := Lib.hid hb
  have Hp := Lib.hid hp
  have HP' : Hid (∀ w', Below W.heap.size W w' → Pl w' a4) := Lib.hid (fun w' h => (hp.below hB).below h)
  have HBK := Lib.hid BK
  have HB1 := Lib.hid hB1
  have HS1 := Lib.hid hs1
  have HbW := Lib.hid hbW
  have Hpb := Lib.hid hpb
  have HMX := Lib.hid hmax
  have k0 : W1.cell? ⟨W.heap.size, 0, none⟩ = some (.bool false) := (blk_cell BK 0).trans rfl
  have k4 : W1.cell? ⟨W.heap.size, 4, none⟩ = some (.slice (some a4) kids.length c4) := (blk_cell BK 4).trans rfl
  have k4' : ∀ o, (W1.alloc o).cell? ⟨W.heap.size, 4, none⟩ = some (.slice (some a4) kids.length c4) := fun o => cell_alloc k4 o
  clear hM hM0 hq hD hI ih hR hB hb hp BK hB1 hs1 hbW hpb hmax
  go_enter Try.func99, Try.ntmps99
  go_upto_region 1 with fail
  rw [← hW1]
  clear hW1
  go_wp2
  go_region
  have HB2 : Hid (Below W1.heap.size W1 ((W1.alloc (.cells #[.pointer (some a4), I kids.length, I M] 157)).drew)) := Lib.hid (((Below.refl _ _).alloc (Nat.le_refl _) _).drew)
  have HKB : Hid (((W1.alloc (.cells #[.pointer (some a4), I kids.length, I M] 157)).drew).heap[W.heap.size + 1]? = some (.cells #[.pointer (some a4), I kids.length, I M] 157 (0, 0))) := Lib.hid (by rw [← HS1.out]; exact blk_drew (blk_new _ _))
  rw [HS1.out]
  generalize (W1.alloc (.cells #[.pointer (some a4), I kids.length, I M] 157)).drew = W2 at *
  have HB3 : Hid (Below W.heap.size W W2) := Lib.hid (HB1.out.trans (HB2.out.mono HB1.out.size))
  clear k4'
  have q4 : W2.cell? ⟨W.heap.size, 4, none⟩ = some (.slice (some a4) kids.length c4) := cell_keep' HB2.out k4
  have j0 : W2.cell? ⟨W.heap.size + 1, 0, none⟩ = some (.pointer (some a4)) := (blk_cell HKB.out 0).trans rfl
  have j1 : W2.cell? ⟨W.heap.size + 1, 1, none⟩ = some (I kids.length) := (blk_cell HKB.out 1).trans rfl
  have j2 : W2.cell? ⟨W.heap.size + 1, 2, none⟩ = some (I M) := (blk_cell HKB.out 2).trans rfl
  clear k0 k4
  go_wp2_with (at_lookup; refine wpList_dm_look (b := b) (xs := xs) (ad := a4) (s := kids.length) (t := M) rfl (.tmp 31) (.tmp 32) rfl rfl (HD.out.below HB3.out) rfl ((HP'.out _ HB3.out)) (v := 0) (r := false) (by rw [Hq.out]) (by rw [Hq.out]; rfl) ?_)
  clear q4 j0 j1 j2 hMe hNe
  have HG2 : Hid (W.grownBy W2 (some b)) := Lib.hid (grown_of_below HB3.out _)
  have HD2 : Hid (Dm W2 b (xs ++ [])) := Lib.hid (by rw [List.append_nil]; exact HD.out.below HB3.out)
  have HDL : Hid (max 0 (min (dptL (kids.drop 0)) (M + 1)) = D) := Lib.hid (by rw [List.drop_zero, HDD.out]; omega)
  go_loopw [8, 41] (fun x y wr => ∃ i n : Nat, i ≤ kids.length ∧ n ≤ 61 ∧ x = I n ∧ y = I i ∧ Hid (max n (min (dptL (kids.drop i)) (M + 1)) = D) ∧ ∃ ys, Hid (Dm wr b (xs ++ ys)) ∧ Hid (∀ y ∈ ys, Iv w0 y ∧ y.m ≤ ((M - 1 : Nat) : Int)) ∧ Hid (W.grownBy wr (some b)) ∧ Hid (wr.heap[W.heap.size + 1]? = some (.cells #[.pointer (some a4), I kids.length, I M] 157 (0, 0)))) (fun _ y _ => kids.length - (intOf y).toNat)
  case atStart => exact ⟨0, 0, Nat.zero_le _, by decide, rfl, rfl, HDL, [], HD2, Lib.hid (fun y h => by cases h), HG2, HKB⟩
  case round =>
    clear HDL HD2 HG2 HKB HB3 HB2
    obtain ⟨i, n, hi, hn, rfl, rfl, HL, ys, HDy, HIy, HGr, HKr⟩ := hrel
    by_cases hin : i < kids.length
    · have HBW : Below w0.heap.size w0 wr := pw_below_grown HB.out (some b) HB.out.size HGr.out (fun k hk => by cases hk; exact Hb.out)
      obtain ⟨ad, B3, d3, B4, d4, e4, hpl, x0, x1, x2, x3, x4, hrow⟩ := row_at HR.out i hin
      injection e4 with e4
      subst e4
      replace x0 := cell_keep' HBW x0
      replace x1 := cell_keep' HBW x1
      replace x2 := cell_keep' HBW x2
      replace x3 := cell_keep' HBW x3
      replace x4 := cell_keep' HBW x4
      obtain ⟨d, hd⟩ : ∃ d, d = min (dpt (rd_T32 kids i)) (M - 1 + 1) := ⟨_, rfl⟩
      have hd61 : d ≤ 60 := by have := HM.out; omega
      have hwi : wrap64 ((i : Int) + 1) = ((i + 1 : Nat) : Int) := wr_lt hin HMX.out
      have hallIv : ∀ e ∈ xs ++ ys, Iv w0 e := fun e he => by
        rcases List.mem_append.1 he with h | h
        · exact HI.out e h
        · exact (HIy.out e h).1
      have HC := Lib.hid (fun (W' : World) (h : Below wr.heap.size wr W') => (Hih.out i hin) W' B3 B4 d3 d4 (xs ++ ys) hrow (HBW.trans (h.mono HBW.size)) (HDy.out.below h) hallIv)
      rw [← hd] at HC
      have hM1 : ((M - 1 : Nat) : Int) = (M : Int) - 1 := by have := HM0.out; omega
      rw [hM1] at HC
      have Hd := Lib.hid hd
      have Hpl := Lib.hid hpl
      have Hall := Lib.hid hallIv
      have hMlo : (1 : Int) ≤ M := by have := HM0.out; omega
      have hMhi : (M : Int) ≤ 60 := by have := HM.out; omega
      clear hd hpl hallIv HBW hrow hM1
      by_cases hc : n < 1 + d
      · have hc1 : (n : Int) < 1 + (d : Int) := by omega
        go_wp2_with (go_at_call 99; (with_reducible refine (HC.out _ ?_).mono ?_); exact (Below.refl _ _).alloc (Nat.le_refl _) _; rintro e w7 ⟨rfl, hg7, hx7⟩; have HG7 := Lib.hid hg7; have HX7 := Lib.hid hx7; clear hg7 hx7)
        go_roundw
        case rel =>
          obtain ⟨y2, hD2, hI2⟩ := HX7.out
          have hst := dp_step (n := n) (D := D) (y := rd_T32 kids i) (r := kids.drop (i + 1)) HM0.out (by rw [← drop_rd kids i hin]; exact HL.out) Hd.out
          exact ⟨i + 1, 1 + d, hin, by omega, by rw [show ((1 + d : Nat) : Int) = 1 + (d : Int) by omega], by rw [hwi], Lib.hid (by have h := hst.1; omega), ys ++ y2, Lib.hid (by rw [← List.append_assoc]; exact hD2), Lib.hid (fun y hy => (List.mem_append.1 hy).elim (HIy.out y) (hI2 y)), Lib.hid ((HGr.out.trans (World.grownBy_alloc _ _ _)).trans HG7.out), Lib.hid (blk_grown (blk_alloc HKr.out _) HG7.out (fun e => by injection e with e; have := HbW.out; omega))⟩
        case measure => exact meas hwi hin
      · have hc1 : ¬ (n : Int) < 1 + (d : Int) := by omega
        go_wp2_with (go_at_call 99; (with_reducible refine (HC.out _ ?_).mono ?_); exact (Below.refl _ _).alloc (Nat.le_refl _) _; rintro e w7 ⟨rfl, hg7, hx7⟩; have HG7 := Lib.hid hg7; have HX7 := Lib.hid hx7; clear hg7 hx7)
        go_roundw
        case rel =>
          obtain ⟨y2, hD2, hI2⟩ := HX7.out
          have hst := dp_step (n := n) (D := D) (y := rd_T32 kids i) (r := kids.drop (i + 1)) HM0.out (by rw [← drop_rd kids i hin]; exact HL.out) Hd.out
          exact ⟨i + 1, n, hin, by omega, rfl, by rw [hwi], Lib.hid (by have h := hst.1; omega), ys ++ y2, Lib.hid (by rw [← List.append_assoc]; exact hD2), Lib.hid (fun y hy => (List.mem_append.1 hy).elim (HIy.out y) (hI2 y)), Lib.hid ((HGr.out.trans (World.grownBy_alloc _ _ _)).trans HG7.out), Lib.hid (blk_grown (blk_alloc HKr.out _) HG7.out (fun e => by injection e with e; have := HbW.out; omega))⟩
        case measure => exact meas hwi hin
    · obtain rfl : i = kids.length := by omega
      have hnD : n = D := by
        have h := HL.out
        rw [List.drop_length] at h
        exact dp_end h
      have j0 : wr.cell? ⟨W.heap.size + 1, 0, none⟩ = some (.pointer (some a4)) := (blk_cell HKr.out 0).trans rfl
      have j1 : wr.cell? ⟨W.heap.size + 1, 1, none⟩ = some (I kids.length) := (blk_cell HKr.out 1).trans rfl
      have j2 : wr.cell? ⟨W.heap.size + 1, 2, none⟩ = some (I M) := (blk_cell HKr.out 2).trans rfl
      have HnD := Lib.hid hnD
      have hplr : Pl wr a4 := Hp.out.below (pw_below_grown HB.out (some b) HB.out.size HGr.out (fun k hk => by cases hk; exact Hb.out))
      have Hplr := Lib.hid hplr
      have hlo : lookD a4 kids.length M (xs ++ ys) 0 = none := lookD_low Hq.out (fun y hy => by have := (HIy.out y hy).2; have := HM0.out; omega)
      have Hlo := Lib.hid hlo
      clear hnD hplr hlo
      go_wp2_with (at_mapUpdate; refine wpList_dm_put (b := b) (xs := xs ++ ys) (ad := a4) (s := kids.length) (t := M) (d := (n : Int)) rfl (.tmp 54) (.tmp 55) (.tmp 56) rfl rfl HDy.out rfl rfl Hplr.out Hlo.out ?_; intro w8 hd8 hg8; have HD8 := Lib.hid hd8; have HG8 := Lib.hid hg8; clear hd8 hg8)
      go_ret
      refine ⟨by rw [HnD.out]; rfl, HGr.out.trans HG8.out, ys ++ [⟨a4, kids.length, M, n⟩], by rw [← List.append_assoc]; exact HD8.out, fun y hy => ?_⟩
      rcases List.mem_append.1 hy with h | h
      · exact ⟨(HIy.out y h).1, by have := (HIy.out y h).2; omega⟩
      · obtain rfl : y = ⟨a4, kids.length, M, n⟩ := by simpa using h
        refine ⟨⟨kids, c4, hN0, rfl, HR.out, by show (0 : Int) ≤ (M : Int); omega, ?_⟩, Int.le_refl _⟩
        rw [Int.toNat_natCast, ← HDD.out, HnD.out]
theorem dp_grown {w0 W W' : World} {b M d : Nat} {xs : List De} {e : Ending} (hD : Dm W b xs) (h1 : e = .returned (I (d : Int))) (h2 : Below W.heap.size W W') : DpR w0 W b xs M d e W' :=
  ⟨h1, grown_of_below h2 _, [], by rw [List.append_nil]; exact hD.below h2, fun y h => by cases h⟩
/-- depth of any tree, down to a limit -/
theorem depth_any (w0 : World) (b : Nat) (hb : w0.heap.size ≤ b) : ∀ (M : Nat), M ≤ 60 → ∀ x : S32, DpH w0 b M x := by
  intro M
  induction M with
  | zero =>
    intro _ x W A3 A4 c3 c4 xs hR hB hD hI
    have hde := dpt_eq x
    obtain ⟨f0, f1, f2, f3, kids⟩ := x
    simp only at hde hR ⊢
    cases f0 with
    | true =>
      rw [if_pos rfl] at hde
      exact (depth_leaf W f1 f2 _ A3 A4 _ _ c3 c4 _).mono fun e W' ⟨h1, h2⟩ => dp_grown hD (by rw [hde, h1]; rfl) h2
    | false =>
      rw [if_neg (by decide)] at hde
      cases kids with
      | nil =>
        rw [dptL_nil] at hde
        exact (depth_bare W f1 f2 _ A3 A4 _ c3 c4 _).mono fun e W' ⟨h1, h2⟩ => dp_grown hD (by rw [hde, h1]; rfl) h2
      | cons y r =>
        rw [dptL_cons] at hde
        exact (depth_zero W f1 f2 A3 A4 _ c3 c4 _ (beq_eq_false_iff_ne.2 (by simp only [List.length_cons]; omega)) _).mono fun e W' ⟨h1, h2⟩ => dp_grown hD (by rw [show min (dpt ⟨false, f1, f2, f3, y :: r⟩) (0 + 1) = 1 by omega, h1]; rfl) h2
  | succ M ih =>
    intro hM x W A3 A4 c3 c4 xs hR hB hD hI
    have hde := dpt_eq x
    obtain ⟨f0, f1, f2, f3, kids⟩ := x
    simp only at hde hR ⊢
    cases f0 with
    | true =>
      rw [if_pos rfl] at hde
      exact (depth_leaf W f1 f2 _ A3 A4 _ _ c3 c4 _).mono fun e W' ⟨h1, h2⟩ => dp_grown hD (by rw [hde, h1]; simp) h2
    | false =>
      rw [if_neg (by decide)] at hde
      by_cases h0 : 0 < kids.length
      · obtain ⟨ad, _, _, _, _, e4, hpl, _⟩ := row_at hR 0 h0
        subst e4
        rw [hde]
        cases hq : lookD ad kids.length ((M + 1 : Nat) : Int) xs 0 with
        | none => exact depth_node (by omega) hM h0 hR hB hb hD hI hq (fun i hi => by rw [Nat.add_sub_cancel]; exact ih (by omega) _)
        | some q =>
          obtain ⟨q1, q2, q3, q4⟩ := lookD_some hq
          have hv := iv_hit (hI _ q1) hR q2 q3 q4
          exact (depth_hit ⟨by omega, by omega⟩ h0 (beq_eq_false_iff_ne.2 (by omega)) hD (hpl.below hB) hq).mono fun e W' ⟨h1, h2⟩ => dp_grown hD (by rw [h1, hv]) h2
      · obtain rfl : kids = [] := List.eq_nil_of_length_eq_zero (by omega)
        rw [dptL_nil] at hde
        exact (depth_bare W f1 f2 _ A3 A4 _ c3 c4 _).mono fun e W' ⟨h1, h2⟩ => dp_grown hD (by rw [hde, h1]; simp) h2
end Go.Proofs.Ytpfbommaddaijaa

