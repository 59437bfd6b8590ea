/- How heavy a formula is. -/
import Derived.Test.YtpfbommaddaijaaZfV6
namespace Go.Proofs.Ytpfbommaddaijaa
open Go.RowKit Go.Proofs.YtpfbommaddaijaaW.PrintWords Go.Proofs.YtpfbommaddaijaaW.PrintLast PBoundTo
set_option linter.unusedVariables false
set_option linter.unusedSimpArgs false

/-- too heavy -/
def fhv (most N L : Nat) (x : S24) : Bool := !(decide (N + fnd x ≤ most) && decide (L + fns x ≤ 1101))
theorem fhv_false {most N L : Nat} {x : S24} : fhv most N L x = false ↔ N + fnd x ≤ most ∧ L + fns x ≤ 1101 := by simp [fhv]
theorem fhv_true {most N L : Nat} {x : S24} (h : most < N + fnd x ∨ 1101 < L + fns x) : fhv most N L x = true := by
  cases e : fhv most N L x with
  | true => rfl
  | false => have := fhv_false.1 e; omega
theorem fhv_bad {most N L Ni : Nat} {x y : S24} {l : List S24} (h1 : Ni + fndL (y :: l) = N + fnd x) (h2 : L + fns x ≤ 1101 ↔ L + 1 + fnsL (y :: l) ≤ 1101) (h : fhv most Ni (L + 1) y = true) : fhv most N L x = true := by
  rw [(fL_cons y l).1] at h1
  rw [(fL_cons y l).2.1] at h2
  cases e : fhv most N L x with
  | true => rfl
  | false =>
    obtain ⟨e1, e2⟩ := fhv_false.1 e
    have e3 := h2.1 e2
    have : fhv most Ni (L + 1) y = false := fhv_false.2 ⟨by omega, by omega⟩
    rw [this] at h; cases h
theorem fhv_good {most N L Ni : Nat} {x y : S24} {l : List S24} (h1 : Ni + fndL (y :: l) = N + fnd x) (h2 : L + fns x ≤ 1101 ↔ L + 1 + fnsL (y :: l) ≤ 1101) (h : fhv most Ni (L + 1) y = false) : Ni + fnd y + fndL l = N + fnd x ∧ (L + fns x ≤ 1101 ↔ L + 1 + fnsL l ≤ 1101) ∧ Ni + fnd y ≤ most := by
  rw [(fL_cons y l).1] at h1
  rw [(fL_cons y l).2.1] at h2
  obtain ⟨e1, e2⟩ := fhv_false.1 h
  refine ⟨by omega, ?_, e1⟩
  rw [h2]; omega
def FwR (W : World) (gn most N L : Nat) (x : S24) (e : Ending) (W' : World) : Prop := e = .returned (.bool (fhv most N L x)) ∧ W.grownBy W' (some gn) ∧ (fhv most N L x = false → W'.heap[gn]? = some (.cells #[I ((N + fnd x : Nat) : Int)] 3 (0, 0)))
set_option maxHeartbeats 8000000 in
set_option maxRecDepth 100000 in
theorem fweigh_any (most : Nat) (hmost : most ≤ 100000) (m : Nat) : ∀ (x : S24) {w0 W : World} {A : Option Addr} {c gn N L : Nat}, fns x ≤ m → Kd.C k24 w0 A x.f2.length x.f2 → Below w0.heap.size w0 W → w0.heap.size ≤ gn → N ≤ most → L ≤ 1101 → W.heap[gn]? = some (.cells #[I N] 3 (0, 0)) →
    Calls Try.prog 101 #[fArg x A c, I L, I most, .pointer (some ⟨gn, 0, none⟩)] W (FwR W gn most N L x) := by
  induction m with
  | zero => intro x _ _ _ _ _ _ _ h; exact absurd h (by have := fns_pos x; omega)
  | succ m ih =>
  intro x w0 W A c gn N L hm hC hB hg0 hN hL hcell
  have hkids : x.f2.length ≤ 9223372036854775807 := by have := hC.2.1; omega
  have hm' : ∀ i, i < x.f2.length → fns (rd_T24 x.f2 i) ≤ m := fun i hi => by have := fns_kid x.f2 i hi; have := fns_eq x; omega
  obtain ⟨W1, hW1⟩ : ∃ W1, W1 = W.alloc (.cells #[I x.f0, I x.f1, .slice A x.f2.length c] 24) := ⟨_, rfl⟩
  have hG1 : W.grownBy W1 (some gn) := by rw [hW1]; exact World.grownBy_alloc _ _ _
  have hgn : gn < W.heap.size := blk_lt hcell
  have BK : W1.heap[W.heap.size]? = some (.cells #[I x.f0, I x.f1, .slice A x.f2.length c] 24 (0, 0)) := by rw [hW1]; exact blk_new _ _
  have hcell1 : W1.heap[gn]? = some (.cells #[I N] 3 (0, 0)) := by rw [hW1]; exact blk_alloc hcell _
  have d0 : W1.cell? ⟨gn, 0, none⟩ = some (I N) := (blk_cell hcell1 0).trans rfl
  have f0 := blk_frozen hcell1 0
  have hN0 : (N : Int) ≤ 100000 := by omega
  have hmo : (most : Int) ≤ 100000 := by omega
  have HM := Lib.hid hm'
  have HND := Lib.hid (fnd_eq x)
  have HNS := Lib.hid (fns_eq x)
  have HG1 := Lib.hid hG1
  have HGN := Lib.hid hgn
  have HBK := Lib.hid BK
  have HC1 := Lib.hid hcell1
  have HKM := Lib.hid hkids
  have HC := Lib.hid hC
  have HB := Lib.hid hB
  have HG0 := Lib.hid hg0
  have HN := Lib.hid hN
  clear hm hm' hG1 hgn BK hcell1 hcell hkids hC hB hg0 hN
  go_enter Try.func101, Try.ntmps101
  go_upto_region 1 with fail
  rw [← hW1]
  clear hW1
  go_upto_region 2 with fail
  obtain ⟨N1, hN1⟩ : ∃ N1 : Nat, N1 = N + 1 := ⟨_, rfl⟩
  have e1 : ((N : Int) + 1) = (N1 : Int) := by omega
  have hN1b : N1 ≤ 100001 := by omega
  have HN1 := Lib.hid hN1
  rw [e1]
  have HBK2 : Hid ((W1.setCell ⟨gn, 0, none⟩ (I N1)).heap[W.heap.size]? = some (.cells #[I x.f0, I x.f1, .slice A x.f2.length c] 24 (0, 0))) := Lib.hid (blk_far HBK.out (show W.heap.size ≠ gn from Nat.ne_of_gt HGN.out) _)
  have HC2 : Hid ((W1.setCell ⟨gn, 0, none⟩ (I N1)).heap[gn]? = some (.cells #[I N1] 3 (0, 0))) := Lib.hid (blk_set HC1.out 0 (I N1))
  have HG2 : Hid (W.grownBy (W1.setCell ⟨gn, 0, none⟩ (I N1)) (some gn)) := Lib.hid (grown_set HG1.out (.inl rfl) _ _)
  clear HBK HC1 HG1 d0 f0 e1 hN1 hN0
  generalize W1.setCell ⟨gn, 0, none⟩ (I N1) = W2 at *
  have d0 : W2.cell? ⟨gn, 0, none⟩ = some (I N1) := (blk_cell HC2.out 0).trans rfl
  have k2 : W2.cell? ⟨W.heap.size, 2, none⟩ = some (.slice A x.f2.length c) := (blk_cell HBK2.out 2).trans rfl
  by_cases hbig : (most : Int) < (N1 : Int)
  · have hr : Hid (fhv most N L x = true) := Lib.hid (fhv_true (.inl (by have := HN1.out; have := HND.out; omega)))
    have hbig' : decide (most < N1) = true := decide_eq_true (by omega)
    go_wp2
    go_ret
    exact ⟨by rw [hr.out]; rfl, HG2.out, fun h => by rw [hr.out] at h; cases h⟩
  have hbig' : decide (most < N1) = false := decide_eq_false (by omega)
  by_cases hdeep : (1100 : Int) < (L : Int)
  · have hr : Hid (fhv most N L x = true) := Lib.hid (fhv_true (.inr (by have := HNS.out; omega)))
    go_wp2
    go_ret
    exact ⟨by rw [hr.out]; rfl, HG2.out, fun h => by rw [hr.out] at h; cases h⟩
  have HL0 : Hid (L ≤ 1100) := Lib.hid (by omega)
  have HM0 : Hid (N1 ≤ most) := Lib.hid (by omega)
  have HS0 : Hid (N1 + fndL x.f2 = N + fnd x) := Lib.hid (by have := HN1.out; have := HND.out; omega)
  have HH0 : Hid (L + fns x ≤ 1101 ↔ L + 1 + fnsL x.f2 ≤ 1101) := Lib.hid (by rw [HNS.out]; omega)
  go_wp2
  go_loopw [9] (fun y wr => ∃ i : Nat, i ≤ x.f2.length ∧ y = I i ∧ ∃ Ni : Nat, Hid (Ni + fndL (x.f2.drop i) = N + fnd x) ∧ Hid (L + fns x ≤ 1101 ↔ L + 1 + fnsL (x.f2.drop i) ≤ 1101) ∧ Hid (Ni ≤ most) ∧ Hid (wr.heap[gn]? = some (.cells #[I Ni] 3 (0, 0))) ∧ Hid (wr.heap[W.heap.size]? = some (.cells #[I x.f0, I x.f1, .slice A x.f2.length c] 24 (0, 0))) ∧ Hid (W.grownBy wr (some gn))) (fun y _ => x.f2.length - (intOf y).toNat)
  case atStart => exact ⟨0, Nat.zero_le _, rfl, N1, HS0, HH0, HM0, HC2, HBK2, HG2⟩
  case round =>
    clear HC2 HBK2 HG2 d0 k2 hbig hbig'
    obtain ⟨i, hi, rfl, Ni, HS, HH, HNi, HCr, HBr, HGr⟩ := hrel
    have k2 : wr.cell? ⟨W.heap.size, 2, none⟩ = some (.slice A x.f2.length c) := (blk_cell HBr.out 2).trans rfl
    by_cases hin : i < x.f2.length
    · have hBW : Below w0.heap.size w0 wr := pw_below_grown HB.out (some gn) HB.out.size HGr.out (fun k hk => by cases hk; exact HG0.out)
      obtain ⟨ad, A2, c2, rfl, x0, x1, x2, l2, i2⟩ := at_T24 HC.out (i : Int) (by omega) (by omega)
      simp only [Int.toNat_natCast] at x0 x1 x2
      replace x0 := cell_keep' hBW x0
      replace x1 := cell_keep' hBW x1
      replace x2 := cell_keep' hBW x2
      have hwi : wrap64 ((i : Int) + 1) = ((i + 1 : Nat) : Int) := wr_lt hin HKM.out
      have h0i : (0 : Int) ≤ i := by omega
      have h1i : (i : Int) < x.f2.length := by omega
      have hL1 : ((L + 1 : Nat) : Int) = (L : Int) + 1 := by omega
      have HI := ih (rd_T24 x.f2 i) (W := wr) (c := c2) (L := L + 1) (HM.out i hin) i2 hBW HG0.out HNi.out (by have := HL0.out; omega) HCr.out
      rw [hL1] at HI
      unfold FwR at HI
      replace HI := Lib.hid HI
      have HD := Lib.hid (fdrop x.f2 i hin)
      have HIN := Lib.hid hin
      clear hL1 hBW i2 l2
      cases hr : fhv most Ni (L + 1) (rd_T24 x.f2 i) with
      | true =>
        rw [hr] at HI
        have hT : Hid (fhv most N L x = true) := Lib.hid (fhv_bad (by rw [← HD.out]; exact HS.out) (by rw [← HD.out]; exact HH.out) hr)
        clear hr
        go_wp2_with (go_at_call 101; (with_reducible refine HI.out.mono ?_); rintro e w7 ⟨rfl, hg7, _⟩; have HG7 := Lib.hid hg7; clear hg7)
        go_ret
        exact ⟨by rw [hT.out]; rfl, HGr.out.trans HG7.out, fun h => by rw [hT.out] at h; cases h⟩
      | false =>
        rw [hr] at HI
        obtain ⟨t1, t2, t3⟩ := fhv_good (by rw [← HD.out]; exact HS.out) (by rw [← HD.out]; exact HH.out) hr
        have T1 := Lib.hid t1
        have T2 := Lib.hid t2
        have T3 := Lib.hid t3
        clear t1 t2 t3 hr
        go_wp2_with (go_at_call 101; (with_reducible refine HI.out.mono ?_); rintro e w7 ⟨rfl, hg7, hc7⟩; have HG7 := Lib.hid hg7; have HC7 := Lib.hid (hc7 rfl); clear hg7 hc7)
        go_roundw
        case rel => exact ⟨i + 1, HIN.out, by rw [hwi], Ni + fnd (rd_T24 x.f2 i), T1, T2, T3, HC7, Lib.hid (blk_grown HBr.out HG7.out (fun e => by cases e; exact absurd HGN.out (Nat.lt_irrefl _))), Lib.hid (HGr.out.trans HG7.out)⟩
        case measure => exact meas hwi HIN.out
    · obtain rfl : i = x.f2.length := by omega
      have hT : Hid (fhv most N L x = false) := Lib.hid (by
        have h1 := HS.out
        have h2 := HH.out
        rw [List.drop_length, fL_nil.1] at h1
        rw [List.drop_length, fL_nil.2.1] at h2
        exact fhv_false.2 ⟨by have := HNi.out; omega, h2.2 (by have := HL0.out; omega)⟩)
      have hE : Hid (Ni = N + fnd x) := Lib.hid (by have h1 := HS.out; rw [List.drop_length, fL_nil.1] at h1; omega)
      go_wp2
      go_ret
      exact ⟨by rw [hT.out]; rfl, HGr.out, fun _ => by rw [← hE.out]; exact HCr.out⟩
set_option maxHeartbeats 4000000 in
theorem fheavy_any {W : World} {x : S24} {A : Option Addr} {c most : Nat} (hmost : most ≤ 100000) (hC : Kd.C k24 W A x.f2.length x.f2) : Calls Try.prog 59 #[fArg x A c, I most] W fun e W' => e = .returned (.bool (fhv most 0 0 x)) ∧ Below W.heap.size W W' := by
  obtain ⟨W1, hW1⟩ : ∃ W1, W1 = W.alloc (.cells #[I x.f0, I x.f1, .slice A x.f2.length c] 24) := ⟨_, rfl⟩
  have hB1 : Below W.heap.size W W1 := by rw [hW1]; exact below_alloc (Below.refl _ _) _
  have hs1 : W1.heap.size = W.heap.size + 1 := by rw [hW1]; exact World.size_alloc _ _
  have BK : W1.heap[W.heap.size]? = some (.cells #[I x.f0, I x.f1, .slice A x.f2.length c] 24 (0, 0)) := by rw [hW1]; exact blk_new _ _
  have hB2 : Below W.heap.size W (W1.alloc (.cells #[I 0] 3)) := below_alloc hB1 _
  have BK2 := blk_alloc BK (.cells #[I 0] 3)
  have k0 : (W1.alloc (.cells #[I 0] 3)).cell? ⟨W.heap.size, 0, none⟩ = some (I x.f0) := (blk_cell BK2 0).trans rfl
  have k1 : (W1.alloc (.cells #[I 0] 3)).cell? ⟨W.heap.size, 1, none⟩ = some (I x.f1) := (blk_cell BK2 1).trans rfl
  have k2 : (W1.alloc (.cells #[I 0] 3)).cell? ⟨W.heap.size, 2, none⟩ = some (.slice A x.f2.length c) := (blk_cell BK2 2).trans rfl
  have HW := fweigh_any most hmost (fns x) x (w0 := W) (W := W1.alloc (.cells #[I 0] 3)) (c := c) (gn := W1.heap.size) (N := 0) (L := 0) (Nat.le_refl _) hC hB2 hB1.size (Nat.zero_le _) (by decide) (blk_new _ _)
  rw [show ((0 : Nat) : Int) = 0 from rfl] at HW
  unfold FwR at HW
  replace HW := Lib.hid HW
  have HB2 := Lib.hid hB2
  have HZ := Lib.hid hB1.size
  clear BK BK2 hB1 hB2 hC hs1
  go_enter Try.func59, Try.ntmps59
  go_upto_region 1 with fail
  rw [← hW1]
  clear hW1
  go_wp2_with (go_at_call 101; (with_reducible refine HW.out.mono ?_); rintro e w7 ⟨rfl, hg7, _⟩; have HG7 := Lib.hid hg7; clear hg7)
  go_ret
  exact ⟨rfl, pw_below_grown HB2.out _ HB2.out.size HG7.out (fun k hk => by cases hk; exact HZ.out)⟩
set_option maxHeartbeats 4000000 in
theorem great_any {W : World} {x : S24} {A : Option Addr} {c : Nat} (hC : Kd.C k24 W A x.f2.length x.f2) : Calls Try.prog 42 #[fArg x A c] W fun e W' => e = .returned (.bool (fhv 3000 0 0 x)) ∧ Below W.heap.size W W' := by
  obtain ⟨W1, hW1⟩ : ∃ W1, W1 = W.alloc (.cells #[I x.f0, I x.f1, .slice A x.f2.length c] 24) := ⟨_, rfl⟩
  have hB1 : Below W.heap.size W W1 := by rw [hW1]; exact below_alloc (Below.refl _ _) _
  have hs1 : W1.heap.size = W.heap.size + 1 := by rw [hW1]; exact World.size_alloc _ _
  have BK : W1.heap[W.heap.size]? = some (.cells #[I x.f0, I x.f1, .slice A x.f2.length c] 24 (0, 0)) := by rw [hW1]; exact blk_new _ _
  have k0 : W1.cell? ⟨W.heap.size, 0, none⟩ = some (I x.f0) := (blk_cell BK 0).trans rfl
  have k1 : W1.cell? ⟨W.heap.size, 1, none⟩ = some (I x.f1) := (blk_cell BK 1).trans rfl
  have k2 : W1.cell? ⟨W.heap.size, 2, none⟩ = some (.slice A x.f2.length c) := (blk_cell BK 2).trans rfl
  have HW := fheavy_any (W := W1) (x := x) (c := c) (most := 3000) (by decide) (Kd.C_below hC hB1)
  rw [show ((3000 : Nat) : Int) = 3000 from rfl] at HW
  replace HW := Lib.hid HW
  have HB1 := Lib.hid hB1
  clear BK hB1 hC hs1
  go_enter Try.func42, Try.ntmps42
  go_upto_region 1 with fail
  rw [← hW1]
  clear hW1
  go_wp2_with (go_at_call 59; (with_reducible refine HW.out.mono ?_); rintro e w7 ⟨rfl, hb⟩; have HB3 := Lib.hid (HB1.out.trans (hb.mono HB1.out.size)); clear hb)
  go_ret
  exact ⟨rfl, HB3.out⟩
end Go.Proofs.Ytpfbommaddaijaa

