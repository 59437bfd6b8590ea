/- protocol on every formula without constants and FXor; without: no FXor and no FConst. -/
import Derived.Test.YtpfbommaddaijaaZeJ7
import Derived.Test.YtpfbommaddaijaaZeV8c
import Derived.Test.YtpfbommaddaijaaZeV6
namespace Go.Proofs.Ytpfbommaddaijaa
open Go.RowKit Go.Proofs.YtpfbommaddaijaaW.PrintWords Go.Proofs.YtpfbommaddaijaaW.PrintLast PBoundTo
set_option linter.unusedVariables false
set_option linter.unusedSimpArgs false

theorem PrR.congr {w : World} {N : Nat} {q : Pt} {f g : Nat → Bool} {e : Ending} {w' : World} (h : PrR w N q f e w') (hfg : ∀ i, f i = g i) : PrR w N q g e w' := by
  rw [show f = g from funext hfg] at h
  exact h
theorem protocol_any {n : Nat} (hn : n ≤ 12) : ∀ {t : Fx} {w : World} {x y z : Value} {neg : Bool}, Fm w t [x, y, z] → t.pl n → Calls Try.prog 96 #[.agg #[x, y, z], .bool neg, I n] w (PrR w (2 ^ n) (fpt n t neg) (fun i => t.val i))
  | .leaf k v, w, x, y, z, neg, h, hp => by
    obtain ⟨rfl, h0, h1⟩ := hp
    obtain ⟨A, c, he⟩ := h
    simp only [List.cons.injEq, and_true] at he
    obtain ⟨rfl, rfl, rfl⟩ := he
    obtain ⟨m, rfl⟩ := Int.eq_ofNat_of_zero_le h0
    exact (prot_leaf hn (by omega)).mono fun e w' h => PrR.congr h (fun i => by simp [Fx.val])
  | .not a, w, x, y, z, neg, h, hp => by
    obtain ⟨ad, c, ca, he, hc, hl, hcell, hf⟩ := h
    simp only [List.cons.injEq, and_true] at he
    obtain ⟨rfl, rfl, rfl⟩ := he
    obtain ⟨x', y', z', rfl, hf'⟩ := hf.list hl
    have hp12 : 2 ^ n ≤ 4096 := Nat.pow_le_pow_right (n := 2) (by decide) hn
    exact prot_not hp12 (hcell 0 _ rfl) (hcell 1 _ rfl) (hcell 2 _ rfl) (fun W hW => protocol_any hn (hf'.keep hW) hp)
  | .bin k a b, w, x, y, z, neg, h, hp => by
    obtain ⟨ad, c, ca, cb, he, hc, hl, hl', hcell, hcell', hf, hg⟩ := h
    simp only [List.cons.injEq, and_true] at he
    obtain ⟨rfl, rfl, rfl⟩ := he
    obtain ⟨x', y', z', rfl, hf'⟩ := hf.list hl
    obtain ⟨x2, y2, z2, rfl, hg'⟩ := hg.list hl'
    obtain ⟨hk, ha, hb⟩ := hp
    refine (prot_bin hn rfl hk (hcell 0 _ rfl) (hcell 1 _ rfl) (hcell 2 _ rfl) (hcell' 0 _ rfl) (hcell' 1 _ rfl) (hcell' 2 _ rfl) (fun W hW => protocol_any hn (hf'.keep hW) ha) (fun W hW => protocol_any hn (hg'.keep hW) hb)).mono fun e w' h => PrR.congr h (fun i => ?_)
    rcases hk with rfl | rfl <;> simp [Fx.val]
end Go.Proofs.Ytpfbommaddaijaa

namespace Go.Proofs.Ytpfbommaddaijaa
open Go.RowKit Go.Proofs.YtpfbommaddaijaaW.PrintWords Go.Proofs.YtpfbommaddaijaaW.PrintLast PBoundTo
set_option linter.unusedVariables false
set_option linter.unusedSimpArgs false

def wo (x : S24) : Bool := !(fhas 5 x || fhas 1 x)
def woL (l : List S24) : Bool := !(fhasL 5 l || fhasL 1 l)
theorem wo_eq (x : S24) : wo x = (x.f0 != 5 && (x.f0 != 1 && woL x.f2)) := by
  unfold wo woL
  rw [fhas_eq, fhas_eq]
  show _ = (!(x.f0 == 5) && (!(x.f0 == 1) && _))
  cases (x.f0 == 5) <;> cases (x.f0 == 1) <;> cases fhasL 5 x.f2 <;> cases fhasL 1 x.f2 <;> rfl
theorem woL_cons (x : S24) (r : List S24) : woL (x :: r) = (wo x && woL r) := by
  unfold wo woL
  rw [fhasL_cons, fhasL_cons]
  cases fhas 5 x <;> cases fhas 1 x <;> cases fhasL 5 r <;> cases fhasL 1 r <;> rfl
theorem woL_nil : woL [] = true := by unfold woL; rw [fhasL, fhasL]; rfl
def W131 (x : S24) : Prop := ∀ (W : World) (A : Option Addr) (c : Nat), Kd.C k24 W A x.f2.length x.f2 → Calls Try.prog 131 #[fArg x A c] W fun e W' => e = .returned (.bool (!wo x)) ∧ Below W.heap.size W W'
def W93 (x : S24) : Prop := ∀ (W : World) (A : Option Addr) (c : Nat), Kd.C k24 W A x.f2.length x.f2 → Calls Try.prog 93 #[fArg x A c] W fun e W' => e = .returned (.bool (wo x)) ∧ Below W.heap.size W W'
set_option maxHeartbeats 4000000 in
theorem closure131 (x : S24) (h : W93 x) : W131 x := by
  intro W A c hC
  obtain ⟨W1, hW1⟩ : ∃ W1, W1 = W.alloc (.cells #[I x.f0, I x.f1, .slice A x.f2.length c] 24) := ⟨_, rfl⟩
  have hB1 : Below W.heap.size W W1 := by rw [hW1]; exact below_alloc (Below.refl _ _) _
  have BK : W1.heap[W.heap.size]? = some (.cells #[I x.f0, I x.f1, .slice A x.f2.length c] 24 (0, 0)) := by rw [hW1]; exact blk_new _ _
  have k0 : W1.cell? ⟨W.heap.size, 0, none⟩ = some (I x.f0) := (blk_cell BK 0).trans rfl
  have k1 : W1.cell? ⟨W.heap.size, 1, none⟩ = some (I x.f1) := (blk_cell BK 1).trans rfl
  have k2 : W1.cell? ⟨W.heap.size, 2, none⟩ = some (.slice A x.f2.length c) := (blk_cell BK 2).trans rfl
  have HW := Lib.hid (h W1 A c (Kd.C_below hC hB1))
  have HB1 := Lib.hid hB1
  clear BK hB1 hC h
  go_enter Try.func131, Try.ntmps131
  go_upto_region 1 with fail
  rw [← hW1]
  clear hW1
  go_wp2_with (go_at_call 93; (with_reducible refine HW.out.mono ?_); rintro e w7 ⟨rfl, hb⟩; have HB3 := Lib.hid (HB1.out.trans (hb.mono HB1.out.size)); clear hb)
  go_ret
  exact ⟨rfl, HB3.out⟩
def Ix24 (l : List S24) (w : World) (e : Ending) (w' : World) : Prop := ∃ r : Int, e = .returned (I r) ∧ decide (0 ≤ r) = !woL l ∧ Below w.heap.size w w'
set_option maxHeartbeats 4000000 in
set_option maxRecDepth 100000 in
theorem index146 (l : List S24) {W : World} {A : Option Addr} {c : Nat} (hC : Kd.C k24 W A l.length l) (H : ∀ i : Nat, i < l.length → W131 (rd_T24 l i)) : Calls Try.prog 146 #[.slice A l.length c, .func (.func 131) #[] #[]] W (Ix24 l W) := by
  have hkids : l.length ≤ 9223372036854775807 := by have := hC.2.1; omega
  have HKM := Lib.hid hkids
  have HC := Lib.hid hC
  have HH := Lib.hid H
  clear hC H hkids
  go_enter Try.func146, Try.ntmps146
  go_wp2
  go_loopw [8] (fun y wr => ∃ i : Nat, i ≤ l.length ∧ y = I i ∧ Hid (woL l = woL (l.drop i)) ∧ Hid (Below W.heap.size W wr)) (fun y _ => l.length - (intOf y).toNat)
  case atStart => exact ⟨0, Nat.zero_le _, rfl, Lib.hid (by rw [List.drop_zero]), Lib.hid (Below.refl _ _)⟩
  case round =>
    obtain ⟨i, hi, rfl, HS, HBr⟩ := hrel
    by_cases hin : i < l.length
    · obtain ⟨ad, A2, c2, rfl, x0, x1, x2, l2, i2⟩ := at_T24 HC.out (i : Int) (by omega) (by omega)
      simp only [Int.toNat_natCast] at x0 x1 x2
      replace x0 := cell_keep' HBr.out x0
      replace x1 := cell_keep' HBr.out x1
      replace x2 := cell_keep' HBr.out x2
      have hwi : wrap64 ((i : Int) + 1) = ((i + 1 : Nat) : Int) := wr_lt hin HKM.out
      have h0i : (0 : Int) ≤ i := by omega
      have h1i : (i : Int) < l.length := by omega
      have HI := Lib.hid (HH.out i hin wr A2 c2 (Kd.C_below i2 HBr.out))
      have hst : woL l = (wo (rd_T24 l i) && woL (l.drop (i + 1))) := by rw [HS.out, fdrop _ _ hin, woL_cons]
      have HIN := Lib.hid hin
      clear i2 l2
      cases hz : wo (rd_T24 l i) with
      | false =>
        rw [hz] at HI hst
        have HR : Hid (woL l = false) := Lib.hid (by rw [hst]; rfl)
        clear hz hst
        go_wp2_with (go_at_call 131; (with_reducible refine HI.out.mono ?_); rintro e w7 ⟨rfl, hb⟩; have HB7 := Lib.hid (HBr.out.trans (hb.mono HBr.out.size)); clear hb)
        go_ret
        unfold Ix24
        exact ⟨(i : Int), rfl, by rw [HR.out]; exact decide_eq_true h0i, HB7.out⟩
      | true =>
        rw [hz] at HI hst
        have HST : Hid (woL l = woL (l.drop (i + 1))) := Lib.hid (by rw [hst]; rfl)
        clear hz hst
        go_wp2_with (go_at_call 131; (with_reducible refine HI.out.mono ?_); rintro e w7 ⟨rfl, hb⟩; have HB7 := Lib.hid (HBr.out.trans (hb.mono HBr.out.size)); clear hb)
        go_roundw
        case rel => exact ⟨i + 1, HIN.out, by rw [hwi], HST, HB7⟩
        case measure => exact meas hwi HIN.out
    · obtain rfl : i = l.length := by omega
      have hsx : woL l = true := by rw [HS.out, List.drop_length, woL_nil]
      have HSX := Lib.hid hsx
      clear hsx
      go_wp2
      go_ret
      unfold Ix24
      exact ⟨-1, rfl, by rw [HSX.out]; rfl, HBr.out⟩
theorem cont130 (l : List S24) {W : World} {A : Option Addr} {c : Nat} (hC : Kd.C k24 W A l.length l) (H : ∀ i : Nat, i < l.length → W131 (rd_T24 l i)) : Calls Try.prog 130 #[.slice A l.length c, .func (.func 131) #[] #[]] W fun e w' => e = .returned (.bool (!woL l)) ∧ Below W.heap.size W w' := by
  have HI := Lib.hid (index146 l (c := c) hC H)
  unfold Ix24 at HI
  clear hC H
  go_enter Try.func130, Try.ntmps130
  go_wp2_with (go_at_call 146; (with_reducible refine HI.out.mono ?_); rintro e w7 ⟨r, rfl, hr, hb⟩; have HR := Lib.hid hr; clear hr)
  go_ret
  exact ⟨by rw [← HR.out]; rfl, hb⟩
set_option maxHeartbeats 4000000 in
theorem without_any (m : Nat) : ∀ (x : S24), fns x ≤ m → W93 x := by
  induction m with
  | zero => intro x h; exact absurd h (by have := fns_pos x; omega)
  | succ m ih =>
  intro x hm W A c hC
  have hm' : ∀ i : Nat, i < x.f2.length → W131 (rd_T24 x.f2 i) := fun i hi => closure131 _ (ih _ (by have := fns_kid x.f2 i hi; have := fns_eq x; omega))
  have HX := Lib.hid (wo_eq x)
  obtain ⟨W1, hW1⟩ : ∃ W1, W1 = W.alloc (.cells #[I x.f0, I x.f1, .slice A x.f2.length c] 24) := ⟨_, rfl⟩
  have hB1 : Below W.heap.size W W1 := by rw [hW1]; exact below_alloc (Below.refl _ _) _
  have BK : W1.heap[W.heap.size]? = some (.cells #[I x.f0, I x.f1, .slice A x.f2.length c] 24 (0, 0)) := by rw [hW1]; exact blk_new _ _
  have k0 : W1.cell? ⟨W.heap.size, 0, none⟩ = some (I x.f0) := (blk_cell BK 0).trans rfl
  have k2 : W1.cell? ⟨W.heap.size, 2, none⟩ = some (.slice A x.f2.length c) := (blk_cell BK 2).trans rfl
  have HCT := Lib.hid (cont130 x.f2 (W := W1) (A := A) (c := c) (Kd.C_below hC hB1) hm')
  have HB1 := Lib.hid hB1
  clear BK hB1 hC hm hm'
  cases h5 : (x.f0 != 5) <;> cases h1 : (x.f0 != 1)
  all_goals
    rw [h5, h1] at HX
    have h5' : (x.f0 == 5) = !(x.f0 != 5) := by show _ = !(!(x.f0 == 5)); rw [Bool.not_not]
    have h1' : (x.f0 == 1) = !(x.f0 != 1) := by show _ = !(!(x.f0 == 1)); rw [Bool.not_not]
    rw [h5] at h5'
    rw [h1] at h1'
    go_enter Try.func93, Try.ntmps93
    go_upto_region 1 with fail
    rw [← hW1]
    clear hW1
    go_wp2_with (go_at_call 130; (with_reducible refine HCT.out.mono ?_); rintro e w7 ⟨rfl, hb⟩; have HB3 := Lib.hid (HB1.out.trans (hb.mono HB1.out.size)); clear hb)
    go_ret
    first | exact ⟨by rw [HX.out]; simp, HB3.out⟩ | exact ⟨by rw [HX.out]; simp, HB1.out⟩
end Go.Proofs.Ytpfbommaddaijaa

