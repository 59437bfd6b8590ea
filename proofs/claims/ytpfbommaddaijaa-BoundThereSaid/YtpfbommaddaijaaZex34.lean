/- The law BoundFrom: the walk where FromFormula answers; The closures of made, and the library's search that calls them. -/
import Derived.Test.YtpfbommaddaijaaZex32
import Derived.Deep.RegionHeld3
import Derived.Test.YtpfbommaddaijaaZePa
import Derived.Test.YtpfbommaddaijaaZex12
namespace Go.Proofs.Ytpfbommaddaijaa
open Go.RowKit Go.Proofs.YtpfbommaddaijaaW.PrintWords Go.Proofs.YtpfbommaddaijaaW.PrintLast PBoundTo
set_option linter.unusedVariables false
set_option linter.unusedSimpArgs false

theorem Po.drew {w : World} {q : Pt} {A3 A4 : Option Addr} {c3 c4 : Nat} (h : Po w q A3 A4 c3 c4) : Po w.drew q A3 A4 c3 c4 := h.keep (Below.refl _ _).drew
/-- what the protocol answers -/
structure Pq (q : Pt) (n : Nat) (dp lv : Int) : Prop where
  c18 : ∀ w A3 c3 A4 c4, Po w q A3 A4 c3 c4 → Calls Try.prog 18 #[pAgg q A3 A4 c3 c4] w fun e w' => e = .returned (.bool false) ∧ Below w.heap.size w w'
  c19 : ∀ w A3 c3 A4 c4, Po w q A3 A4 c3 c4 → Calls Try.prog 19 #[pAgg q A3 A4 c3 c4, I n] w fun e w' => e = .returned (.bool true) ∧ Below w.heap.size w w'
  c24 : ∀ w A3 c3 A4 c4, Po w q A3 A4 c3 c4 → Calls Try.prog 24 #[pAgg q A3 A4 c3 c4] w fun e w' => e = .returned (I dp) ∧ Below w.heap.size w w'
  c49 : ∀ w A3 c3 A4 c4, Po w q A3 A4 c3 c4 → Calls Try.prog 49 #[pAgg q A3 A4 c3 c4] w fun e w' => e = .returned (I lv) ∧ Below w.heap.size w w'
end Go.Proofs.Ytpfbommaddaijaa

namespace Go.Proofs.Ytpfbommaddaijaa
open Go.RowKit Go.Proofs.YtpfbommaddaijaaW.PrintWords Go.Proofs.YtpfbommaddaijaaW.PrintLast PBoundTo
set_option linter.unusedVariables false
set_option linter.unusedSimpArgs false

theorem bit_eq (b : Bool) : (((if b = true then 1 else 0 : Nat) : Int) == 1) = b := by cases b <;> rfl
set_option maxHeartbeats 2000000 in
theorem cl148 {w : World} {bp bi : Nat} {v x : Nat} {is : Bool} (hx : x < 8192) (hv : v < 12) (hp : w.cell? ⟨bp, 1, none⟩ = some (I v)) (hi : w.cell? ⟨bi, 0, none⟩ = some (.bool is)) :
    Calls Try.prog 148 #[I x, .pointer (some ⟨bp, 0, none⟩), .pointer (some ⟨bi, 0, none⟩)] w fun e w' => e = .returned (.bool (x.testBit v != is)) ∧ Below w.heap.size w w' := by
  have hsa := shr_and (y := x) (i := v) hx
  have hbe := bit_eq (x.testBit v)
  have hv0 : (0 : Int) ≤ v := Int.natCast_nonneg v
  have hv12 : (v : Int) < 12 := by omega
  clear hx hv
  generalize x.testBit v = tb at *
  generalize ((if tb = true then 1 else 0 : Nat) : Int) = T at *
  go_enter Try.func148, Try.ntmps148
  go_upto_region 1 with fail
  go_quiet (fail)
  go_wp2
  go_ret
  exact ⟨by first | rfl | (cases tb <;> cases is <;> rfl), pw_below_drewN (Below.refl _ _) _⟩
set_option maxHeartbeats 2000000 in
theorem cl147 {w : World} {bp : Nat} {is : Bool} :
    Calls Try.prog 147 #[.bool is, .pointer (some ⟨bp, 0, none⟩)] w fun e w' => e = .returned (.func (.func 148) #[] #[.pointer (some ⟨bp, 0, none⟩), .pointer (some ⟨w.heap.size, 0, none⟩)]) ∧ w'.cell? ⟨w.heap.size, 0, none⟩ = some (.bool is) ∧ Below w.heap.size w w' := by
  go_enter Try.func147, Try.ntmps147
  go_wp2
  go_ret
  exact ⟨rfl, by simp [go_sem], below_alloc (Below.refl _ _) _⟩
/-- some element's bit is not so -/
def anyb (v : Nat) (is : Bool) (xs : List Int) : Bool := xs.any fun x => x.toNat.testBit v != is
def Ix (v : Nat) (is : Bool) (xs : List Int) (w : World) (e : Ending) (w' : World) : Prop := ∃ r : Int, e = .returned (I r) ∧ decide (0 ≤ r) = anyb v is xs ∧ Below w.heap.size w w'
theorem anyb_some {v : Nat} {is : Bool} {xs : List Int} {i : Nat} (hi : i < xs.length) (h : ((xs.getD i 0).toNat.testBit v != is) = true) : anyb v is xs = true := by
  unfold anyb
  rw [List.any_eq_true]
  exact ⟨xs[i], List.getElem_mem hi, by simpa [List.getD, hi] using h⟩
theorem anyb_none {v : Nat} {is : Bool} {xs : List Int} (h : ∀ i, i < xs.length → ((xs.getD i 0).toNat.testBit v != is) = false) : anyb v is xs = false := by
  unfold anyb
  rw [List.any_eq_false]
  intro x hx
  obtain ⟨i, hi, rfl⟩ := List.getElem_of_mem hx
  have := h i hi
  rw [show xs.getD i 0 = xs[i] by simp [List.getD, hi]] at this
  rw [this]; decide
set_option maxHeartbeats 4000000 in
theorem idx153 {w : World} {bp bi : Nat} {v : Nat} {is : Bool} {A : Option Addr} {c : Nat} {xs : List Int} (hv : v < 12) (hp : w.cell? ⟨bp, 1, none⟩ = some (I v)) (hi : w.cell? ⟨bi, 0, none⟩ = some (.bool is)) (ha : Kd.C (Kd.int .i64) w A xs.length xs) (hb : ∀ x ∈ xs, 0 ≤ x ∧ x < 4096) :
    Calls Try.prog 153 #[.slice A xs.length c, .func (.func 148) #[] #[.pointer (some ⟨bp, 0, none⟩), .pointer (some ⟨bi, 0, none⟩)]] w (Ix v is xs w) := by
  have HA := Lib.hid ha
  have HCL := Lib.hid (fun (x : Nat) (hx : x < 8192) (w' : World) (hw : Below w.heap.size w w') => cl148 (w := w') (is := is) hx hv (cell_keep' hw hp) (cell_keep' hw hi))
  have HBd := Lib.hid hb
  have hl8 : xs.length ≤ 9223372036854775807 := ha.2.1
  have HL8 := Lib.hid hl8
  obtain ⟨L, hL⟩ : ∃ L, L = xs.length := ⟨_, rfl⟩
  have HLL := Lib.hid hL
  rw [← hL]
  clear hp hi ha hb hv hl8 hL
  go_enter Try.func153, Try.ntmps153
  go_wp2
  go_loopw [5, 8] (fun _ x wr => ∃ i : Nat, i ≤ L ∧ Hid (∀ j, j < i → ((xs.getD j 0).toNat.testBit v != is) = false) ∧ x = I i ∧ Hid (Below w.heap.size w wr)) (fun _ x _ => L - (intOf x).toNat)
  case atStart => exact ⟨0, Nat.zero_le _, Lib.hid (fun j hj => by omega), rfl, Lib.hid (Below.refl _ _)⟩
  case round =>
    obtain ⟨i, hi, HI, rfl, HB⟩ := hrel
    by_cases hik : i < L
    · obtain ⟨ad, rfl, c0⟩ := Kd.at_int HA.out (i : Int) (Int.natCast_nonneg _) (by rw [← HLL.out]; exact Int.ofNat_lt.2 hik)
      rw [Int.toNat_natCast, show rd xs (i : Int) = xs.getD i 0 by simp only [rd, Int.toNat_natCast]] at c0
      replace c0 := cell_keep' HB.out c0
      have hmem : xs.getD i 0 ∈ xs := by
        have h : i < xs.length := by rw [← HLL.out]; exact hik
        rw [show xs.getD i 0 = xs[i] by simp [List.getD, h]]
        exact List.getElem_mem h
      obtain ⟨x, hx⟩ : ∃ x : Nat, xs.getD i 0 = x := ⟨(xs.getD i 0).toNat, by have := HBd.out _ hmem; omega⟩
      have hx8 : x < 8192 := by have := HBd.out _ hmem; omega
      have Hx := Lib.hid hx
      rw [hx] at c0
      have HC := Lib.hid (HCL.out x hx8 _ HB.out)
      have hwi : wrap64 ((i : Int) + 1) = ((i + 1 : Nat) : Int) := wr_lt hik (by rw [HLL.out]; exact HL8.out)
      have h0 : (0 : Int) ≤ i := Int.natCast_nonneg _
      have h1 : (i : Int) < L := Int.ofNat_lt.2 hik
      have hd0 : decide ((0 : Int) ≤ i) = true := decide_eq_true h0
      obtain ⟨tb, htb⟩ : ∃ tb, tb = (x.testBit v != is) := ⟨_, rfl⟩
      rw [← htb] at HC
      have HT := Lib.hid htb
      clear hx hmem hx8 htb
      cases tb with
      | false =>
        have hnx : Hid (∀ j, j < i + 1 → ((xs.getD j 0).toNat.testBit v != is) = false) := Lib.hid (fun j hj => by
          rcases Nat.lt_or_ge j i with hl | hl
          · exact HI.out j hl
          · have : j = i := by omega
            rw [this, Hx.out, Int.toNat_natCast]
            exact HT.out.symm)
        clear HCL
        go_wp2_with (go_at_call 148; (with_reducible refine HC.out.mono ?_); rintro e w1 ⟨rfl, hb1⟩; have HB1 := Lib.hid (HB.out.trans (hb1.mono HB.out.size)); clear hb1)
        go_roundw
        case rel => exact ⟨i + 1, hik, hnx, by rw [hwi], HB1⟩
        case measure => exact meas hwi hik
      | true =>
        have hex : Hid (anyb v is xs = true) := Lib.hid (anyb_some (i := i) (by rw [← HLL.out]; exact hik) (by rw [Hx.out, Int.toNat_natCast]; exact HT.out.symm))
        clear HCL hwi
        go_wp2_with (go_at_call 148; (with_reducible refine HC.out.mono ?_); rintro e w1 ⟨rfl, hb1⟩; have HB1 := Lib.hid (HB.out.trans (hb1.mono HB.out.size)); clear hb1)
        go_ret
        exact ⟨i, rfl, by rw [hex.out]; exact hd0, HB1.out⟩
    · obtain rfl : i = L := by omega
      go_wp2
      go_ret
      exact ⟨-1, rfl, by rw [anyb_none (fun j hj => HI.out j (by rw [HLL.out]; exact hj))]; rfl, HB.out⟩
theorem cont149 {w : World} {bp bi : Nat} {v : Nat} {is : Bool} {A : Option Addr} {c : Nat} {xs : List Int} (hv : v < 12) (hp : w.cell? ⟨bp, 1, none⟩ = some (I v)) (hi : w.cell? ⟨bi, 0, none⟩ = some (.bool is)) (ha : Kd.C (Kd.int .i64) w A xs.length xs) (hb : ∀ x ∈ xs, 0 ≤ x ∧ x < 4096) :
    Calls Try.prog 149 #[.slice A xs.length c, .func (.func 148) #[] #[.pointer (some ⟨bp, 0, none⟩), .pointer (some ⟨bi, 0, none⟩)]] w fun e w' => e = .returned (.bool (anyb v is xs)) ∧ Below w.heap.size w w' := by
  have HI := Lib.hid (idx153 (c := c) hv hp hi ha hb)
  clear hp hi ha hb
  go_enter Try.func149, Try.ntmps149
  go_wp2_with (go_at_call 153; (with_reducible refine HI.out.mono ?_); rintro e w1 ⟨q, rfl, hq, hb1⟩; have HB1 := Lib.hid hb1; have HQ := Lib.hid hq; clear hb1 hq)
  go_ret
  exact ⟨rb HQ.out, HB1.out⟩
end Go.Proofs.Ytpfbommaddaijaa

