/- Edges: the pairs that differ in one bit. -/
import Derived.Test.YtpmjpkpaclmpbaaTl
namespace Go.Proofs.Ytpmjpkpaclmpbaa
open Go.RowKit
set_option linter.unusedVariables false
set_option linter.unusedSimpArgs false

/-- one bit set -/
def ob (d : Nat) : Bool := decide (0 < d) && ((d &&& (d - 1)) == 0)
def xr (x y : Int) : Nat := x.toNat ^^^ y.toNat
/-- how many of the first j differ from x in one bit -/
def er (Zb : Nat → Int) (x : Int) : Nat → Nat
  | 0 => 0
  | j + 1 => er Zb x j + if ob (xr x (Zb j)) = true then 1 else 0
def es (Za Zb : Nat → Int) (kb : Nat) : Nat → Nat
  | 0 => 0
  | i + 1 => es Za Zb kb i + er Zb (Za i) kb
theorem er_le (Zb : Nat → Int) (x : Int) : ∀ j, er Zb x j ≤ j
  | 0 => Nat.le_refl _
  | j + 1 => by have := er_le Zb x j; simp only [er]; split <;> omega
theorem es_le (Za Zb : Nat → Int) (kb : Nat) : ∀ i, es Za Zb kb i ≤ i * kb
  | 0 => by simp [es]
  | i + 1 => by
    have := es_le Za Zb kb i
    have := er_le Zb (Za i) kb
    have e : (i + 1) * kb = i * kb + kb := Nat.succ_mul ..
    simp only [es]
    omega
theorem xor_i64' (a b : Nat) (ha : a < 4096) (hb : b < 4096) : bits .xor .i64 (a : Int) (b : Int) = ((a ^^^ b : Nat) : Int) := by
  have hx : a ^^^ b < 2 ^ 12 := Nat.xor_lt_two_pow (by omega) (by omega)
  have h1 : (BitVec.ofInt 64 (a : Int)).toNat = a := by
    rw [BitVec.ofInt_natCast, BitVec.toNat_ofNat]; exact Nat.mod_eq_of_lt (by omega)
  have h2 : (BitVec.ofInt 64 (b : Int)).toNat = b := by
    rw [BitVec.ofInt_natCast, BitVec.toNat_ofNat]; exact Nat.mod_eq_of_lt (by omega)
  show IntKind.i64.wrap ((BitVec.ofInt 64 (a : Int) ^^^ BitVec.ofInt 64 (b : Int)).toNat : Int) = _
  rw [BitVec.toNat_xor, h1, h2, IntKind.wrap_i64]
  omega
theorem and_i64' (a b : Nat) (ha : a < 4096) (hb : b < 4096) : bits .and .i64 (a : Int) (b : Int) = ((a &&& b : Nat) : Int) := by
  have hx : a &&& b < 2 ^ 12 := Nat.and_lt_two_pow _ (by omega)
  have h1 : (BitVec.ofInt 64 (a : Int)).toNat = a := by
    rw [BitVec.ofInt_natCast, BitVec.toNat_ofNat]; exact Nat.mod_eq_of_lt (by omega)
  have h2 : (BitVec.ofInt 64 (b : Int)).toNat = b := by
    rw [BitVec.ofInt_natCast, BitVec.toNat_ofNat]; exact Nat.mod_eq_of_lt (by omega)
  show IntKind.i64.wrap ((BitVec.ofInt 64 (a : Int) &&& BitVec.ofInt 64 (b : Int)).toNat : Int) = _
  rw [BitVec.toNat_and, h1, h2, IntKind.wrap_i64]
  omega
def In (Z : Nat → Int) (k : Nat) : Prop := ∀ j, j < k → 0 ≤ Z j ∧ Z j < 4096
set_option maxHeartbeats 4000000 in
set_option maxRecDepth 100000 in
theorem edges_any {w : World} {ka kb : Nat} {va vb : Value} {Za Zb : Nat → Int} (ha : Is w va ka Za) (hb : Is w vb kb Zb) (hia : In Za ka) (hib : In Zb kb) (hka : ka ≤ 5000) (hkb : kb ≤ 5000) :
    Calls Try.prog 11 #[va, vb] w fun e w' => e = .returned (I (es Za Zb kb ka)) ∧ ∃ m, w' = w.drewN m := by
  obtain ⟨aa, ac, rfl⟩ := ha.shape
  obtain ⟨ba, bc, rfl⟩ := hb.shape
  have HA := Lib.hid ha
  have HB := Lib.hid hb
  have HIA := Lib.hid hia
  have HIB := Lib.hid hib
  clear ha hb hia hib
  go_enter Try.func11, Try.ntmps11
  go_wp2
  go_loopw [5, 6] (fun x y wr => ∃ i : Nat, i ≤ ka ∧ x = I (es Za Zb kb i) ∧ y = I i ∧ ∃ m, wr = w.drewN m) (fun _ y _ => ka - (intOf y).toNat)
  case atStart => exact ⟨0, by omega, rfl, rfl, 0, rfl⟩
  case round =>
    obtain ⟨i, hi, rfl, rfl, m, rfl⟩ := hrel
    by_cases hik : i < ka
    · obtain ⟨ab, rfl, ca⟩ := HA.out.at' hik
      have hz := HIA.out i hik
      obtain ⟨x, hx⟩ : ∃ x : Nat, Za i = x := ⟨(Za i).toNat, by omega⟩
      rw [hx] at ca hz
      have HX := Lib.hid hx
      have hes : Hid (es Za Zb kb (i + 1) = es Za Zb kb i + er Zb (Za i) kb) := Lib.hid rfl
      have hle := es_le Za Zb kb i
      have hle2 : es Za Zb kb i ≤ 25000000 := Nat.le_trans hle (Nat.le_trans (Nat.mul_le_mul (show i ≤ 5000 by omega) hkb) (by decide))
      have hi0 : (0 : Int) ≤ i := by omega
      have hi1 : (i : Int) < ka := by omega
      clear hx hle
      generalize es Za Zb kb i = S at *
      go_wp2
      go_loopw [5, 7, 8] (fun x0 y _ wr => ∃ j : Nat, j ≤ kb ∧ x0 = I ((S + er Zb (Za i) j : Nat) : Int) ∧ y = I j ∧ ∃ m, wr = w.drewN m) (fun _ y _ _ => kb - (intOf y).toNat)
      case atStart => exact ⟨0, by omega, rfl, rfl, _, rfl⟩
      case round =>
        obtain ⟨j, hj, rfl, rfl, m2, rfl⟩ := hrel
        by_cases hjk : j < kb
        · obtain ⟨bb, rfl, cb⟩ := HB.out.at' hjk
          have hz2 := HIB.out j hjk
          obtain ⟨y, hy⟩ : ∃ y : Nat, Zb j = y := ⟨(Zb j).toNat, by omega⟩
          rw [hy] at cb hz2
          have hxy := xor_i64' x y (by omega) (by omega)
          have hd4 : x ^^^ y < 4096 := by have := Nat.xor_lt_two_pow (n := 12) (x := x) (y := y) (by omega) (by omega); omega
          have her : Hid (er Zb (Za i) (j + 1) = er Zb (Za i) j + if ob (x ^^^ y) = true then 1 else 0) := Lib.hid (by
            simp only [er, xr, HX.out, hy, Int.toNat_natCast])
          have hel := er_le Zb (Za i) j
          have hj0 : (0 : Int) ≤ j := by omega
          have hj1 : (j : Int) < kb := by omega
          generalize x ^^^ y = d at *
          generalize er Zb (Za i) j = R at *
          clear hy
          by_cases hd0 : d = 0
          · have HOB : Hid (ob d = false) := Lib.hid (by rw [hd0]; rfl)
            have hdd : decide ((0 : Int) < (d : Int)) = false := decide_eq_false (by omega)
            have hddn : decide (0 < d) = false := decide_eq_false (by omega)
            go_upto_region 8 with fail
            go_quiet (fail)
            go_wp2
            go_roundw
            case rel => exact ⟨j + 1, by omega, by rw [her.out, HOB.out]; simp; try omega, by go_num, _, by first | rfl | rw [World.drewN_drewN]⟩
            case measure => simp [intOf]; omega
          · have hdd : decide ((0 : Int) < (d : Int)) = true := decide_eq_true (by omega)
            have hddn : decide (0 < d) = true := decide_eq_true (by omega)
            have hdm : (d : Int) - 1 = ((d - 1 : Nat) : Int) := by omega
            have hand := and_i64' d (d - 1) (by omega) (by omega)
            rw [← hdm] at hand
            obtain ⟨e0, he0⟩ : ∃ e0, e0 = d &&& (d - 1) := ⟨_, rfl⟩
            rw [← he0] at hand
            have HE0 := Lib.hid he0
            clear he0 hdm
            by_cases he : e0 = 0
            · have HOB : Hid (ob d = true) := Lib.hid (by unfold ob; rw [← HE0.out, he, hddn]; rfl)
              subst he
              have ht : (((0 : Nat) : Int) == 0) = true := rfl
              go_upto_region 8 with fail
              go_quiet (fail)
              go_wp2
              go_roundw
              case rel => exact ⟨j + 1, by omega, by rw [her.out, HOB.out]; simp; try omega, by go_num, _, by first | rfl | rw [World.drewN_drewN]⟩
              case measure => simp [intOf]; omega
            · have HOB : Hid (ob d = false) := Lib.hid (by unfold ob; rw [← HE0.out, hddn]; simp [he])
              have ht : ((e0 : Int) == 0) = false := by simp; omega
              go_upto_region 8 with fail
              go_quiet (fail)
              go_wp2
              go_roundw
              case rel => exact ⟨j + 1, by omega, by rw [her.out, HOB.out]; simp; try omega, by go_num, _, by first | rfl | rw [World.drewN_drewN]⟩
              case measure => simp [intOf]; omega
        · obtain rfl : j = kb := by omega
          go_wp2
          go_roundw
          case rel => exact ⟨i + 1, by omega, by rw [hes.out], by go_num, _, rfl⟩
          case measure => simp [intOf]; omega
    · obtain rfl : i = ka := by omega
      go_wp2
      go_ret
      exact ⟨rfl, _, rfl⟩
end Go.Proofs.Ytpmjpkpaclmpbaa
