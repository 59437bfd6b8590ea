/- Khrapchenko on good lists. -/
import Derived.Test.YtpmjpkpaclmpbaaTn
namespace Go.Proofs.Ytpmjpkpaclmpbaa
open Go.RowKit
set_option linter.unusedVariables false
set_option linter.unusedSimpArgs false

theorem prod_in (a b m : Nat) (h : a * b ≤ m) (hm : m ≤ 9223372036854775807) : IntKind.i64.wrap ((a : Int) * (b : Int)) = (a : Int) * b := by
  have e : (a : Int) * (b : Int) = ((a * b : Nat) : Int) := by push_cast; rfl
  rw [e]
  generalize a * b = c at *
  rw [IntKind.wrap_i64]
  omega
set_option maxHeartbeats 8000000 in
set_option maxRecDepth 100000 in
theorem khr_ok {w : World} {len ka kb : Nat} {tv va vb : Value} {f : Nat → Bool} {Za Zb : Nat → Int} (ht : Bs w tv len f) (ha : Is w va ka Za) (hb : Is w vb kb Zb) (hl : len ≤ 4096) (hka : ka ≤ 5000) (hkb : kb ≤ 5000) {n : Int} (h : Inp len n true) (hra : Al len f Za false ka) (hrb : Al len f Zb true kb) :
    Calls Try.prog 12 #[tv, va, vb] w fun e w' => e = .returned (.tuple #[I ((es Za Zb kb ka : Int) * es Za Zb kb ka), I ((ka : Int) * kb), I 0]) ∧ Below w.heap.size w w' := by
  obtain ⟨ta, tc, rfl⟩ := ht.shape
  have HI := Lib.hid (fun w : World => inputs_any (w := w) (a := ta) (cap := tc) (by omega) h)
  have hB0 : Below w.heap.size w (w.alloc (.cells #[.slice ta len tc] 22)) := (Below.refl _ _).alloc (Nat.le_refl _) _
  have hc0 : (w.alloc (.cells #[.slice ta len tc] 22)).cell? ⟨w.heap.size, 0, none⟩ = some (.slice ta len tc) := by simp [go_sem]
  have HB0 := Lib.hid hB0
  have QA := Lib.hid (fun m => of_any (w := (w.alloc (.cells #[.slice ta len tc] 22)).drewN m) (g := w.heap.size) (r := true) hc0 ((ht.keep hB0).keep (below_drewN (Below.refl _ _) m)) ((ha.keep hB0).keep (below_drewN (Below.refl _ _) m)) (by omega) (by omega) false (by simp [hra]))
  have QB := Lib.hid (fun m => of_any (w := (w.alloc (.cells #[.slice ta len tc] 22)).drewN m) (g := w.heap.size) (r := true) hc0 ((ht.keep hB0).keep (below_drewN (Below.refl _ _) m)) ((hb.keep hB0).keep (below_drewN (Below.refl _ _) m)) (by omega) (by omega) true (by simp [hrb]))
  have HIA : Hid (In Za ka) := Lib.hid (fun j hj => by have := hra.2 j hj; exact ⟨this.1, by have := this.2.1; omega⟩)
  have HIB : Hid (In Zb kb) := Lib.hid (fun j hj => by have := hrb.2 j hj; exact ⟨this.1, by have := this.2.1; omega⟩)
  have HON := Lib.hid (fun (d : Nat) (hd : d < 16384) (w : World) => ones_any hd w)
  obtain ⟨aa, ac, rfl⟩ := ha.shape
  obtain ⟨ba, bc, rfl⟩ := hb.shape
  have HA := Lib.hid (ha.keep hB0)
  have HB := Lib.hid (hb.keep hB0)
  clear ht ha hb h hra hrb hc0 hB0
  go_enter Try.func12, Try.ntmps12
  go_upto_region 8 with (first
    | (go_at_call 41; refine (HI.out _).mono ?_; rintro e w' ⟨rfl, mm, rfl⟩)
    | (go_at_call 42; refine (QB.out (mm + m2)).mono ?_; rintro e w' ⟨rfl, m3, rfl⟩)
    | (go_at_call 42; refine (QA.out mm).mono ?_; rintro e w' ⟨rfl, m2, rfl⟩))
  clear QA QB HI
  generalize mm + m2 + m3 = m0
  have HBW : Hid (∀ m, Below w.heap.size w ((w.alloc (.cells #[.slice ta len tc] 22)).drewN m)) := Lib.hid (fun m => below_drewN HB0.out m)
  clear HB0
  generalize w.alloc (.cells #[.slice ta len tc] 22) = W at *
  go_wp2
  go_loopw [12, 14, 37] (fun x _ y wr => ∃ i : Nat, i ≤ ka ∧ x = I (es Za Zb kb i) ∧ y = I i ∧ ∃ m, wr = W.drewN m) (fun _ _ y _ => ka - (intOf y).toNat)
  case atStart => exact ⟨0, by omega, rfl, rfl, _, rfl⟩
  case round =>
    obtain ⟨i, hi, rfl, rfl, m, rfl⟩ := hrel
    by_cases hik : i < ka
    · obtain ⟨ab, rfl, ca⟩ := HA.out.at' hik
      have hz := HIA.out i hik
      obtain ⟨x, hx⟩ : ∃ x : Nat, Za i = x := ⟨(Za i).toNat, by omega⟩
      rw [hx] at ca hz
      have HX := Lib.hid hx
      have hes : Hid (es Za Zb kb (i + 1) = es Za Zb kb i + er Zb (Za i) kb) := Lib.hid rfl
      have hle := es_le Za Zb kb i
      have hle2 : es Za Zb kb i ≤ 25000000 := Nat.le_trans hle (Nat.le_trans (Nat.mul_le_mul (show i ≤ 5000 by omega) hkb) (by decide))
      have hi0 : (0 : Int) ≤ i := by omega
      have hi1 : (i : Int) < ka := by omega
      clear hx hle
      generalize es Za Zb kb i = S at *
      go_wp2
      go_loopw [12, 16, 43] (fun x0 _ y wr => ∃ j : Nat, j ≤ kb ∧ x0 = I ((S + er Zb (Za i) j : Nat) : Int) ∧ y = I j ∧ ∃ m, wr = W.drewN m) (fun _ _ y _ => kb - (intOf y).toNat)
      case atStart => exact ⟨0, by omega, rfl, rfl, _, rfl⟩
      case round =>
        obtain ⟨j, hj, rfl, rfl, m2, rfl⟩ := hrel
        by_cases hjk : j < kb
        · obtain ⟨bb, rfl, cb⟩ := HB.out.at' hjk
          have hz2 := HIB.out j hjk
          obtain ⟨y, hy⟩ : ∃ y : Nat, Zb j = y := ⟨(Zb j).toNat, by omega⟩
          rw [hy] at cb hz2
          have hxy := xor_i64' x y (by omega) (by omega)
          have hd4 : x ^^^ y < 4096 := by have := Nat.xor_lt_two_pow (n := 12) (x := x) (y := y) (by omega) (by omega); omega
          have her : Hid (er Zb (Za i) (j + 1) = er Zb (Za i) j + if ob (x ^^^ y) = true then 1 else 0) := Lib.hid (by
            simp only [er, xr, HX.out, hy, Int.toNat_natCast])
          have hel := er_le Zb (Za i) j
          have hj0 : (0 : Int) ≤ j := by omega
          have hj1 : (j : Int) < kb := by omega
          generalize x ^^^ y = d at *
          generalize er Zb (Za i) j = R at *
          have HO := Lib.hid (fun w => HON.out d (by omega) w)
          have HOP := Lib.hid (ob_pc hd4)
          generalize pc d = q at *
          clear hy
          by_cases hq : q = 1
          · have HOB : Hid (ob d = true) := Lib.hid (by rw [HOP.out, hq]; rfl)
            have ht : ((q : Int) == 1) = true := by simp; omega
            clear HOP
            go_wp2_with (go_at_call 43; refine (HO.out _).mono ?_; rintro e w' ⟨rfl, rfl⟩)
            go_roundw
            case rel => exact ⟨j + 1, by omega, by rw [her.out, HOB.out]; simp; try omega, by go_num, _, rfl⟩
            case measure => simp [intOf]; omega
          · have HOB : Hid (ob d = false) := Lib.hid (by rw [HOP.out]; simp [hq])
            have ht : ((q : Int) == 1) = false := by simp; omega
            clear HOP
            go_wp2_with (go_at_call 43; refine (HO.out _).mono ?_; rintro e w' ⟨rfl, rfl⟩)
            go_roundw
            case rel => exact ⟨j + 1, by omega, by rw [her.out, HOB.out]; simp; try omega, by go_num, _, rfl⟩
            case measure => simp [intOf]; omega
        · obtain rfl : j = kb := by omega
          go_wp2
          go_roundw
          case rel => exact ⟨i + 1, by omega, by rw [hes.out], by go_num, _, rfl⟩
          case measure => simp [intOf]; omega
    · obtain rfl : i = ka := by omega
      have hle := es_le Za Zb kb i
      have hle2 : es Za Zb kb i ≤ 25000000 := Nat.le_trans hle (Nat.le_trans (Nat.mul_le_mul hka hkb) (by decide))
      have hk2 : i * kb ≤ 25000000 := Nat.le_trans (Nat.mul_le_mul hka hkb) (by decide)
      have hw2 : IntKind.i64.wrap ((i : Int) * (kb : Int)) = (i : Int) * kb := prod_in i kb 25000000 hk2 (by decide)
      generalize hS : es Za Zb kb i = S at *
      have HS := Lib.hid hS
      clear hS
      have hs2 : S * S ≤ 25000000 * 25000000 := Nat.mul_le_mul hle2 hle2
      have hw1 : IntKind.i64.wrap ((S : Int) * (S : Int)) = (S : Int) * S := prod_in S S _ hs2 (by decide)
      clear hle hle2 hk2 hs2
      go_wp2
      go_ret3
      exact ⟨by first | rfl | (rw [HS.out]; rfl), HBW.out _⟩
end Go.Proofs.Ytpmjpkpaclmpbaa
