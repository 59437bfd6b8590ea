/- Khrapchenko; Khrapchenko on good lists; Awake: the first example of the chapter; Awake, whole; Lists that came in, as they lie in memory. -/
import Derived.Test.YtpfbommaddaijaaZfKb
import Derived.Test.YtpfbommaddaijaaZfTk
import Derived.ProofKit
import Derived.Lib.SmallJoins
import Derived.SizedLaws
import Derived.Deep.Matrix
namespace Go.Proofs.Ytpfbommaddaijaa
open Go.RowKit
set_option linter.unusedVariables false
set_option linter.unusedSimpArgs false

theorem ob_all : (List.range 64).all (fun a => (List.range 64).all fun b => ob (a * 64 + b) == (pc (a * 64 + b) == 1)) = true := by kernel_rfl
theorem ob_pc {d : Nat} (h : d < 4096) : ob d = (pc d == 1) := by
  have h1 := List.all_eq_true.1 ob_all (d / 64) (List.mem_range.2 (by omega))
  have h2 := List.all_eq_true.1 h1 (d % 64) (List.mem_range.2 (by omega))
  have e : d / 64 * 64 + d % 64 = d := by omega
  rw [e] at h2
  simpa using h2
end Go.Proofs.Ytpfbommaddaijaa
namespace Go.Proofs.Ytpfbommaddaijaa
open Go.RowKit
set_option linter.unusedVariables false
set_option linter.unusedSimpArgs false

theorem prod_in (a b m : Nat) (h : a * b ≤ m) (hm : m ≤ 9223372036854775807) : IntKind.i64.wrap ((a : Int) * (b : Int)) = (a : Int) * b := by
  have e : (a : Int) * (b : Int) = ((a * b : Nat) : Int) := by push_cast; rfl
  rw [e]
  generalize a * b = c at *
  rw [IntKind.wrap_i64]
  omega
set_option maxHeartbeats 8000000 in
set_option maxRecDepth 100000 in
theorem khr_ok {w : World} {len ka kb : Nat} {tv va vb : Value} {f : Nat → Bool} {Za Zb : Nat → Int} (ht : Bs w tv len f) (ha : Is w va ka Za) (hb : Is w vb kb Zb) (hl : len ≤ 4096) (hka : ka ≤ 5000) (hkb : kb ≤ 5000) {n : Int} (h : Inp len n true) (hra : Al len f Za false ka) (hrb : Al len f Zb true kb) :
    Calls Try.prog 43 #[tv, va, vb] w fun e w' => e = .returned (.tuple #[I ((es Za Zb kb ka : Int) * es Za Zb kb ka), I ((ka : Int) * kb), I 0]) ∧ Below w.heap.size w w' := by
  obtain ⟨ta, tc, rfl⟩ := ht.shape
  have HI := Lib.hid (fun w : World => inputs_any (w := w) (a := ta) (cap := tc) (by omega) h)
  have hB0 : Below w.heap.size w (w.alloc (.cells #[.slice ta len tc] 29)) := (Below.refl _ _).alloc (Nat.le_refl _) _
  have hc0 : (w.alloc (.cells #[.slice ta len tc] 29)).cell? ⟨w.heap.size, 0, none⟩ = some (.slice ta len tc) := by simp [go_sem]
  have HB0 := Lib.hid hB0
  have QA := Lib.hid (fun m => of_any (w := (w.alloc (.cells #[.slice ta len tc] 29)).drewN m) (g := w.heap.size) (r := true) hc0 ((ht.keep hB0).keep (below_drewN (Below.refl _ _) m)) ((ha.keep hB0).keep (below_drewN (Below.refl _ _) m)) (by omega) (by omega) false (by simp [hra]))
  have QB := Lib.hid (fun m => of_any (w := (w.alloc (.cells #[.slice ta len tc] 29)).drewN m) (g := w.heap.size) (r := true) hc0 ((ht.keep hB0).keep (below_drewN (Below.refl _ _) m)) ((hb.keep hB0).keep (below_drewN (Below.refl _ _) m)) (by omega) (by omega) true (by simp [hrb]))
  have HIA : Hid (In Za ka) := Lib.hid (fun j hj => by have := hra.2 j hj; exact ⟨this.1, by have := this.2.1; omega⟩)
  have HIB : Hid (In Zb kb) := Lib.hid (fun j hj => by have := hrb.2 j hj; exact ⟨this.1, by have := this.2.1; omega⟩)
  have HON := Lib.hid (fun (d : Nat) (hd : d < 16384) (w : World) => ones_any hd w)
  obtain ⟨aa, ac, rfl⟩ := ha.shape
  obtain ⟨ba, bc, rfl⟩ := hb.shape
  have HA := Lib.hid (ha.keep hB0)
  have HB := Lib.hid (hb.keep hB0)
  clear ht ha hb h hra hrb hc0 hB0
  go_enter Try.func43, Try.ntmps43
  go_upto_region 8 with (first
    | (go_at_call 84; refine (HI.out _).mono ?_; rintro e w' ⟨rfl, mm, rfl⟩)
    | (go_at_call 88; refine (QB.out (mm + m2)).mono ?_; rintro e w' ⟨rfl, m3, rfl⟩)
    | (go_at_call 88; refine (QA.out mm).mono ?_; rintro e w' ⟨rfl, m2, rfl⟩))
  clear QA QB HI
  generalize mm + m2 + m3 = m0
  have HBW : Hid (∀ m, Below w.heap.size w ((w.alloc (.cells #[.slice ta len tc] 29)).drewN m)) := Lib.hid (fun m => below_drewN HB0.out m)
  clear HB0
  generalize w.alloc (.cells #[.slice ta len tc] 29) = W at *
  go_wp2
  go_loopw [12, 14, 37] (fun x _ y wr => ∃ i : Nat, i ≤ ka ∧ x = I (es Za Zb kb i) ∧ y = I i ∧ ∃ m, wr = W.drewN m) (fun _ _ y _ => ka - (intOf y).toNat)
  case atStart => exact ⟨0, by omega, rfl, rfl, _, rfl⟩
  case round =>
    obtain ⟨i, hi, rfl, rfl, m, rfl⟩ := hrel
    by_cases hik : i < ka
    · obtain ⟨ab, rfl, ca⟩ := HA.out.at' hik
      have hz := HIA.out i hik
      obtain ⟨x, hx⟩ : ∃ x : Nat, Za i = x := ⟨(Za i).toNat, by omega⟩
      rw [hx] at ca hz
      have HX := Lib.hid hx
      have hes : Hid (es Za Zb kb (i + 1) = es Za Zb kb i + er Zb (Za i) kb) := Lib.hid rfl
      have hle := es_le Za Zb kb i
      have hle2 : es Za Zb kb i ≤ 25000000 := Nat.le_trans hle (Nat.le_trans (Nat.mul_le_mul (show i ≤ 5000 by omega) hkb) (by decide))
      have hi0 : (0 : Int) ≤ i := by omega
      have hi1 : (i : Int) < ka := by omega
      clear hx hle
      generalize es Za Zb kb i = S at *
      go_wp2
      go_loopw [12, 16, 43] (fun x0 _ y wr => ∃ j : Nat, j ≤ kb ∧ x0 = I ((S + er Zb (Za i) j : Nat) : Int) ∧ y = I j ∧ ∃ m, wr = W.drewN m) (fun _ _ y _ => kb - (intOf y).toNat)
      case atStart => exact ⟨0, by omega, rfl, rfl, _, rfl⟩
      case round =>
        obtain ⟨j, hj, rfl, rfl, m2, rfl⟩ := hrel
        by_cases hjk : j < kb
        · obtain ⟨bb, rfl, cb⟩ := HB.out.at' hjk
          have hz2 := HIB.out j hjk
          obtain ⟨y, hy⟩ : ∃ y : Nat, Zb j = y := ⟨(Zb j).toNat, by omega⟩
          rw [hy] at cb hz2
          have hxy := xor_i64' x y (by omega) (by omega)
          have hd4 : x ^^^ y < 4096 := by have := Nat.xor_lt_two_pow (n := 12) (x := x) (y := y) (by omega) (by omega); omega
          have her : Hid (er Zb (Za i) (j + 1) = er Zb (Za i) j + if ob (x ^^^ y) = true then 1 else 0) := Lib.hid (by
            simp only [er, xr, HX.out, hy, Int.toNat_natCast])
          have hel := er_le Zb (Za i) j
          have hj0 : (0 : Int) ≤ j := by omega
          have hj1 : (j : Int) < kb := by omega
          generalize x ^^^ y = d at *
          generalize er Zb (Za i) j = R at *
          have HO := Lib.hid (fun w => HON.out d (by omega) w)
          have HOP := Lib.hid (ob_pc hd4)
          generalize pc d = q at *
          clear hy
          by_cases hq : q = 1
          · have HOB : Hid (ob d = true) := Lib.hid (by rw [HOP.out, hq]; rfl)
            have ht : ((q : Int) == 1) = true := by simp; omega
            clear HOP
            go_wp2_with (go_at_call 89; refine (HO.out _).mono ?_; rintro e w' ⟨rfl, rfl⟩)
            go_roundw
            case rel => exact ⟨j + 1, by omega, by rw [her.out, HOB.out]; simp; try omega, by go_num, _, rfl⟩
            case measure => simp [intOf]; omega
          · have HOB : Hid (ob d = false) := Lib.hid (by rw [HOP.out]; simp [hq])
            have ht : ((q : Int) == 1) = false := by simp; omega
            clear HOP
            go_wp2_with (go_at_call 89; refine (HO.out _).mono ?_; rintro e w' ⟨rfl, rfl⟩)
            go_roundw
            case rel => exact ⟨j + 1, by omega, by rw [her.out, HOB.out]; simp; try omega, by go_num, _, rfl⟩
            case measure => simp [intOf]; omega
        · obtain rfl : j = kb := by omega
          go_wp2
          go_roundw
          case rel => exact ⟨i + 1, by omega, by rw [hes.out], by go_num, _, rfl⟩
          case measure => simp [intOf]; omega
    · obtain rfl : i = ka := by omega
      have hle := es_le Za Zb kb i
      have hle2 : es Za Zb kb i ≤ 25000000 := Nat.le_trans hle (Nat.le_trans (Nat.mul_le_mul hka hkb) (by decide))
      have hk2 : i * kb ≤ 25000000 := Nat.le_trans (Nat.mul_le_mul hka hkb) (by decide)
      have hw2 : IntKind.i64.wrap ((i : Int) * (kb : Int)) = (i : Int) * kb := prod_in i kb 25000000 hk2 (by decide)
      generalize hS : es Za Zb kb i = S at *
      have HS := Lib.hid hS
      clear hS
      have hs2 : S * S ≤ 25000000 * 25000000 := Nat.mul_le_mul hle2 hle2
      have hw1 : IntKind.i64.wrap ((S : Int) * (S : Int)) = (S : Int) * S := prod_in S S _ hs2 (by decide)
      clear hle hle2 hk2 hs2
      go_wp2
      go_ret3
      exact ⟨by first | rfl | (rw [HS.out]; rfl), HBW.out _⟩
end Go.Proofs.Ytpfbommaddaijaa
namespace Go.Proofs.Ytpfbommaddaijaa
open Go.RowKit
set_option linter.unusedVariables false
set_option linter.unusedSimpArgs false

def pf (i : Nat) : Bool := i == 1 || i == 2
def za (i : Nat) : Int := if i = 0 then 0 else 3
def zb (i : Nat) : Int := if i = 0 then 1 else 2
theorem par_bs (w : World) : Bs (w.alloc (.cells #[.bool false, .bool true, .bool true, .bool false] 4)) (.slice (some ⟨w.heap.size, 0, none⟩) 4 4) 4 pf :=
  ⟨some ⟨w.heap.size, 0, none⟩, 4, rfl, Nat.le_refl _, by decide, fun _ => ⟨_, rfl⟩, fun b hb i hi => by
    cases hb
    have : i = 0 ∨ i = 1 ∨ i = 2 ∨ i = 3 := by omega
    rcases this with rfl | rfl | rfl | rfl <;> simp [go_sem, Addr.add, pf]⟩
theorem two_is (w : World) (x y : Int) (Z : Nat → Int) (h0 : Z 0 = x) (h1 : Z 1 = y) : Is (w.alloc (.cells #[I x, I y] 3)) (.slice (some ⟨w.heap.size, 0, none⟩) 2 2) 2 Z :=
  ⟨some ⟨w.heap.size, 0, none⟩, 2, rfl, Nat.le_refl _, by decide, fun _ => ⟨_, rfl⟩, fun b hb i hi => by
    cases hb
    have : i = 0 ∨ i = 1 := by omega
    rcases this with rfl | rfl <;> simp [go_sem, Addr.add, h0, h1]⟩
theorem inp4 : Inp 4 2 true := inp_pow (k := 2) (by decide)
theorem al_a : Al 4 pf za false 2 := ⟨by decide, fun j hj => by
  have : j = 0 ∨ j = 1 := by omega
  rcases this with rfl | rfl
  · exact ⟨by decide, by decide, by decide, fun h => by omega⟩
  · exact ⟨by decide, by decide, by decide, fun _ => by decide⟩⟩
theorem al_b : Al 4 pf zb true 2 := ⟨by decide, fun j hj => by
  have : j = 0 ∨ j = 1 := by omega
  rcases this with rfl | rfl
  · exact ⟨by decide, by decide, by decide, fun h => by omega⟩
  · exact ⟨by decide, by decide, by decide, fun _ => by decide⟩⟩
theorem es4 : es za zb 2 2 = 4 := by decide
theorem tn6 : tn pf (2 ^ 2) = 6 := by decide
theorem three_worlds (w : World) : ∃ W3, W3 = ((w.alloc (.cells #[.bool false, .bool true, .bool true, .bool false] 4)).alloc (.cells #[.int .i64 0, .int .i64 3] 3)).alloc (.cells #[.int .i64 1, .int .i64 2] 3) ∧ Bs W3 (.slice (some ⟨w.heap.size, 0, none⟩) 4 4) 4 pf ∧ Is W3 (.slice (some ⟨w.heap.size + 1, 0, none⟩) 2 2) 2 za ∧ Is W3 (.slice (some ⟨w.heap.size + 1 + 1, 0, none⟩) 2 2) 2 zb ∧ Below w.heap.size w W3 := by
  have hs1 : (w.alloc (.cells #[.bool false, .bool true, .bool true, .bool false] 4)).heap.size = w.heap.size + 1 := World.size_alloc _ _
  have hs2 : ((w.alloc (.cells #[.bool false, .bool true, .bool true, .bool false] 4)).alloc (.cells #[.int .i64 0, .int .i64 3] 3)).heap.size = w.heap.size + 1 + 1 := by rw [World.size_alloc, hs1]
  refine ⟨_, rfl, ?_, ?_, ?_, ?_⟩
  · refine (par_bs w).keep ?_
    exact ((Below.refl _ _).alloc (Nat.le_refl _) _).alloc (by rw [hs2]; omega) _
  · have h := two_is (w.alloc (.cells #[.bool false, .bool true, .bool true, .bool false] 4)) 0 3 za rfl rfl
    rw [hs1] at h
    exact h.keep ((Below.refl _ _).alloc (Nat.le_refl _) _)
  · have h := two_is ((w.alloc (.cells #[.bool false, .bool true, .bool true, .bool false] 4)).alloc (.cells #[.int .i64 0, .int .i64 3] 3)) 1 2 zb rfl rfl
    rw [hs2] at h
    exact h
  · exact (((Below.refl _ _).alloc (Nat.le_refl _) _).alloc (by rw [hs1]; omega) _).alloc (by rw [hs2]; omega) _
end Go.Proofs.Ytpfbommaddaijaa
namespace Go.Proofs.Ytpfbommaddaijaa
open Go.RowKit
set_option linter.unusedVariables false
set_option linter.unusedSimpArgs false

set_option maxHeartbeats 4000000 in
set_option maxRecDepth 100000 in
theorem awake_any (w : World) : Calls Try.prog 21 #[] w fun e w' => e = .returned (.bool true) ∧ Below w.heap.size w w' := by
  obtain ⟨W3, hW, ht, ha, hb, hbl⟩ := three_worlds w
  have HT := Lib.hid ht
  have HBL := Lib.hid hbl
  have HK := Lib.hid (khr_ok ht ha hb (by decide) (by decide) (by decide) inp4 al_a al_b)
  rw [es4] at HK
  have HW := Lib.hid hW
  have H1 := Lib.hid (fun (W : World) (h : Below W3.heap.size W3 W) => leastSize_ok (n := 2) (by decide) (ht.keep h))
  have H2 := Lib.hid (fun (W : World) (h : Below W3.heap.size W3 W) => leastDepth_ok (n := 2) (by decide) (ht.keep h))
  have H3 := Lib.hid (fun (W : World) (h : Below W3.heap.size W3 W) => binary_ok (n := 2) (by decide) (ht.keep h))
  clear ht ha hb hbl
  go_enter Try.func21, Try.ntmps21
  rw [hW] at HK HBL H1 H2 H3
  clear hW HW HT
  go_wp2_with (first
    | (go_at_call 43; refine HK.out.mono ?_; rintro e w1 ⟨rfl, hb⟩; have B1 := Lib.hid hb; clear hb)
    | (go_at_call 27; refine (H1.out _ B1.out).mono ?_; rintro e w2 ⟨E, rfl, h1, h2, h3⟩; have c4 := par_size h1 h2; rw [tn6, c4]; have B2 := Lib.hid (B1.out.trans (h3.mono B1.out.size)); clear h1 h2 h3 c4)
    | (go_at_call 22; refine (H2.out _ B2.out).mono ?_; rintro e w3 ⟨E, rfl, h1, h2, h3⟩; have c4 := par_depth h1 h2; rw [tn6, c4]; have B3 := Lib.hid (B2.out.trans (h3.mono B2.out.size)); clear h1 h2 h3 c4)
    | (go_at_call 29; refine (H3.out _ B3.out).mono ?_; rintro e w4 ⟨E, rfl, h1, h2, h3⟩; have c4 := par_bin h1 h2; rw [tn6, c4]; have B4 := Lib.hid (B3.out.trans (h3.mono B3.out.size)); clear h1 h2 h3 c4))
  go_ret
  exact ⟨rfl, HBL.out.trans (B4.out.mono HBL.out.size)⟩
end Go.Proofs.Ytpfbommaddaijaa
namespace Go.Proofs.Ytpfbommaddaijaa
open Go.ChangeShapes Go.WideShapes Go.ChangeAt Go.RowKit Go.Joins Go.Deep
set_option linter.unusedVariables false

theorem Try.own : ownKnob Try.prog.godebug = none := by kernel_rfl
theorem Try.laidOut : laidOutB Try.prog = true := by kernel_rfl
theorem Try.cells3 : Try.prog.cellsOf 3 = 1 := by kernel_rfl
theorem Try.bytes3 : Try.prog.bytesOf 3 = 8 := by kernel_rfl
theorem open_numbers {H : Type} {enc : TypeId × Value → H} {W : World} {base fuel : Nat} {held : Bool} {a0 : Option Addr} {len cap : Nat} {d : DataW H} {ps : List MemPlace} {ts : List TypeId} {ds : List (DataW H)} {j : Nat}
    (h : DataW.trod enc Try.prog W base (fun _ => true) held fuel 52 [.slice a0 len cap] = some (d, ps)) (hsz : (DataW.weightsEach Try.prog ts ds).all (· ≤ reachBytes) = true) (ht : ts[j]? = some 52) (hd : ds[j]? = some d) :
    ∃ Z, Is W (.slice a0 len cap) len Z ∧ (a0 = none → cap = 0) ∧ len ≤ 2 ^ 50 := by
  rcases open_ints Try.underlying52 Try.underlying3 Try.cells3 h with ⟨hcs, hx⟩ | ⟨a, len', cap', zs, hcs, _, hl, hm, hz, hx, hcell, hwz⟩
  · simp at hcs
    obtain ⟨rfl, rfl, rfl⟩ := hcs
    exact ⟨fun _ => 0, ⟨none, 0, rfl, by omega, by decide, fun h => by omega, fun b hb => by cases hb⟩, fun _ => rfl, by omega⟩
  · simp at hcs
    obtain ⟨rfl, rfl, rfl⟩ := hcs
    simp only [Prod.mk.injEq] at hx
    obtain ⟨rfl, rfl⟩ := hx
    have h1 := sized_slice hsz ht hd Try.underlying52
    rw [Try.bytes3] at h1
    simp only [lits, List.length_map, List.length_take, List.length_drop, reachBytes] at h1
    have hzl : len ≤ zs.length := by rw [hz]; simp; omega
    refine ⟨fun i => zs.getD i 0, ⟨some a, cap, rfl, hl, hm, fun _ => ⟨a, rfl⟩, fun b hb i hi => ?_⟩, by simp, by omega⟩
    cases hb
    exact hcell i (by omega)
end Go.Proofs.Ytpfbommaddaijaa

