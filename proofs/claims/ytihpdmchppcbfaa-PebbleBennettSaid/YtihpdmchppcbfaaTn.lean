/- The law PebbleLeast in a walk: it returns true. -/
import Derived.Test.YtihpdmchppcbfaaTh
import Derived.Test.YtihpdmchppcbfaaTk
import Derived.Test.YtihpdmchppcbfaaTm
namespace Go.Proofs.Ytihpdmchppcbfaa
open Go.RowKit
set_option linter.unusedVariables false
set_option linter.unusedSimpArgs false

theorem dist_yes {w : World} {v : Value} {n : Nat} {A : Nat → Option Addr} {L C : Nat → Nat} {Z : Nat → Nat → Int} (hd : Dg w v n A L C Z) (hr : okDag n L Z) (h14 : n ≤ 14) (k : Int) (rev : Bool) (hc : Can n (nds L Z) rev k) :
    Calls Try.prog 13 #[v, I k, .bool rev] w fun e w' => ∃ m : Nat, e = .returned (I m) ∧ (Rch (Ed n (nds L Z) k rev) m (2 ^ (n - 1)) ∧ ∀ m', Rch (Ed n (nds L Z) k rev) m' (2 ^ (n - 1)) → m ≤ m') ∧ Below w.heap.size w w' :=
  (dist_any hd hr h14 k rev).mono fun e w' ⟨r, ht, he, hb⟩ => by
    rcases ht with ⟨m, rfl, h1, h2⟩ | ⟨rfl, h⟩
    · exact ⟨m, he, ⟨h1, h2⟩, hb⟩
    · obtain ⟨m, hm⟩ := hc
      exact absurd hm (h m)
theorem dist_no {w : World} {v : Value} {n : Nat} {A : Nat → Option Addr} {L C : Nat → Nat} {Z : Nat → Nat → Int} (hd : Dg w v n A L C Z) (hr : okDag n L Z) (h14 : n ≤ 14) (k : Int) (rev : Bool) (hc : ¬ Can n (nds L Z) rev k) :
    Calls Try.prog 13 #[v, I k, .bool rev] w fun e w' => e = .returned (I (-1)) ∧ Below w.heap.size w w' :=
  (dist_any hd hr h14 k rev).mono fun e w' ⟨r, ht, he, hb⟩ => by
    rcases ht with ⟨m, rfl, h1, h2⟩ | ⟨rfl, h⟩
    · exact absurd ⟨m, h1⟩ hc
    · exact ⟨he, hb⟩
set_option maxHeartbeats 2000000 in
theorem refLeast_any {w : World} {v : Value} {n : Nat} {A : Nat → Option Addr} {L C : Nat → Nat} {Z : Nat → Nat → Int} (hd : Dg w v n A L C Z) (hr : okDag n L Z) (h14 : n ≤ 14) {rev : Bool} {c : Nat} (hc : IsLeast n (nds L Z) rev c) :
    Calls Try.prog 12 #[v, .bool rev] w fun e w' => e = .returned (I c) ∧ Below w.heap.size w w' := by
  have Hd := Lib.hid hd
  have HR := Lib.hid hr
  have HC := Lib.hid hc.2.2
  have hc1 := hc.1
  have hcn := hc.2.1
  clear hd hr hc
  go_enter Try.func12, Try.ntmps12
  go_wp2
  go_loopw [5] (fun x wr => ∃ j : Nat, 1 ≤ j ∧ j ≤ c ∧ x = I j ∧ Hid (Below w.heap.size w wr)) (fun x _ => c - (intOf x).toNat)
  case atStart => exact ⟨1, by omega, by omega, rfl, Lib.hid (Below.refl _ _)⟩
  case round =>
    obtain ⟨j, hj1, hjc, rfl, hB⟩ := hrel
    by_cases h : c ≤ j
    · obtain rfl : j = c := by omega
      have HS := Lib.hid (dist_yes (Hd.out.keep hB.out) HR.out h14 j rev ((HC.out j).2 (by omega)))
      go_wp2_with (go_at_call 13; refine HS.out.mono ?_; rintro e w2 ⟨m, rfl, _, hb2⟩; have HB2 := Lib.hid hb2; clear hb2)
      go_ret
      exact ⟨rfl, hB.out.trans (HB2.out.mono hB.out.size)⟩
    · have HS := Lib.hid (dist_no (Hd.out.keep hB.out) HR.out h14 j rev (fun hcan => h (by have := (HC.out j).1 hcan; omega)))
      go_wp2_with (go_at_call 13; refine HS.out.mono ?_; rintro e w2 ⟨rfl, hb2⟩; have HB2 := Lib.hid hb2; clear hb2)
      go_roundw
      case rel => exact ⟨j + 1, by omega, by omega, by go_num, Lib.hid (hB.out.trans (HB2.out.mono hB.out.size))⟩
      case measure => simp [intOf]; omega

/-- a way is a play that is allowed -/
theorem way_run {n : Nat} {L : Nat → Nat} {Z : Nat → Nat → Int} (hr : okDag n L Z) (h14 : n ≤ 14) {kk : Int} {rev : Bool} : ∀ (ms : List (Bool × Int)) (s t : Nat) (most : Int), Way (Ed n (nds L Z) kk rev) n s ms t → s < 2 ^ n → most ≤ kk →
    ∃ mo, run L Z rev ms (fun u => s.testBit u) (pc s : Int) most = some (fun u => t.testBit u, mo) ∧ mo ≤ kk
  | [], s, t, most, h, hs, hk => by
    have : s = t := h
    subst this
    exact ⟨most, rfl, hk⟩
  | m :: ms, s, t, most, ⟨v, hv, hm, he, hw⟩, hs, hk => by
    obtain ⟨u, hu, h1, h2, h3⟩ := he
    obtain rfl := xor_inj h1
    have hal : AL L Z (fun u => s.testBit u) m rev := by
      rw [hm]
      refine ⟨by simp, fun h i hi => ?_⟩
      have := h2 (by
        rcases h with h | h
        · exact .inl ((lt_xor_iff _ _).2 (by simpa using h))
        · exact .inr h)
      exact (nd_and s (L v)).1 this i (by simpa using hi)
    have hup : upd (fun u => s.testBit u) m = fun u => (s ^^^ 2 ^ v).testBit u := by
      funext u
      rw [hm]
      simp only [upd, Int.toNat_natCast, xor_bit]
    have hst : step1 m (pc s : Int) = (pc (s ^^^ 2 ^ v) : Int) := by
      rw [hm]
      simp only [step1]
      cases hb : s.testBit v with
      | false =>
        have := pcF_set 14 v s (by omega) hb
        simp only [Bool.not_false, if_true]
        unfold pc
        omega
      | true =>
        have := pcF_set 14 v (s ^^^ 2 ^ v) (by omega) (by rw [xor_bit]; simp [hb])
        rw [xor_back] at this
        simp only [Bool.not_true, Bool.false_eq_true, if_false]
        unfold pc
        omega
    obtain ⟨mo, h4, h5⟩ := way_run hr h14 ms (s ^^^ 2 ^ v) t (max most (pc (s ^^^ 2 ^ v) : Int)) hw (xor_lt hs hv) (by omega)
    refine ⟨mo, ?_, h5⟩
    rw [run, if_pos hal, hup, hst]
    exact h4
theorem way_ok {n : Nat} {E : Nat → Nat → Prop} : ∀ (ms : List (Bool × Int)) (s t : Nat), Way E n s ms t → ∀ i, i < ms.length → okM n (ms.getD i dm)
  | [], s, t, h, i, hi => by simp at hi
  | m :: ms, s, t, ⟨v, hv, hm, he, hw⟩, i, hi => by
    match i with
    | 0 =>
      show okM n m
      rw [hm]
      exact ⟨by simp, by simpa using hv⟩
    | i + 1 => exact way_ok ms _ t hw i (by simpa using hi)
theorem way_complete {n : Nat} {L : Nat → Nat} {Z : Nat → Nat → Int} (hr : okDag n L Z) (h14 : n ≤ 14) {kk : Int} {rev : Bool} {ms : List (Bool × Int)} (hw : Way (Ed n (nds L Z) kk rev) n 0 ms (2 ^ (n - 1))) (hk : 0 ≤ kk) : ∃ mo, CR n (run L Z rev ms (fun _ => false) 0 0) = (mo, true) ∧ mo ≤ kk := by
  obtain ⟨mo, h1, h2⟩ := way_run hr h14 ms 0 _ 0 hw (Nat.two_pow_pos n) hk
  have h0 : (fun u => (0 : Nat).testBit u) = (fun _ => false) := by funext u; simp
  have hpc0 : ((pc 0 : Nat) : Int) = 0 := rfl
  rw [h0, hpc0] at h1
  refine ⟨mo, ?_, h2⟩
  rw [h1]
  simp only [CR]
  rw [if_pos]
  intro v hv
  simp only [Nat.testBit_two_pow]
  rw [Bool.eq_iff_iff, decide_eq_true_iff, decide_eq_true_iff]
  omega
end Go.Proofs.Ytihpdmchppcbfaa
