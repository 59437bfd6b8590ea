/- The law PebbleBennett for every input. -/
import Derived.Test.YtihpdmchppcbfaaUc
import Derived.Test.YtihpdmchppcbfaaTm
namespace Go.Proofs.Ytihpdmchppcbfaa
open Go.RowKit
set_option linter.unusedVariables false
set_option linter.unusedSimpArgs false

set_option maxHeartbeats 4000000 in
theorem pb_bad {w : World} (x : Int) (h : x < 1 ∨ 1000 < x) : Calls Try.prog 8 #[I x] w fun e w' => e = .returned (.bool true) ∧ Below w.heap.size w w' := by
  have HB := Lib.hid (bennett_bad (w := w) x h)
  by_cases h1 : x < 1
  · have d1 : decide (x < 1) = true := decide_eq_true h1
    go_enter Try.func8, Try.ntmps8
    go_wp2_with (first
      | (go_at_call 29; refine HB.out.mono ?_; rintro e w1 ⟨rfl, rfl⟩)
      | (go_at_call 10; refine (awake_any _).mono ?_; rintro e w2 ⟨rfl, hb⟩; have HB11 := Lib.hid hb; clear hb))
    go_ret
    exact ⟨rfl, HB11.out⟩
  · have d1 : decide (x < 1) = false := decide_eq_false h1
    have d2 : decide ((1000 : Int) < x) = true := decide_eq_true (by omega)
    go_enter Try.func8, Try.ntmps8
    go_wp2_with (first
      | (go_at_call 29; refine HB.out.mono ?_; rintro e w1 ⟨rfl, rfl⟩)
      | (go_at_call 10; refine (awake_any _).mono ?_; rintro e w2 ⟨rfl, hb⟩; have HB11 := Lib.hid hb; clear hb))
    go_ret
    exact ⟨rfl, HB11.out⟩
theorem three_le {i : Nat} (h : i ≤ 10) : 3 ^ i ≤ 59049 := by
  have : 3 ^ i ≤ 3 ^ 10 := Nat.pow_le_pow_right (by decide) h
  omega
set_option maxHeartbeats 8000000 in
set_option maxRecDepth 100000 in
theorem pb_good {w : World} (n : Nat) (h1 : 1 ≤ n) (h2 : n ≤ 1000) : Calls Try.prog 8 #[I n] w fun e w' => e = .returned (.bool true) ∧ Below w.heap.size w w' := by
  obtain ⟨k, hk, hn, hmin⟩ := bits_ex n h2
  obtain ⟨M, hrun, hM⟩ := ben_all n k h1 hn
  have hmv := ben_mv n k h1 hn hk
  have hlen := ben_len k 0 n true
  have HBE := Lib.hid (bennett_any (w := w) n k h1 h2 hk hn)
  have HBI := Lib.hid (fun w : World => bits_law (w := w) n k hk hn hmin)
  have HRUN := Lib.hid hrun
  have HMV := Lib.hid hmv
  have HLEN := Lib.hid hlen
  have d1 : decide ((n : Int) < 1) = false := decide_eq_false (by omega)
  have d2 : decide ((1000 : Int) < n) = false := decide_eq_false (by omega)
  have d3 : decide (M ≤ (k : Int) + 1) = true := decide_eq_true hM
  obtain ⟨l, hl⟩ : ∃ l, l = ben k 0 n true := ⟨_, rfl⟩
  rw [← hl] at HBE HRUN HMV HLEN
  have hl2 : l.length ≤ 59049 := Nat.le_trans HLEN.out (three_le hk)
  clear hn hmin hrun hM hmv hlen hl
  go_enter Try.func8, Try.ntmps8
  go_upto_region 2 with (go_at_call 29; refine HBE.out.mono ?_; rintro e w1 ⟨v, rfl, hp, hb⟩; have HP := Lib.hid hp; have HB1 := Lib.hid hb; clear hp hb)
  obtain ⟨pa, pc, rfl⟩ := HP.out.shape
  go_wp2
  go_loopw [5, 6] (fun x y wr => ∃ i : Nat, i ≤ k ∧ x = I (3 ^ i : Nat) ∧ y = I i ∧ wr = w1) (fun _ y _ => k - (intOf y).toNat)
  case atStart => exact ⟨0, by omega, rfl, rfl, rfl⟩
  case round =>
    obtain ⟨i, hi, rfl, rfl, hwr⟩ := hrel
    rw [hwr]
    clear hwr
    have hb3 := three_le (Nat.le_trans hi hk)
    by_cases hik : i < k
    · have hs : Hid (3 ^ (i + 1) = 3 ^ i * 3) := Lib.hid (Nat.pow_succ ..)
      have hdk : decide ((i : Int) < (k : Int)) = true := decide_eq_true (by omega)
      generalize 3 ^ i = N at *
      go_wp2_with (go_at_call 30; refine (HBI.out _).mono ?_; rintro e w2 ⟨rfl, rfl⟩)
      go_roundw
      case rel => exact ⟨i + 1, by omega, by rw [hs.out]; go_num, by go_num, by first | rfl | trivial⟩
      case measure => simp [intOf]; omega
    · obtain rfl : i = k := by omega
      have hle := HLEN.out
      generalize 3 ^ i = N at *
      have d4 : decide ((N : Int) < (l.length : Int)) = false := decide_eq_false (by omega)
      have hdk : decide ((i : Int) < (i : Int)) = false := decide_eq_false (by omega)
      go_upto_region 9 with (go_at_call 30; refine (HBI.out _).mono ?_; rintro e w2 ⟨rfl, rfl⟩)
      clear hdk HLEN hb3
      have HD1 := Lib.hid (fun w : World => refPath_any (w := w) n h1 h2)
      have HDW : Hid (∀ (W : World) (pv : Value) (a : Option Addr) (c : Nat), Pl W pv l → Calls Try.prog 17 #[.slice a n c, pv] W fun e w' => e = .returned (.bool true) ∧ W = w') := Lib.hid (fun W pv a c hp => moves_any hp (by omega) (by omega) (by simp only [true_iff]; exact HMV.out))
      have HCO : Hid (∀ (W : World) (v pv : Value) (A : Nat → Option Addr) (C : Nat → Nat), Dg W v n A Lp C Zp → Pl W pv l → Calls Try.prog 18 #[v, pv, .bool true] W fun e w' => e = .returned (.tuple #[I M, .bool true]) ∧ Below W.heap.size W w') := Lib.hid (fun W v pv A C hd hp => complete_any hd (path_ok n h1 h2) hp (by omega) HMV.out.2 true HRUN.out)
      clear HMV HRUN HBE
      generalize l.length = ll at *
      go_wp2_with (first
        | (go_at_call 18; (with_reducible refine (HCO.out _ _ _ _ _ HD5.out HP5.out).mono ?_); rintro e w6 ⟨rfl, hb⟩; have HB6 := Lib.hid (HB5.out.trans (hb.mono HB5.out.size)); clear hb)
        | (go_at_call 19; have _t := HP4; refine (HD1.out _).mono ?_; rintro e w5 ⟨v5, A5, C5, rfl, hd, hb⟩; obtain ⟨xa, xc, rfl, _⟩ := hd.shape; have HD5 := Lib.hid hd; have HP5 := Lib.hid (HP4.out.keep hb); have HB5 := Lib.hid (HB4.out.trans (hb.mono HB4.out.size)); clear hd hb)
        | (go_at_call 17; refine (HDW.out _ _ _ _ HP3.out).mono ?_; rintro e w4 ⟨rfl, rfl⟩; have HP4 := HP3; have HB4 := HB3)
        | (go_at_call 19; refine (HD1.out _).mono ?_; rintro e w3 ⟨v3, A3, C3, rfl, hd, hb⟩; obtain ⟨ya, yc, rfl, _⟩ := hd.shape; have HP3 := Lib.hid (HP.out.keep hb); have HB3 := Lib.hid (HB1.out.trans (hb.mono HB1.out.size)); clear hd hb)
        | (go_at_call 30; refine (HBI.out _).mono ?_; rintro e w7 ⟨rfl, rfl⟩)
        | (go_at_call 10; refine (awake_any _).mono ?_; rintro e w8 ⟨rfl, hb⟩; have HB8 := Lib.hid (HB6.out.trans (hb.mono HB6.out.size)); clear hb))
      go_ret
      exact ⟨rfl, HB8.out⟩
/-- THE STATEMENT -/
theorem pebbleBennett_any {w : World} (x : Int) : Calls Try.prog 8 #[.int .i64 x] w fun e w' => e = .returned (.bool true) ∧ Below w.heap.size w w' := by
  by_cases h : x < 1 ∨ 1000 < x
  · exact pb_bad x h
  · obtain ⟨n, rfl⟩ : ∃ n : Nat, x = n := ⟨x.toNat, by omega⟩
    exact pb_good n (by omega) (by omega)
end Go.Proofs.Ytihpdmchppcbfaa
