/- The law PebbleCounts in a walk: it returns true. -/
import Derived.Test.YtihpdmchppcbfaaFd
import Derived.Test.YtihpdmchppcbfaaTo
namespace Go.Proofs.Ytihpdmchppcbfaa
open Go.RowKit
set_option linter.unusedVariables false
set_option linter.unusedSimpArgs false

set_option maxHeartbeats 16000000 in
set_option maxRecDepth 100000 in
theorem pebbleCounts_any {w : World} {v : Value} {n : Nat} {A : Nat → Option Addr} {L C : Nat → Nat} {Z : Nat → Nat → Int} (hd : Dg w v n A L C Z) {pa : Option Addr} {k pc : Nat} {ms : List (Bool × Int)} (hp : Pl w (.slice pa k pc) ms) (hnil : pa = none → pc = 0) (hl : ms.length * 16 ≤ 140737488351232) (rev : Bool) :
    Calls Try.prog 5 #[v, .slice pa k pc, .bool rev] w fun e w' => e = .returned (.bool true) ∧ Below w.heap.size w w' := by
  obtain ⟨a', c', e1, _⟩ := hp.ex
  have hkl : k = ms.length := by cases e1; rfl
  clear e1
  have Hd := Lib.hid hd
  have Hw := Lib.hid (wide_any hd)
  obtain ⟨a, cap, rfl⟩ : ∃ a cap, v = .slice a n cap := by
    obtain ⟨a, cap, h, _⟩ := hd.top
    exact ⟨a, cap, h⟩
  have hsm := hd.small
  have HP := Lib.hid hp
  have HNIL := Lib.hid hnil
  have HKL := Lib.hid hkl
  have hk40 : k ≤ 2 ^ 44 := by omega
  have HL := Lib.hid hl
  clear hd hp hnil hkl hl
  by_cases hw : 20000 < tot n L n
  · have hwd : decide (20000 < tot n L n) = true := decide_eq_true hw
    rw [hwd] at Hw
    clear hwd hw
    go_enter Try.func5, Try.ntmps5
    go_wp2_with (first | (go_at_call 9; refine Hw.out.mono ?_; rintro e w1 ⟨rfl, rfl⟩) | (go_at_call 10; refine (awake_any _).mono ?_; rintro e w2 ⟨rfl, hb⟩))
    go_ret
    exact ⟨rfl, hb⟩
  have hwd : decide (20000 < tot n L n) = false := decide_eq_false hw
  rw [hwd] at Hw
  have hts := Lib.hid (tot_small (show tot n L n ≤ 20000 by omega)).2
  have hn := (tot_small (show tot n L n ≤ 20000 by omega)).1
  clear hwd hw
  by_cases hlen : 20000 < k ∧ k ≤ 200000
  · have h1 : (20000 : Int) < k := by omega
    have h2 : (k : Int) ≤ 200000 := by omega
    clear hlen
    go_enter Try.func5, Try.ntmps5
    go_wp2_with (first | (go_at_call 9; refine Hw.out.mono ?_; rintro e w1 ⟨rfl, rfl⟩) | (go_at_call 10; refine (awake_any _).mono ?_; rintro e w2 ⟨rfl, hb⟩))
    go_ret
    exact ⟨rfl, hb⟩
  have hd1 : (decide ((20000 : Int) < k) && decide ((k : Int) ≤ 200000)) = false := by simp; omega
  obtain ⟨N, E, hres⟩ : ∃ N E, CNT n L Z rev ms = (N, E) := ⟨_, _, rfl⟩
  have HRES := Lib.hid hres
  obtain ⟨ok, hok⟩ : ∃ ok : Bool, ok = true ↔ okDag n L Z := by
    by_cases h : okDag n L Z
    · exact ⟨true, by simp [h]⟩
    · exact ⟨false, by simp [h]⟩
  have HOK := Lib.hid hok
  have HV1 := Lib.hid (dagValid_any Hd.out (r := ok) hok)
  have hlen' : k ≤ 20000 ∨ 200000 < k := by omega
  clear hres hok hlen
  go_enter Try.func5, Try.ntmps5
  have hcd : decide ((20000 : Int) < k) = true → decide ((k : Int) ≤ 200000) = false := fun h => by
    have := of_decide_eq_true h
    exact decide_eq_false (by omega)
  rcases hlen' with hlen | hlen
  all_goals
    first
      | have hx1 : ¬ (20000 : Int) < k := by omega
      | (have hx1 : (20000 : Int) < k := by omega
         have hx2 : ¬ (k : Int) ≤ 200000 := by omega)
    clear hd1 hcd
    go_upto_block 0 with (first | (go_at_call 9; refine Hw.out.mono ?_; rintro e w1 ⟨rfl, rfl⟩) | (go_at_call 11; refine HV1.out.mono ?_; rintro e w2 ⟨rfl, hb⟩; have HB := Lib.hid hb; clear hb))
    go_cut [8, 9] from 10 (fun x y wr => x = I N ∧ y = I E ∧ Hid (Below w.heap.size w wr))
    case first =>
      cases ok with
      | false =>
        have hr : ¬ okDag n L Z := fun h => by have := HOK.out.2 h; cases this
        have he : N = 0 ∧ E = 1 := by
          have h := HRES.out
          rw [CNT, if_neg hr] at h
          simp at h
          exact ⟨h.1.symm, h.2.symm⟩
        obtain ⟨rfl, rfl⟩ := he
        clear hr
        go_wp2
        go_meet
        exact ⟨rfl, rfl, HB⟩
      | true =>
        have hr : okDag n L Z := HOK.out.1 rfl
        by_cases hmv : MV n ms
        · have HM := Lib.hid (moves_any (n := n) (a := a) (cap := cap) (r := true) (HP.out.keep HB.out) (by have := HL.out; omega) (by omega) (by simp [hmv]))
          have hcr : ∃ mo b, CR n (run L Z rev ms (fun _ => false) 0 0) = (mo, b) := ⟨_, _, rfl⟩
          obtain ⟨mo, b, hcr⟩ := hcr
          have HC := Lib.hid (complete_any (Hd.out.keep HB.out) hr (HP.out.keep HB.out) hmv.1 hmv.2 rev hcr)
          have he : N = (if b = true then mo else 0) ∧ E = (if b = true then 0 else 6) := by
            have h := HRES.out
            rw [CNT, if_pos hr, if_pos hmv] at h
            simp only [hcr] at h
            cases b <;> simp at h ⊢ <;> exact ⟨h.1.symm, h.2.symm⟩
          clear hr hmv hcr
          cases b with
          | true =>
            obtain ⟨rfl, rfl⟩ := he
            go_wp2_with (first | (go_at_call 17; refine HM.out.mono ?_; rintro e w3 ⟨rfl, rfl⟩) | (go_at_call 18; refine HC.out.mono ?_; rintro e w4 ⟨rfl, hb⟩; have HB4 := Lib.hid (HB.out.trans (hb.mono HB.out.size)); clear hb))
            go_meet
            exact ⟨by simp, by simp, HB4⟩
          | false =>
            obtain ⟨rfl, rfl⟩ := he
            go_wp2_with (first | (go_at_call 17; refine HM.out.mono ?_; rintro e w3 ⟨rfl, rfl⟩) | (go_at_call 18; refine HC.out.mono ?_; rintro e w4 ⟨rfl, hb⟩; have HB4 := Lib.hid (HB.out.trans (hb.mono HB.out.size)); clear hb))
            go_meet
            exact ⟨by simp, by simp, HB4⟩
        · have HM := Lib.hid (moves_any (n := n) (a := a) (cap := cap) (r := false) (HP.out.keep HB.out) (by have := HL.out; omega) (by omega) (by simp [hmv]))
          have he : N = 0 ∧ E = 2 := by
            have h := HRES.out
            rw [CNT, if_pos hr, if_neg hmv] at h
            simp at h
            exact ⟨h.1.symm, h.2.symm⟩
          obtain ⟨rfl, rfl⟩ := he
          clear hr hmv
          go_wp2_with (go_at_call 17; refine HM.out.mono ?_; rintro e w3 ⟨rfl, rfl⟩)
          go_meet
          exact ⟨rfl, rfl, HB⟩
    case rest =>
      clear HB
      obtain ⟨rfl, rfl, hB⟩ := hcut
      go_upto_region 14 with (first | (go_at_call 15; refine (copy_any (Hd.out.keep hB.out) hn hts.out).mono ?_; rintro e w1 ⟨v1, A1, C1, rfl, hd1, hb1⟩; have HD1 := Lib.hid hd1; have HB1 := Lib.hid (hB.out.trans (hb1.mono hB.out.size)); clear hd1 hb1) | (go_at_call 26; refine (valid_any HD1.out HOK.out).mono ?_; rintro e w2 ⟨rfl, hb2⟩; have HB2 := Lib.hid (HB1.out.trans (hb2.mono HB1.out.size)); clear hb2))
      clear HD1 HB1
      have hde : (ok == ok) = true := by simp
      go_wp2_with (first | (go_at_call 15; refine (copy_any (Hd.out.keep HB2.out) hn hts.out).mono ?_; rintro e w3 ⟨v3, A3, C3, rfl, hd3, hb3⟩; have HD3 := Lib.hid hd3; have HB3 := Lib.hid (HB2.out.trans (hb3.mono HB2.out.size)); clear hd3 hb3) | (at_builtin; refine wpList_copy_mv rfl (.tmp 54) (.tmp 55) rfl rfl rfl (HP.out.keep HB3.out) HNIL.out (by have := HL.out; omega) ?_; intro v4 w4 hp4 hb4; have HP4 := Lib.hid hp4; have HD4 := Lib.hid (HD3.out.keep hb4); have HB4 := Lib.hid (HB3.out.trans (hb4.mono HB3.out.size)); clear hp4 hb4) | (go_at_call 27; refine (count_any HD4.out HP4.out (by have := HL.out; omega) rev HRES.out).mono ?_; rintro e w5 ⟨rfl, hb5⟩; have HB5 := Lib.hid (HB4.out.trans (hb5.mono HB4.out.size)); clear hb5) | (go_at_call 10; refine (awake_any _).mono ?_; rintro e w6 ⟨rfl, hb⟩; have HB6 := Lib.hid (HB5.out.trans (hb.mono HB5.out.size)); clear hb))
      go_ret
      exact ⟨rb (by simp), HB6.out⟩
end Go.Proofs.Ytihpdmchppcbfaa
