/- The law PebbleGames in a walk: it returns true. -/
import Derived.Test.YtihpdmchppcbfaaFd
import Derived.Test.YtihpdmchppcbfaaTo
namespace Go.Proofs.Ytihpdmchppcbfaa
open Go.RowKit
set_option linter.unusedVariables false
set_option linter.unusedSimpArgs false

theorem LOut.two {n : Nat} {L : Nat → Nat} {Z : Nat → Nat → Int} {a F due late b F' due' late' : Int} (h : LOut n L Z true 0 a F due late) (h' : LOut n L Z false 0 b F' due' late') : due = due' ∧ b ≤ a ∧ (due = 0 → n ≤ 14 ∧ ∃ c : Nat, IsLeast n (nds L Z) true c ∧ a = c) := by
  rcases h with ⟨hr, rfl, rfl, rfl, rfl⟩ | ⟨hr, h14, rfl, rfl, rfl, rfl⟩ | ⟨hr, h14, ⟨c, hc, rfl⟩, _, rfl, rfl, rfl⟩ | ⟨hr, h14, ⟨c, hc, rfl⟩, _, _, rfl, rfl⟩ <;>
  rcases h' with ⟨hr', rfl, rfl, rfl, rfl⟩ | ⟨hr', h14', rfl, rfl, rfl, rfl⟩ | ⟨hr', h14', ⟨c', hc', rfl⟩, _, rfl, rfl, rfl⟩ | ⟨hr', h14', ⟨c', hc', rfl⟩, _, _, rfl, rfl⟩ <;>
  first
    | exact absurd hr' hr
    | exact absurd hr hr'
    | omega
    | exact ⟨rfl, Int.le_refl _, fun h => absurd h (by decide)⟩
    | exact ⟨rfl, by have := hc.black hc'; omega, fun _ => ⟨h14, c, hc, rfl⟩⟩

set_option maxHeartbeats 16000000 in
set_option maxRecDepth 100000 in
theorem pebbleGames_any {w : World} {v : Value} {n : Nat} {A : Nat → Option Addr} {L C : Nat → Nat} {Z : Nat → Nat → Int} (hd : Dg w v n A L C Z) {pa : Option Addr} {k pc : Nat} {ms : List (Bool × Int)} (hp : Pl w (.slice pa k pc) ms) (hnil : pa = none → pc = 0) (hl : ms.length * 16 ≤ 140737488351232) :
    Calls Try.prog 6 #[v, .slice pa k pc] w fun e w' => e = .returned (.bool true) ∧ Below w.heap.size w w' := by
  obtain ⟨a', c', e1, _⟩ := hp.ex
  have hkl : k = ms.length := by cases e1; rfl
  clear e1
  have Hd := Lib.hid hd
  have Hw := Lib.hid (wide_any hd)
  obtain ⟨a, cap, rfl⟩ : ∃ a cap, v = .slice a n cap := by
    obtain ⟨a, cap, h, _⟩ := hd.top
    exact ⟨a, cap, h⟩
  have hsm := hd.small
  have HP := Lib.hid hp
  have HNIL := Lib.hid hnil
  have HKL := Lib.hid hkl
  have hk40 : k ≤ 2 ^ 44 := by omega
  have HL := Lib.hid hl
  clear hd hp hnil hkl hl
  by_cases hw : 20000 < tot n L n
  · have hwd : decide (20000 < tot n L n) = true := decide_eq_true hw
    rw [hwd] at Hw
    clear hwd hw
    go_enter Try.func6, Try.ntmps6
    go_wp2_with (first | (go_at_call 9; refine Hw.out.mono ?_; rintro e w1 ⟨rfl, rfl⟩) | (go_at_call 10; refine (awake_any _).mono ?_; rintro e w2 ⟨rfl, hb⟩))
    go_ret
    exact ⟨rfl, hb⟩
  have hwd : decide (20000 < tot n L n) = false := decide_eq_false hw
  rw [hwd] at Hw
  have hts := Lib.hid (tot_small (show tot n L n ≤ 20000 by omega)).2
  have hn := (tot_small (show tot n L n ≤ 20000 by omega)).1
  clear hwd hw
  by_cases hlen : 20000 < k
  · have h1 : (20000 : Int) < k := by omega
    clear hlen
    go_enter Try.func6, Try.ntmps6
    go_wp2_with (first | (go_at_call 9; refine Hw.out.mono ?_; rintro e w1 ⟨rfl, rfl⟩) | (go_at_call 10; refine (awake_any _).mono ?_; rintro e w2 ⟨rfl, hb⟩))
    go_ret
    exact ⟨rfl, hb⟩
  have h1 : ¬ (20000 : Int) < k := by omega
  clear hlen
  obtain ⟨N1, E1, hres1⟩ : ∃ N E, CNT n L Z true ms = (N, E) := ⟨_, _, rfl⟩
  obtain ⟨N2, E2, hres2⟩ : ∃ N E, CNT n L Z false ms = (N, E) := ⟨_, _, rfl⟩
  obtain ⟨a0, F1, due, late1, ho1⟩ := LOut.some n L Z true 0
  obtain ⟨b0, F2, due2, late2, ho2⟩ := LOut.some n L Z false 0
  obtain ⟨hdue, hab, hz⟩ := ho1.two ho2
  subst hdue
  have HRES1 := Lib.hid hres1
  have HRES2 := Lib.hid hres2
  have HO1 := Lib.hid ho1
  have HO2 := Lib.hid ho2
  have hE : E1 = 0 → E2 = 0 ∧ N2 = N1 := fun h => by
    subst h
    have := CNT_black hres1
    rw [hres2] at this
    simp at this
    exact ⟨this.2, this.1⟩
  have hN : E1 = 0 → due = 0 → a0 ≤ N1 := fun h h' => by
    subst h
    obtain ⟨h14, c, hc, rfl⟩ := hz h'
    exact (hc.2.2 N1).1 (CNT_can h14 hres1)
  have hab' : decide (b0 ≤ a0) = true := decide_eq_true hab
  clear hres1 hres2 ho1 ho2 hz hab
  go_enter Try.func6, Try.ntmps6
  go_upto_region 4 with (first | (go_at_call 9; refine Hw.out.mono ?_; rintro e w1 ⟨rfl, rfl⟩) | (go_at_call 15; refine (copy_any Hd.out hn hts.out).mono ?_; rintro e w3 ⟨v3, A3, C3, rfl, hd3, hb3⟩; have HD3 := Lib.hid hd3; have HB3 := Lib.hid hb3; clear hd3 hb3) | (at_builtin; refine wpList_copy_mv rfl (.tmp 24) (.tmp 25) rfl rfl rfl (HP.out.keep HB3.out) HNIL.out (by have := HL.out; omega) ?_; intro v4 w4 hp4 hb4; have HP4 := Lib.hid hp4; have HD4 := Lib.hid (HD3.out.keep hb4); have HB4 := Lib.hid (HB3.out.trans (hb4.mono HB3.out.size)); clear hp4 hb4) | (go_at_call 27; refine (count_any HD4.out HP4.out (by have := HL.out; omega) true HRES1.out).mono ?_; rintro e w5 ⟨rfl, hb5⟩; have HB5 := Lib.hid (HB4.out.trans (hb5.mono HB4.out.size)); clear hb5))
  clear HD3 HB3 HP4 HD4 HB4
  go_upto_region 5 with (first | (go_at_call 15; refine (copy_any (Hd.out.keep HB5.out) hn hts.out).mono ?_; rintro e w6 ⟨v6, A6, C6, rfl, hd6, hb6⟩; have HD6 := Lib.hid hd6; have HB6 := Lib.hid (HB5.out.trans (hb6.mono HB5.out.size)); clear hd6 hb6) | (at_builtin; refine wpList_copy_mv rfl (.tmp 33) (.tmp 34) rfl rfl rfl (HP.out.keep HB6.out) HNIL.out (by have := HL.out; omega) ?_; intro v7 w7 hp7 hb7; have HP7 := Lib.hid hp7; have HD7 := Lib.hid (HD6.out.keep hb7); have HB7 := Lib.hid (HB6.out.trans (hb7.mono HB6.out.size)); clear hp7 hb7) | (go_at_call 27; refine (count_any HD7.out HP7.out (by have := HL.out; omega) false HRES2.out).mono ?_; rintro e w8 ⟨rfl, hb8⟩; have HB8 := Lib.hid (HB7.out.trans (hb8.mono HB7.out.size)); clear hb8))
  clear HB5 HD6 HB6 HP7 HD7 HB7
  go_cut [49] from 50 (fun x wr => x = .bool false ∧ wr = w8)
  case first =>
    clear hN
    by_cases he : E1 = 0
    · obtain ⟨h2, h3⟩ := hE he
      clear hE
      subst he h2 h3
      go_wp2
      go_meet
      exact ⟨rfl, rfl⟩
    · have he1 : (E1 == 0) = false := by simp [he]
      clear hE he
      go_wp2
      go_meet
      exact ⟨rfl, rfl⟩
  case rest =>
    obtain ⟨rfl, rfl⟩ := hcut
    clear hE
    go_upto_region 9 with (first | (go_at_call 15; refine (copy_any (Hd.out.keep HB8.out) hn hts.out).mono ?_; rintro e w6 ⟨v6, A6, C6, rfl, hd6, hb6⟩; have HD6 := Lib.hid hd6; have HB6 := Lib.hid (HB8.out.trans (hb6.mono HB8.out.size)); clear hd6 hb6 HB8) | (go_at_call 14; refine (HO1.out.least HD6.out).mono ?_; rintro e w7 ⟨rfl, hb7⟩; have HB7 := Lib.hid (HB6.out.trans (hb7.mono HB6.out.size)); clear hb7 HD6 HB6) | (go_at_call 15; refine (copy_any (Hd.out.keep HB7.out) hn hts.out).mono ?_; rintro e w8 ⟨v8, A8, C8, rfl, hd8, hb8⟩; have HD8 := Lib.hid hd8; have HB9 := Lib.hid (HB7.out.trans (hb8.mono HB7.out.size)); clear hd8 hb8 HB7) | (go_at_call 14; refine (HO2.out.least HD8.out).mono ?_; rintro e w9 ⟨rfl, hb9⟩; have HB10 := Lib.hid (HB9.out.trans (hb9.mono HB9.out.size)); clear hb9))
    by_cases he : E1 = 0
    · by_cases hdu : due = 0
      · have hN' := hN he hdu
        have hd2 : decide (a0 ≤ N1) = true := decide_eq_true hN'
        clear hN
        subst he hdu
        go_wp2_with (go_at_call 10; refine (awake_any _).mono ?_; rintro e w6 ⟨rfl, hb⟩; have HB11 := Lib.hid (HB10.out.trans (hb.mono HB10.out.size)); clear hb)
        go_ret
        exact ⟨rfl, HB11.out⟩
      · have hdu1 : (due != 0) = true := by simp [hdu]
        clear hN hdu
        subst he
        go_wp2_with (go_at_call 10; refine (awake_any _).mono ?_; rintro e w6 ⟨rfl, hb⟩; have HB11 := Lib.hid (HB10.out.trans (hb.mono HB10.out.size)); clear hb)
        go_ret
        exact ⟨rfl, HB11.out⟩
    · have he1 : (E1 != 0) = true := by simp [he]
      clear hN he
      go_wp2_with (go_at_call 10; refine (awake_any _).mono ?_; rintro e w6 ⟨rfl, hb⟩; have HB11 := Lib.hid (HB10.out.trans (hb.mono HB10.out.size)); clear hb)
      go_ret
      exact ⟨rfl, HB11.out⟩
end Go.Proofs.Ytihpdmchppcbfaa
