/- The law PebbleLeast in a walk: it returns true. -/
import Derived.Test.YtihpdmchppcbfaaTn
namespace Go.Proofs.Ytihpdmchppcbfaa
open Go.RowKit
set_option linter.unusedVariables false
set_option linter.unusedSimpArgs false

/-- what the law expects -/
def LOut (n : Nat) (L : Nat → Nat) (Z : Nat → Nat → Int) (rev : Bool) (k : Int) (N0 F due late : Int) : Prop :=
  (¬ okDag n L Z ∧ N0 = 0 ∧ F = 0 ∧ due = 1 ∧ late = 1) ∨ (okDag n L Z ∧ 14 < n ∧ N0 = 0 ∧ F = 0 ∧ due = 5 ∧ late = 5) ∨
  (okDag n L Z ∧ n ≤ 14 ∧ (∃ c : Nat, IsLeast n (nds L Z) rev c ∧ N0 = c) ∧ ¬ Can n (nds L Z) rev k ∧ F = 0 ∧ due = 0 ∧ late = 6) ∨
  (okDag n L Z ∧ n ≤ 14 ∧ (∃ c : Nat, IsLeast n (nds L Z) rev c ∧ N0 = c) ∧ Can n (nds L Z) rev k ∧ (∃ m : Nat, F = m ∧ Rch (Ed n (nds L Z) k rev) m (2 ^ (n - 1)) ∧ ∀ m', Rch (Ed n (nds L Z) k rev) m' (2 ^ (n - 1)) → m ≤ m') ∧ due = 0 ∧ late = 0)
theorem exists_least {n : Nat} {L : Nat → Nat} {Z : Nat → Nat → Int} (hr : okDag n L Z) (h14 : n ≤ 14) (rev : Bool) : ∃ c : Nat, IsLeast n (nds L Z) rev c := by
  obtain ⟨c, h1, h2, _, h4⟩ := least_is (n := n) (need := nds L Z) rev hr.need hr.1 h14
  exact ⟨c, h1, h2, h4⟩
theorem min_nat {P : Nat → Prop} (h : ∃ m, P m) : ∃ m, P m ∧ ∀ m', P m' → m ≤ m' := by
  apply Classical.byContradiction
  intro hn
  have : ∀ m, ¬ P m := fun m => by
    induction m using Nat.strongRecOn with
    | _ m ih => exact fun hm => hn ⟨m, hm, fun m' h' => Classical.byContradiction fun hl => ih m' (by omega) h'⟩
  obtain ⟨m, hm⟩ := h
  exact this m hm
theorem LOut.some (n : Nat) (L : Nat → Nat) (Z : Nat → Nat → Int) (rev : Bool) (k : Int) : ∃ N0 F due late, LOut n L Z rev k N0 F due late := by
  by_cases hr : okDag n L Z
  · by_cases h14 : n ≤ 14
    · obtain ⟨c, hc⟩ := exists_least hr h14 rev
      by_cases hcan : Can n (nds L Z) rev k
      · obtain ⟨m, h1, h2⟩ := min_nat hcan
        exact ⟨c, m, 0, 0, .inr (.inr (.inr ⟨hr, h14, ⟨c, hc, rfl⟩, hcan, ⟨m, rfl, h1, h2⟩, rfl, rfl⟩))⟩
      · exact ⟨c, 0, 0, 6, .inr (.inr (.inl ⟨hr, h14, ⟨c, hc, rfl⟩, hcan, rfl, rfl, rfl⟩))⟩
    · exact ⟨0, 0, 5, 5, .inr (.inl ⟨hr, by omega, rfl, rfl, rfl, rfl⟩)⟩
  · exact ⟨0, 0, 1, 1, .inl ⟨hr, rfl, rfl, rfl, rfl⟩⟩
section
variable {n : Nat} {L : Nat → Nat} {Z : Nat → Nat → Int} {rev : Bool} {k N0 F due late : Int}
theorem LOut.least (h : LOut n L Z rev k N0 F due late) {w : World} {v : Value} {A : Nat → Option Addr} {C : Nat → Nat} (hd : Dg w v n A L C Z) : Calls Try.prog 14 #[v, .bool rev] w fun e w' => e = .returned (.tuple #[I N0, I due]) ∧ Below w.heap.size w w' := by
  rcases h with ⟨hr, rfl, rfl, rfl, rfl⟩ | ⟨hr, h14, rfl, rfl, rfl, rfl⟩ | ⟨hr, h14, ⟨c, hc, rfl⟩, hcan, rfl, rfl, rfl⟩ | ⟨hr, h14, ⟨c, hc, rfl⟩, hcan, _, rfl, rfl⟩
  · exact least_bad hd hr rev
  · exact least_big hd hr h14 rev
  · exact least_ok hd hr h14 hc
  · exact least_ok hd hr h14 hc
theorem LOut.short (h : LOut n L Z rev k N0 F due late) {w : World} {v : Value} {A : Nat → Option Addr} {C : Nat → Nat} (hd : Dg w v n A L C Z) : Calls Try.prog 16 #[v, I k, .bool rev] w (Sho (Ed n (nds L Z) k rev) n late w) := by
  rcases h with ⟨hr, rfl, rfl, rfl, rfl⟩ | ⟨hr, h14, rfl, rfl, rfl, rfl⟩ | ⟨hr, h14, ⟨c, hc, rfl⟩, hcan, rfl, rfl, rfl⟩ | ⟨hr, h14, ⟨c, hc, rfl⟩, hcan, _, rfl, rfl⟩
  · exact shortest_any hd k rev (.inl ⟨hr, rfl⟩)
  · exact shortest_any hd k rev (.inr (.inl ⟨hr, h14, rfl⟩))
  · exact shortest_any hd k rev (.inr (.inr (.inl ⟨hr, h14, hcan, rfl⟩)))
  · exact shortest_any hd k rev (.inr (.inr (.inr ⟨hr, h14, hcan, rfl⟩)))
theorem LOut.len (h : LOut n L Z rev k N0 F due late) {l : List (Bool × Int)} (h1 : late = 0 → Told (Ed n (nds L Z) k rev) n (2 ^ (n - 1)) l true) (h2 : late ≠ 0 → l = []) : (l.length : Int) = F := by
  rcases h with ⟨hr, rfl, rfl, rfl, rfl⟩ | ⟨hr, h14, rfl, rfl, rfl, rfl⟩ | ⟨hr, h14, ⟨c, hc, rfl⟩, hcan, rfl, rfl, rfl⟩ | ⟨hr, h14, ⟨c, hc, rfl⟩, hcan, ⟨m, rfl, h3, h4⟩, rfl, rfl⟩
  · rw [h2 (by decide)]; rfl
  · rw [h2 (by decide)]; rfl
  · rw [h2 (by decide)]; rfl
  · rcases h1 rfl with ⟨_, q2, q3, q4, q5⟩ | ⟨_, hb, _⟩
    · have a := q4 m h3
      have b := h4 _ q3
      omega
    · cases hb
end
theorem tot_small {n : Nat} {L : Nat → Nat} (h : tot n L n ≤ 20000) : n ≤ 20000 ∧ ∀ r, r < n → L r ≤ 20000 := by
  refine ⟨Nat.le_trans (tot_mono n L (k := 0) n (by omega)) h, fun r hr => ?_⟩
  have h1 := tot_mono n L (k := r + 1) n (by omega)
  have h2 : tot n L (r + 1) = tot n L r + L r := rfl
  omega

set_option maxHeartbeats 16000000 in
set_option maxRecDepth 100000 in
theorem pebbleLeast_any {w : World} {v : Value} {n : Nat} {A : Nat → Option Addr} {L C : Nat → Nat} {Z : Nat → Nat → Int} (hd : Dg w v n A L C Z) (k : Int) (rev : Bool) : Calls Try.prog 3 #[v, I k, .bool rev] w fun e w' => e = .returned (.bool true) ∧ Below w.heap.size w w' := by
  have Hd := Lib.hid hd
  have Hw := Lib.hid (wide_any hd)
  obtain ⟨a, cap, rfl⟩ : ∃ a cap, v = .slice a n cap := by
    obtain ⟨a, cap, h, _⟩ := hd.top
    exact ⟨a, cap, h⟩
  have hsm := hd.small
  clear hd
  by_cases hw : 20000 < tot n L n
  · have hwd : decide (20000 < tot n L n) = true := decide_eq_true hw
    rw [hwd] at Hw
    clear hwd hw
    go_enter Try.func3, Try.ntmps3
    go_wp2_with (first | (go_at_call 9; refine Hw.out.mono ?_; rintro e w1 ⟨rfl, rfl⟩) | (go_at_call 10; refine (awake_any _).mono ?_; rintro e w2 ⟨rfl, hb⟩))
    go_ret
    exact ⟨rfl, hb⟩
  have hwd : decide (20000 < tot n L n) = false := decide_eq_false hw
  rw [hwd] at Hw
  have hts := Lib.hid (tot_small (show tot n L n ≤ 20000 by omega)).2
  have hn := (tot_small (show tot n L n ≤ 20000 by omega)).1
  clear hwd hw
  obtain ⟨N0, F, due, late, ho⟩ := LOut.some n L Z rev k
  have Ho := Lib.hid ho
  go_enter Try.func3, Try.ntmps3
  go_upto_block 0 with (first | (go_at_call 9; refine Hw.out.mono ?_; rintro e w1 ⟨rfl, rfl⟩))
  go_cut [7, 8, 9, 10] from 11 (fun x y z u wr => x = I N0 ∧ y = I F ∧ z = I due ∧ u = I late ∧ Hid (Below w.heap.size w wr))
  case first =>
    clear Ho
    rcases ho with ⟨hr, rfl, rfl, rfl, rfl⟩ | ⟨hr, h14, rfl, rfl, rfl, rfl⟩ | ⟨hr, h14, ⟨c, hc, rfl⟩, hcan, rfl, rfl, rfl⟩ | ⟨hr, h14, ⟨c, hc, rfl⟩, hcan, ⟨m, rfl, hm1, hm2⟩, rfl, rfl⟩
    · have HV := Lib.hid (dagValid_any Hd.out (r := false) (by simp [hr]))
      clear hr
      go_wp2_with (go_at_call 11; refine HV.out.mono ?_; rintro e w1 ⟨rfl, hb⟩; have HB1 := Lib.hid hb; clear hb)
      go_meet
      exact ⟨rfl, rfl, rfl, rfl, HB1⟩
    · have HV := Lib.hid (dagValid_any Hd.out (r := true) (by simp [hr]))
      have hgt : (14 : Int) < n := by omega
      clear hr
      go_wp2_with (go_at_call 11; refine HV.out.mono ?_; rintro e w1 ⟨rfl, hb⟩; have HB1 := Lib.hid hb; clear hb)
      go_meet
      exact ⟨rfl, rfl, rfl, rfl, HB1⟩
    · have HV := Lib.hid (dagValid_any Hd.out (r := true) (by simp [hr]))
      have hgt : ¬ (14 : Int) < n := by omega
      have HL := Lib.hid (fun (w1 : World) (hb : Below w.heap.size w w1) => refLeast_any (Hd.out.keep hb) hr h14 hc)
      have HD := Lib.hid (fun (w1 : World) (hb : Below w.heap.size w w1) => dist_no (Hd.out.keep hb) hr h14 (if (n : Int) < k then (n : Int) else k) rev (fun h => hcan (by
        obtain ⟨m, hm⟩ := h
        rw [show (if (n : Int) < k then (n : Int) else k) = min k n by split <;> omega] at hm
        exact ⟨m, (rch_min rev h14 k m _).2 hm⟩)))
      clear hr hc hcan
      rcases Classical.em ((n : Int) < k) with hnk | hnk
      all_goals
        simp only [hnk, if_true, if_false] at HD
        go_wp2_with (first | (go_at_call 11; refine HV.out.mono ?_; rintro e w1 ⟨rfl, hb⟩; have HB1 := Lib.hid hb; clear hb) | (go_at_call 12; refine (HL.out _ HB1.out).mono ?_; rintro e w2 ⟨rfl, hb⟩; have HB2 := Lib.hid (HB1.out.trans (hb.mono HB1.out.size)); clear hb) | (go_at_call 13; refine (HD.out _ HB2.out).mono ?_; rintro e w3 ⟨rfl, hb⟩; have HB3 := Lib.hid (HB2.out.trans (hb.mono HB2.out.size)); clear hb))
        go_meet
        exact ⟨rfl, rfl, rfl, rfl, HB3⟩
    · have HV := Lib.hid (dagValid_any Hd.out (r := true) (by simp [hr]))
      have hgt : ¬ (14 : Int) < n := by omega
      have HL := Lib.hid (fun (w1 : World) (hb : Below w.heap.size w w1) => refLeast_any (Hd.out.keep hb) hr h14 hc)
      have hmk : (if (n : Int) < k then (n : Int) else k) = min k n := by split <;> omega
      have HD := Lib.hid (fun (w1 : World) (hb : Below w.heap.size w w1) => dist_yes (Hd.out.keep hb) hr h14 (if (n : Int) < k then (n : Int) else k) rev (by
        obtain ⟨m, hm⟩ := hcan
        rw [hmk]
        exact ⟨m, (rch_min rev h14 k m _).1 hm⟩))
      have HM : Hid (∀ m' : Nat, (Rch (Ed n (nds L Z) (if (n : Int) < k then (n : Int) else k) rev) m' (2 ^ (n - 1)) ∧ ∀ m'', Rch (Ed n (nds L Z) (if (n : Int) < k then (n : Int) else k) rev) m'' (2 ^ (n - 1)) → m' ≤ m'') → m' = m) := Lib.hid (fun m' ⟨h1, h2⟩ => by
        rw [hmk] at h1 h2
        have q1 := hm2 m' ((rch_min rev h14 k m' _).2 h1)
        have q2 := h2 m ((rch_min rev h14 k m _).1 hm1)
        omega)
      clear hr hc hcan hm1 hm2 hmk
      rcases Classical.em ((n : Int) < k) with hnk | hnk
      all_goals
        simp only [hnk, if_true, if_false] at HD HM
        go_wp2_with (first | (go_at_call 11; refine HV.out.mono ?_; rintro e w1 ⟨rfl, hb⟩; have HB1 := Lib.hid hb; clear hb) | (go_at_call 12; refine (HL.out _ HB1.out).mono ?_; rintro e w2 ⟨rfl, hb⟩; have HB2 := Lib.hid (HB1.out.trans (hb.mono HB1.out.size)); clear hb) | (go_at_call 13; refine (HD.out _ HB2.out).mono ?_; rintro e w3 ⟨m', rfl, hm', hb⟩; obtain rfl := HM.out m' hm'; have HB3 := Lib.hid (HB2.out.trans (hb.mono HB2.out.size)); clear hb hm'))
        go_meet
        exact ⟨rfl, rfl, rfl, rfl, HB3⟩
  case rest =>
    clear ho
    obtain ⟨rfl, rfl, rfl, rfl, hB⟩ := hcut
    go_upto_region 13 with (first | (go_at_call 15; refine (copy_any (Hd.out.keep hB.out) hn hts.out).mono ?_; rintro e w1 ⟨v1, A1, C1, rfl, hd1, hb1⟩; have HD1 := Lib.hid hd1; have HB1 := Lib.hid (hB.out.trans (hb1.mono hB.out.size)); clear hd1 hb1) | (go_at_call 14; refine (Ho.out.least HD1.out).mono ?_; rintro e w2 ⟨rfl, hb2⟩; have HB2 := Lib.hid (HB1.out.trans (hb2.mono HB1.out.size)); clear hb2))
    clear HD1 HB1
    go_upto_region 14 with (first | (go_at_call 15; refine (copy_any (Hd.out.keep HB2.out) hn hts.out).mono ?_; rintro e w3 ⟨v3, A3, C3, rfl, hd3, hb3⟩; have HD3 := Lib.hid hd3; have HB3 := Lib.hid (HB2.out.trans (hb3.mono HB2.out.size)); clear hd3 hb3) | (go_at_call 16; refine (Ho.out.short HD3.out).mono ?_; rintro e w4 ⟨l, v0, rfl, hp, hb4, ht1, ht2⟩; have HB4 := Lib.hid (HB3.out.trans (hb4.mono HB3.out.size)); have HP := Lib.hid hp; have HT1 := Lib.hid ht1; have HT2 := Lib.hid ht2; clear hb4 hp ht1 ht2))
    have hlen := Ho.out.len HT1.out HT2.out
    obtain ⟨pa, pc, rfl⟩ := HP.out.shape
    obtain ⟨ll, hll⟩ : ∃ ll, ll = l.length := ⟨_, rfl⟩
    rw [← hll] at hlen
    have HLL := Lib.hid hll
    rw [← hll]
    clear hll
    subst hlen
    clear HD3 HB3 HB2
    by_cases hlate : late = 0
    · obtain rfl := hlate
      obtain ⟨hr, h14, ⟨c, hc, hc2⟩, hcan⟩ : okDag n L Z ∧ n ≤ 14 ∧ (∃ c : Nat, IsLeast n (nds L Z) rev c ∧ N0 = c) ∧ Can n (nds L Z) rev k := by
        rcases Ho.out with ⟨_, _, _, _, h⟩ | ⟨_, _, _, _, _, h⟩ | ⟨_, _, _, _, _, _, h⟩ | ⟨hr, h14, hc, hcan, _⟩
        · cases h
        · cases h
        · cases h
        · exact ⟨hr, h14, hc, hcan⟩
      obtain rfl := hc2
      have hck : (c : Int) ≤ k := (hc.2.2 k).1 hcan
      have hk0 : 0 ≤ k := by omega
      have HWAY : Hid (Way (Ed n (nds L Z) k rev) n 0 l (2 ^ (n - 1)) ∧ l.length < 2 ^ n) := Lib.hid (by
        rcases HT1.out rfl with ⟨_, q2, q3, q4, q5⟩ | ⟨_, hb, _⟩
        · exact ⟨q2, q5⟩
        · cases hb)
      have hl14 : l.length ≤ 16384 := by
        have h1 := HWAY.out.2
        have : 2 ^ n ≤ 2 ^ 14 := Nat.pow_le_pow_right (by omega) h14
        have : (2 : Nat) ^ 14 = 16384 := by decide
        omega
      obtain ⟨mo, hcr, hmo⟩ := way_complete hr h14 HWAY.out.1 hk0
      have hmv : MV n l := ⟨by omega, way_ok l _ _ HWAY.out.1⟩
      have HMOV := Lib.hid (moves_any (n := n) (a := a) (cap := cap) (r := true) HP.out (by omega) (by omega) (by simp [hmv]))
      have HCOM := Lib.hid (complete_any (Hd.out.keep HB4.out) hr HP.out (by omega) hmv.2 rev hcr)
      rw [← HLL.out] at HMOV HCOM
      have hmo' : decide (mo ≤ k) = true := decide_eq_true hmo
      have hck' : decide ((c : Int) ≤ k) = true := decide_eq_true hck
      clear hr hc hcan hcr hmv
      go_wp2_with (first | (go_at_call 17; refine HMOV.out.mono ?_; rintro e w5 ⟨rfl, rfl⟩) | (go_at_call 18; refine HCOM.out.mono ?_; rintro e w6 ⟨rfl, hb⟩; have HB6 := Lib.hid (HB4.out.trans (hb.mono HB4.out.size)); clear hb) | (go_at_call 10; refine (awake_any _).mono ?_; rintro e w7 ⟨rfl, hb⟩; have HB7 := Lib.hid (HB6.out.trans (hb.mono HB6.out.size)); clear hb))
      go_ret
      exact ⟨rfl, HB7.out⟩
    · have hln : (late != 0) = true := by simp [hlate]
      have hln2 : (late == 0) = false := by simp [hlate]
      clear hlate
      go_wp2_with (go_at_call 10; refine (awake_any _).mono ?_; rintro e w7 ⟨rfl, hb⟩; have HB7 := Lib.hid (HB4.out.trans (hb.mono HB4.out.size)); clear hb)
      go_ret
      exact ⟨rfl, HB7.out⟩
end Go.Proofs.Ytihpdmchppcbfaa
