/- The least number of pebbles, shortest plays, the path, and the first example. -/
import Derived.Test.YtihpdmchppcbfaaTe
import Derived.Test.YtihpdmchppcbfaaTi
namespace Go.Proofs.Ytihpdmchppcbfaa
open Go.RowKit
set_option linter.unusedVariables false
set_option linter.unusedSimpArgs false

theorem okDag.need {n : Nat} {L : Nat → Nat} {Z : Nat → Nat → Int} (hr : okDag n L Z) : ∀ v, v < n → nd (Z v) (L v) < 2 ^ v := fun v hv =>
  nd_lt (L v) fun j hj => by have := hr.2.2 v hv j hj; unfold okAt at this; omega
abbrev nds (L : Nat → Nat) (Z : Nat → Nat → Int) : Nat → Nat := fun v => nd (Z v) (L v)
/-- c is the least number of pebbles -/
def IsLeast (n : Nat) (need : Nat → Nat) (rev : Bool) (c : Nat) : Prop := 1 ≤ c ∧ c ≤ n ∧ ∀ k : Int, Can n need rev k ↔ (c : Int) ≤ k
theorem search_yes {w : World} {v : Value} {n : Nat} {A : Nat → Option Addr} {L C : Nat → Nat} {Z : Nat → Nat → Int} (hd : Dg w v n A L C Z) (hr : okDag n L Z) (h14 : n ≤ 14) (k : Int) (rev : Bool) (hc : Can n (nds L Z) rev k) :
    Calls Try.prog 31 #[v, I k, .bool rev] w fun e w' => ∃ l v0, Told (Ed n (nds L Z) k rev) n (2 ^ (n - 1)) l true ∧ e = .returned (.tuple #[v0, .bool true]) ∧ Pl w' v0 l ∧ Below w.heap.size w w' :=
  (search_any hd hr h14 k rev).mono fun e w' ⟨l, b, v0, ht, he, hp, hb⟩ => by
    rcases ht with h | ⟨rfl, rfl, h⟩
    · obtain ⟨rfl, h2⟩ := h
      exact ⟨l, v0, .inl ⟨rfl, h2⟩, he, hp, hb⟩
    · obtain ⟨m, hm⟩ := hc
      exact absurd hm (h m)
theorem search_no {w : World} {v : Value} {n : Nat} {A : Nat → Option Addr} {L C : Nat → Nat} {Z : Nat → Nat → Int} (hd : Dg w v n A L C Z) (hr : okDag n L Z) (h14 : n ≤ 14) (k : Int) (rev : Bool) (hc : ¬ Can n (nds L Z) rev k) :
    Calls Try.prog 31 #[v, I k, .bool rev] w fun e w' => ∃ v0, e = .returned (.tuple #[v0, .bool false]) ∧ Pl w' v0 [] ∧ Below w.heap.size w w' :=
  (search_any hd hr h14 k rev).mono fun e w' ⟨l, b, v0, ht, he, hp, hb⟩ => by
    rcases ht with h | ⟨rfl, rfl, h⟩
    · exact absurd ⟨_, h.2.2.1⟩ hc
    · exact ⟨v0, he, hp, hb⟩

set_option maxHeartbeats 2000000 in
theorem least_ok {w : World} {v : Value} {n : Nat} {A : Nat → Option Addr} {L C : Nat → Nat} {Z : Nat → Nat → Int} (hd : Dg w v n A L C Z) (hr : okDag n L Z) (h14 : n ≤ 14) {rev : Bool} {c : Nat} (hc : IsLeast n (nds L Z) rev c) :
    Calls Try.prog 14 #[v, .bool rev] w fun e w' => e = .returned (.tuple #[I c, I 0]) ∧ Below w.heap.size w w' := by
  have Hd := Lib.hid hd
  have HR := Lib.hid hr
  have HV := Lib.hid (valid_any hd (r := true) (by simp [hr]))
  have HC := Lib.hid hc.2.2
  have hc1 := hc.1
  have hcn := hc.2.1
  obtain ⟨a, cap, rfl⟩ : ∃ a cap, v = .slice a n cap := by
    obtain ⟨a, cap, h, _⟩ := hd.top
    exact ⟨a, cap, h⟩
  have hgt : ¬ (14 : Int) < n := by omega
  clear hd hr hc
  go_enter Try.func14, Try.ntmps14
  go_wp2_with (go_at_call 26; refine HV.out.mono ?_; rintro e w1 ⟨rfl, hb1⟩; have HB1 := Lib.hid hb1; clear hb1)
  go_loopw [6, 7, 8] (fun x _ _ wr => ∃ j : Nat, 1 ≤ j ∧ j ≤ c ∧ x = I j ∧ Hid (Below w.heap.size w wr)) (fun x _ _ _ => c - (intOf x).toNat)
  case atStart => exact ⟨1, by omega, by omega, rfl, HB1⟩
  case round =>
    clear HB1
    obtain ⟨j, hj1, hjc, rfl, hB⟩ := hrel
    by_cases h : c ≤ j
    · obtain rfl : j = c := by omega
      have HS := Lib.hid (search_yes (Hd.out.keep hB.out) HR.out h14 j rev ((HC.out j).2 (by omega)))
      go_wp2_with (go_at_call 31; refine HS.out.mono ?_; rintro e w2 ⟨l, v0, _, rfl, _, hb2⟩; have HB2 := Lib.hid hb2; clear hb2)
      go_ret2
      exact ⟨rfl, hB.out.trans (HB2.out.mono hB.out.size)⟩
    · have HS := Lib.hid (search_no (Hd.out.keep hB.out) HR.out h14 j rev (fun hcan => h (by have := (HC.out j).1 hcan; omega)))
      go_wp2_with (go_at_call 31; refine HS.out.mono ?_; rintro e w2 ⟨v0, rfl, _, hb2⟩; have HB2 := Lib.hid hb2; clear hb2)
      go_roundw
      case rel => exact ⟨j + 1, by omega, by omega, by go_num, Lib.hid (hB.out.trans (HB2.out.mono hB.out.size))⟩
      case measure => simp [intOf]; omega
set_option maxHeartbeats 2000000 in
theorem least_bad {w : World} {v : Value} {n : Nat} {A : Nat → Option Addr} {L C : Nat → Nat} {Z : Nat → Nat → Int} (hd : Dg w v n A L C Z) (hr : ¬ okDag n L Z) (rev : Bool) :
    Calls Try.prog 14 #[v, .bool rev] w fun e w' => e = .returned (.tuple #[I 0, I 1]) ∧ Below w.heap.size w w' := by
  have HV := Lib.hid (valid_any hd (r := false) (by simp [hr]))
  clear hd hr
  go_enter Try.func14, Try.ntmps14
  go_wp2_with (go_at_call 26; refine HV.out.mono ?_; rintro e w1 ⟨rfl, hb1⟩; have HB1 := Lib.hid hb1; clear hb1)
  go_ret2
  exact ⟨rfl, HB1.out⟩
set_option maxHeartbeats 2000000 in
theorem least_big {w : World} {v : Value} {n : Nat} {A : Nat → Option Addr} {L C : Nat → Nat} {Z : Nat → Nat → Int} (hd : Dg w v n A L C Z) (hr : okDag n L Z) (h14 : 14 < n) (rev : Bool) :
    Calls Try.prog 14 #[v, .bool rev] w fun e w' => e = .returned (.tuple #[I 0, I 5]) ∧ Below w.heap.size w w' := by
  have HV := Lib.hid (valid_any hd (r := true) (by simp [hr]))
  obtain ⟨a, cap, rfl⟩ : ∃ a cap, v = .slice a n cap := by
    obtain ⟨a, cap, h, _⟩ := hd.top
    exact ⟨a, cap, h⟩
  have hgt : (14 : Int) < n := by omega
  clear hd hr
  go_enter Try.func14, Try.ntmps14
  go_wp2_with (go_at_call 26; refine HV.out.mono ?_; rintro e w1 ⟨rfl, hb1⟩; have HB1 := Lib.hid hb1; clear hb1)
  go_ret2
  exact ⟨rfl, HB1.out⟩

def Sho (E : Nat → Nat → Prop) (n : Nat) (er : Int) (w : World) (e : Ending) (w' : World) : Prop := ∃ l v0, e = .returned (.tuple #[v0, I er]) ∧ Pl w' v0 l ∧ Below w.heap.size w w' ∧ (er = 0 → Told E n (2 ^ (n - 1)) l true) ∧ (er ≠ 0 → l = [])
set_option maxHeartbeats 2000000 in
theorem shortest_any {w : World} {v : Value} {n : Nat} {A : Nat → Option Addr} {L C : Nat → Nat} {Z : Nat → Nat → Int} (hd : Dg w v n A L C Z) (k : Int) (rev : Bool) {er : Int}
    (her : (¬ okDag n L Z ∧ er = 1) ∨ (okDag n L Z ∧ 14 < n ∧ er = 5) ∨ (okDag n L Z ∧ n ≤ 14 ∧ ¬ Can n (nds L Z) rev k ∧ er = 6) ∨ (okDag n L Z ∧ n ≤ 14 ∧ Can n (nds L Z) rev k ∧ er = 0)) :
    Calls Try.prog 16 #[v, I k, .bool rev] w (Sho (Ed n (nds L Z) k rev) n er w) := by
  have Hd := Lib.hid hd
  obtain ⟨a, cap, rfl⟩ : ∃ a cap, v = .slice a n cap := by
    obtain ⟨a, cap, h, _⟩ := hd.top
    exact ⟨a, cap, h⟩
  clear hd
  rcases her with ⟨hr, rfl⟩ | ⟨hr, h14, rfl⟩ | ⟨hr, h14, hc, rfl⟩ | ⟨hr, h14, hc, rfl⟩
  · have HV := Lib.hid (valid_any Hd.out (r := false) (by simp [hr]))
    clear hr
    go_enter Try.func16, Try.ntmps16
    go_wp2_with (go_at_call 26; refine HV.out.mono ?_; rintro e w1 ⟨rfl, hb1⟩; have HB1 := Lib.hid hb1; clear hb1)
    go_ret2
    exact ⟨[], _, rfl, Pl.nil _, HB1.out, (fun h => absurd h (by decide)), fun _ => rfl⟩
  · have HV := Lib.hid (valid_any Hd.out (r := true) (by simp [hr]))
    have hgt : (14 : Int) < n := by omega
    clear hr
    go_enter Try.func16, Try.ntmps16
    go_wp2_with (go_at_call 26; refine HV.out.mono ?_; rintro e w1 ⟨rfl, hb1⟩; have HB1 := Lib.hid hb1; clear hb1)
    go_ret2
    exact ⟨[], _, rfl, Pl.nil _, HB1.out, (fun h => absurd h (by decide)), fun _ => rfl⟩
  · have HV := Lib.hid (valid_any Hd.out (r := true) (by simp [hr]))
    have HS := Lib.hid (fun (w1 : World) (hb : Below w.heap.size w w1) => search_no (Hd.out.keep hb) hr h14 k rev hc)
    have hgt : ¬ (14 : Int) < n := by omega
    clear hr hc
    go_enter Try.func16, Try.ntmps16
    go_wp2_with (first | (go_at_call 26; refine HV.out.mono ?_; rintro e w1 ⟨rfl, hb1⟩; have HB1 := Lib.hid hb1; clear hb1) | (go_at_call 31; refine (HS.out _ HB1.out).mono ?_; rintro e w2 ⟨v0, rfl, hp, hb2⟩; have HB2 := Lib.hid hb2; have HP := Lib.hid hp; clear hb2 hp))
    go_ret2
    exact ⟨[], _, rfl, Pl.nil _, HB1.out.trans (HB2.out.mono HB1.out.size), (fun h => absurd h (by decide)), fun _ => rfl⟩
  · have HV := Lib.hid (valid_any Hd.out (r := true) (by simp [hr]))
    have HS := Lib.hid (fun (w1 : World) (hb : Below w.heap.size w w1) => search_yes (Hd.out.keep hb) hr h14 k rev hc)
    have hgt : ¬ (14 : Int) < n := by omega
    clear hr hc
    go_enter Try.func16, Try.ntmps16
    go_wp2_with (first | (go_at_call 26; refine HV.out.mono ?_; rintro e w1 ⟨rfl, hb1⟩; have HB1 := Lib.hid hb1; clear hb1) | (go_at_call 31; refine (HS.out _ HB1.out).mono ?_; rintro e w2 ⟨l, v0, ht, rfl, hp, hb2⟩; have HB2 := Lib.hid hb2; have HP := Lib.hid hp; have HT := Lib.hid ht; clear hb2 hp ht))
    go_ret2
    exact ⟨l, _, rfl, HP.out, HB1.out.trans (HB2.out.mono HB1.out.size), fun _ => HT.out, fun h => absurd rfl h⟩

def Lp (r : Nat) : Nat := if r = 0 then 0 else 1
def Zp (r _c : Nat) : Int := (r : Int) - 1
theorem path_ok (n : Nat) (h1 : 1 ≤ n) (h2 : n ≤ 1000) : okDag n Lp Zp := ⟨h1, h2, fun v hv i hi => by
  unfold Lp at hi
  split at hi
  · omega
  · unfold okAt Zp; omega⟩
def Pth (w : World) (n : Nat) (e : Ending) (w' : World) : Prop := ∃ v A C, e = .returned (.tuple #[v, I 0]) ∧ Dg w' v n A Lp C Zp ∧ Below w.heap.size w w'
set_option maxHeartbeats 4000000 in
theorem path_any {w : World} (n : Nat) (h1 : 1 ≤ n) (h2 : n ≤ 1000) : Calls Try.prog 22 #[I n] w (Pth w n) := by
  obtain ⟨j0, ji, jz0, jz1, jz2⟩ := info_parts Try.info56
  have hd1 : decide ((n : Int) < 1) = false := decide_eq_false (by omega)
  have hd2 : decide ((1000 : Int) < n) = false := decide_eq_false (by omega)
  have hcp0 : Cp w.heap.size (w.alloc (.cells #[.slice none 0 0] 56)) (.slice (some ⟨w.heap.size, 0, none⟩) 1 1) 1 (fun _ => .slice none 0 0) Lp Zp := by
    refine ⟨World.ownsRow_lit (base := w.heap.size) (e := 56) (size := 1) w #[.slice none 0 0] 1 (Nat.le_refl _) (by decide) rfl, fun r hr => ?_⟩
    obtain rfl : r = 0 := by omega
    exact World.ownsRow_nil _ _ _ _
  have HCP := Lib.hid hcp0
  have HB0 : Hid (Below w.heap.size w (w.alloc (.cells #[.slice none 0 0] 56))) := Lib.hid ((Below.refl _ _).alloc (Nat.le_refl _) _)
  clear hcp0
  go_enter Try.func22, Try.ntmps22
  go_wp2
  go_loopw [4, 5] (fun v x wr => ∃ k : Nat, 1 ≤ k ∧ k ≤ n ∧ (∃ V, Hid (Cp w.heap.size wr v k V Lp Zp)) ∧ x = I k ∧ Hid (Below w.heap.size w wr)) (fun _ x _ => n - (intOf x).toNat)
  case atStart => exact ⟨1, by omega, h1, ⟨_, HCP⟩, rfl, HB0⟩
  case round =>
    clear HCP HB0
    obtain ⟨k, hk1, hk, ⟨V, hcp⟩, rfl, hB⟩ := hrel
    obtain ⟨va, vc, rfl⟩ := own_shape hcp.out.outer
    by_cases h : k < n
    · have hBs := hB.out.size
      have hc1 := Lib.hid ((hcp.out.alloc (.cells #[I ((k : Int) - 1)] 3)))
      have hown1 : Hid ((wr.alloc (.cells #[I ((k : Int) - 1)] 3)).ownsRow w.heap.size 3 1 (.slice (some ⟨wr.heap.size, 0, none⟩) 1 1) (Lp k) ((List.range (Lp k)).map fun c => I (Zp k c))) := Lib.hid (by
        have : Lp k = 1 := by unfold Lp; rw [if_neg (by omega)]
        rw [this]
        exact World.ownsRow_lit (base := w.heap.size) (e := 3) (size := 1) wr #[I ((k : Int) - 1)] 1 hBs (by decide) rfl)
      have hB1 := Lib.hid (hB.out.alloc hBs (.cells #[I ((k : Int) - 1)] 3))
      go_wp2_with (first
        | (at_builtin; refine wpList_append_own _ rfl (.tmp 18) (.tmp 22) 23 rfl w.heap.size 56 j0 (.slice none 0 0) 1 24 Try.underlying23 ji jz0 jz1 jz2 rfl (by decide) _ _ _ rfl (hc1.out.alloc _).outer ⟨wr.heap.size + 1, 0, none⟩ 1 1 [.slice (some ⟨wr.heap.size, 0, none⟩) 1 1] rfl rfl (by have := cells_one (wr.alloc (.cells #[I ((k : Int) - 1)] 3)) (.slice (some ⟨wr.heap.size, 0, none⟩) 1 1) 56; simp only [World.size_alloc] at this; exact this) (ones_one _ _ _) (by unfold maxLen; omega) (by omega) (by have := hB1.out.size; simp; omega) ?_; intro v2 w2 hown2 hgrow2 _; have hc2 := Lib.hid ((hc1.out.alloc _).step (hown1.out.alloc _) hown2 hgrow2); have hB2 := Lib.hid ((hB1.out.alloc hB1.out.size (.cells #[.slice (some ⟨wr.heap.size, 0, none⟩) 1 1] 56)).grown hgrow2 (by have := hB1.out.size; simp; omega) (fun x hx => ((hc1.out.outer.lt x hx).1))); clear hown2 hgrow2))
      go_roundw
      case rel => exact ⟨k + 1, by omega, by omega, ⟨_, hc2⟩, by go_num, hB2⟩
      case measure => simp [intOf]; omega
    · obtain rfl : k = n := by omega
      obtain ⟨A', C', hd'⟩ := hcp.out.dg (by omega) (fun r hr => by unfold Lp; split <;> omega)
      have hd' := Lib.hid hd'
      clear hcp
      go_wp2
      go_ret2
      exact ⟨_, A', C', rfl, hd'.out, hB.out⟩
end Go.Proofs.Ytihpdmchppcbfaa
