/- The closures of Count, and the library's searches that call them. -/
import Derived.Test.YtihpdmchppcbfaaTn
namespace Go.Proofs.Ytihpdmchppcbfaa
open Go.RowKit
set_option linter.unusedVariables false
set_option linter.unusedSimpArgs false

theorem cl36 {w : World} {B n cap : Nat} {a : Option Addr} (hB : B < w.heap.size) (hc : w.cell? ⟨B, 0, none⟩ = some (.slice a n cap)) (hn : n ≤ 2 ^ 50) (p : Bool) (z : Int) {r : Bool} (hr : r = true ↔ ¬ okM n (p, z)) :
    Calls Try.prog 36 #[.agg #[.bool p, I z], .pointer (some ⟨B, 0, none⟩)] w fun e w' => e = .returned (.bool r) ∧ Below w.heap.size w w' := by
  have HR := Lib.hid hr
  clear hr
  have hc' : ∀ o, (w.alloc o).cell? ⟨B, 0, none⟩ = some (.slice a n cap) := fun o => cell_alloc hc o
  have hc2 := hc' (.cells #[.bool p, I z] 49)
  clear hc hc'
  by_cases h1 : z < 0
  · have hd : decide (z < 0) = true := decide_eq_true h1
    have hf : r = true := HR.out.2 (fun h => by have := h.1; simp only at this; omega)
    subst hf
    go_enter Try.func36, Try.ntmps36
    go_wp2
    go_ret
    exact ⟨rfl, (Below.refl _ _).alloc (Nat.le_refl _) _⟩
  · have hd : decide (z < 0) = false := decide_eq_false h1
    by_cases h2 : (n : Int) ≤ z
    · have hd2 : decide ((n : Int) ≤ z) = true := decide_eq_true h2
      have hf : r = true := HR.out.2 (fun h => by have := h.2; simp only at this; omega)
      subst hf
      go_enter Try.func36, Try.ntmps36
      go_wp2
      go_ret
      exact ⟨rfl, (Below.refl _ _).alloc (Nat.le_refl _) _⟩
    · have hd2 : decide ((n : Int) ≤ z) = false := decide_eq_false h2
      have hf : r = false := by
        cases r with
        | false => rfl
        | true => exact absurd (show okM n (p, z) from ⟨by simp only; omega, by simp only; omega⟩) (HR.out.1 rfl)
      subst hf
      go_enter Try.func36, Try.ntmps36
      go_wp2
      go_ret
      exact ⟨rfl, (Below.refl _ _).alloc (Nat.le_refl _) _⟩

def Idx (P : Nat → Prop) (k : Nat) (w : World) (e : Ending) (w' : World) : Prop := ∃ r : Int, e = .returned (I r) ∧ (0 ≤ r ↔ ∃ i, i < k ∧ P i) ∧ Below w.heap.size w w'
set_option maxHeartbeats 2000000 in
theorem idx44 {w : World} {B n cap : Nat} {a : Option Addr} {pv : Value} {ms : List (Bool × Int)} (hB : B < w.heap.size) (hc : w.cell? ⟨B, 0, none⟩ = some (.slice a n cap)) (hn : n ≤ 2 ^ 50) (hp : Pl w pv ms) (hl : ms.length ≤ 2 ^ 50) :
    Calls Try.prog 44 #[pv, .func (.func 36) #[] #[.pointer (some ⟨B, 0, none⟩)]] w (Idx (fun i => ¬ okM n (ms.getD i dm)) ms.length w) := by
  obtain ⟨pa, pc, rfl⟩ := hp.shape
  have HP := Lib.hid hp
  have HC := Lib.hid hc
  clear hp hc
  generalize hk : ms.length = k at *
  have HK := Lib.hid hk
  clear hk
  go_enter Try.func44, Try.ntmps44
  go_wp2
  go_loopw [5, 8] (fun _ x wr => ∃ i : Nat, i ≤ k ∧ Hid (∀ j, j < i → okM n (ms.getD j dm)) ∧ x = I i ∧ Hid (Below w.heap.size w wr)) (fun _ x _ => k - (intOf x).toNat)
  case atStart => exact ⟨0, by omega, Lib.hid (fun j hj => by omega), rfl, Lib.hid (Below.refl _ _)⟩
  case round =>
    obtain ⟨i, hi, HI, rfl, hBl⟩ := hrel
    by_cases hik : i < k
    · have hpl := HP.out.keep hBl.out
      obtain ⟨b, rfl, c0, c1⟩ := hpl.at' (i := i) (by rw [HK.out]; exact hik)
      obtain ⟨m, hm⟩ : ∃ m, m = ms.getD i dm := ⟨_, rfl⟩
      rw [← hm] at c0 c1
      obtain ⟨p, z⟩ := m
      simp only at c0 c1
      have Hm := Lib.hid hm
      clear hm hpl
      have hcw := (hBl.out.cell (p := ⟨B, 0, none⟩) hB).trans HC.out
      have HCL := Lib.hid (fun r hr => cl36 (w := wr) (Nat.lt_of_lt_of_le hB hBl.out.size) hcw hn p z (r := r) hr)
      clear hcw
      by_cases hok : okM n (p, z)
      · have HF := Lib.hid (HCL.out false (by simp [hok]))
        have hnx : Hid (∀ j, j < i + 1 → okM n (ms.getD j dm)) := Lib.hid (fun j hj => by
          rcases Nat.lt_or_ge j i with hl | hl
          · exact HI.out j hl
          · obtain rfl : j = i := by omega
            rw [← Hm.out]; exact hok)
        clear HCL hok
        go_wp2_with (go_at_call 36; refine HF.out.mono ?_; rintro e w1 ⟨rfl, hb1⟩; have HB1 := Lib.hid hb1; clear hb1)
        go_roundw
        case rel => exact ⟨i + 1, by omega, hnx, by go_num, Lib.hid (hBl.out.trans (HB1.out.mono hBl.out.size))⟩
        case measure => simp [intOf]; omega
      · have HF := Lib.hid (HCL.out true (by simp [hok]))
        have hex : Hid (∃ i, i < k ∧ ¬ okM n (ms.getD i dm)) := Lib.hid ⟨i, hik, by rw [← Hm.out]; exact hok⟩
        clear HCL hok
        go_wp2_with (go_at_call 36; refine HF.out.mono ?_; rintro e w1 ⟨rfl, hb1⟩; have HB1 := Lib.hid hb1; clear hb1)
        go_ret
        exact ⟨i, rfl, ⟨fun _ => hex.out, fun _ => by omega⟩, hBl.out.trans (HB1.out.mono hBl.out.size)⟩
    · obtain rfl : i = k := by omega
      go_wp2
      go_ret
      exact ⟨-1, rfl, ⟨fun h => by omega, fun ⟨j, hj, hn⟩ => absurd (HI.out j hj) hn⟩, hBl.out⟩
theorem cont35 {w : World} {B n cap : Nat} {a : Option Addr} {pv : Value} {ms : List (Bool × Int)} (hB : B < w.heap.size) (hc : w.cell? ⟨B, 0, none⟩ = some (.slice a n cap)) (hn : n ≤ 2 ^ 50) (hp : Pl w pv ms) (hl : ms.length ≤ 2 ^ 50) {r : Bool} (hr : r = true ↔ ∃ i, i < ms.length ∧ ¬ okM n (ms.getD i dm)) :
    Calls Try.prog 35 #[pv, .func (.func 36) #[] #[.pointer (some ⟨B, 0, none⟩)]] w fun e w' => e = .returned (.bool r) ∧ Below w.heap.size w w' := by
  have HI := Lib.hid (idx44 hB hc hn hp hl)
  have HR := Lib.hid hr
  clear hc hp hr
  go_enter Try.func35, Try.ntmps35
  go_wp2_with (go_at_call 44; refine HI.out.mono ?_; rintro e w1 ⟨q, rfl, hq, hb1⟩; have HB1 := Lib.hid hb1; have HQ := Lib.hid hq; clear hb1 hq)
  go_ret
  exact ⟨rb (by rw [Bool.eq_iff_iff, decide_eq_true_iff, HQ.out, HR.out]), HB1.out⟩

theorem cl38 {w : World} {B n : Nat} {bv : Value} {f : Nat → Bool} (hc : w.cell? ⟨B, 0, none⟩ = some bv) (hb : Bs w bv n f) {z : Nat} (hz : z < n) :
    Calls Try.prog 38 #[I z, .pointer (some ⟨B, 0, none⟩)] w fun e w' => e = .returned (.bool (!f z)) ∧ w = w' := by
  obtain ⟨ba, bc, rfl⟩ := hb.shape
  obtain ⟨b, rfl, cz⟩ := hb.at' hz
  have h1 : (0 : Int) ≤ z := by omega
  have h2 : (z : Int) < n := by omega
  clear hb
  go_enter Try.func38, Try.ntmps38
  go_wp2
  go_ret
  exact ⟨rfl, rfl⟩
set_option maxHeartbeats 2000000 in
theorem idx45 {w : World} {B n : Nat} {bv : Value} {f : Nat → Bool} (hc : w.cell? ⟨B, 0, none⟩ = some bv) (hb : Bs w bv n f) {A : Option Addr} {L C : Nat} {Z : Nat → Int} (hL : L ≤ 2 ^ 50) (hA : A = none → L = 0) (hz : ∀ e, A = some e → ∀ i, i < L → w.cell? (e.add i) = some (I (Z i))) (hZ : ∀ i, i < L → ∃ z : Nat, z < n ∧ Z i = z) :
    Calls Try.prog 45 #[.slice A L C, .func (.func 38) #[] #[.pointer (some ⟨B, 0, none⟩)]] w fun e w' => (∃ r : Int, e = .returned (I r) ∧ (0 ≤ r ↔ ∃ i, i < L ∧ f (Z i).toNat = false)) ∧ w = w' := by
  have HC := Lib.hid (fun (z : Nat) (h : z < n) => cl38 hc hb h)
  have HZ := Lib.hid hZ
  have Hz := Lib.hid hz
  have HA := Lib.hid hA
  obtain ⟨Q, hQ⟩ : ∃ Q : Ending → Prop, Q = fun e => ∃ r : Int, e = .returned (I r) ∧ (0 ≤ r ↔ ∃ i, i < L ∧ f (Z i).toNat = false) := ⟨_, rfl⟩
  have HQ : Hid (∀ r : Int, (0 ≤ r ↔ ∃ i, i < L ∧ f (Z i).toNat = false) → Q (.returned (I r))) := Lib.hid (fun r h => by rw [hQ]; exact ⟨r, rfl, h⟩)
  suffices h : Calls Try.prog 45 #[.slice A L C, .func (.func 38) #[] #[.pointer (some ⟨B, 0, none⟩)]] w fun e w' => Q e ∧ w = w' by rw [hQ] at h; exact h
  clear hc hb hz hZ hA hQ
  go_enter Try.func45, Try.ntmps45
  go_wp2
  go_loop [5, 8] (fun _ x => ∃ i : Nat, i ≤ L ∧ Hid (∀ j, j < i → f (Z j).toNat = true) ∧ x = I i) (fun _ x => L - (intOf x).toNat)
  case atStart => exact ⟨0, by omega, Lib.hid (fun j hj => by omega), rfl⟩
  case round =>
    obtain ⟨i, hi, HI, rfl⟩ := hrel
    by_cases hik : i < L
    · cases A with
      | none => have := HA.out rfl; omega
      | some e =>
        obtain ⟨z, hzn, hzz⟩ := HZ.out i hik
        have ci := Hz.out e rfl i hik
        rw [hzz] at ci
        have HZZ := Lib.hid hzz
        have HCL := Lib.hid (HC.out z hzn)
        obtain ⟨fz, hfz⟩ : ∃ fz, fz = f z := ⟨_, rfl⟩
        rw [← hfz] at HCL
        have HFZ := Lib.hid hfz
        clear hzz hfz
        cases fz with
        | true =>
          have hnx : Hid (∀ j, j < i + 1 → f (Z j).toNat = true) := Lib.hid (fun j hj => by
            rcases Nat.lt_or_ge j i with hl | hl
            · exact HI.out j hl
            · obtain rfl : j = i := by omega
              rw [HZZ.out, Int.toNat_natCast, ← HFZ.out])
          go_wp2_with (go_at_call 38; refine HCL.out.mono ?_; rintro e w1 ⟨rfl, rfl⟩)
          go_round
          case rel => exact ⟨i + 1, by omega, hnx, by go_num⟩
          case measure => simp [intOf]; omega
        | false =>
          have hq := Lib.hid (HQ.out i ⟨fun _ => ⟨i, hik, by rw [HZZ.out, Int.toNat_natCast, ← HFZ.out]⟩, fun _ => by omega⟩)
          go_wp2_with (go_at_call 38; refine HCL.out.mono ?_; rintro e w1 ⟨rfl, rfl⟩)
          go_ret
          exact ⟨hq.out, rfl⟩
    · obtain rfl : i = L := by omega
      have hq := Lib.hid (HQ.out (-1) ⟨fun h => by omega, fun ⟨j, hj, hn⟩ => by rw [HI.out j hj] at hn; cases hn⟩)
      go_wp2
      go_ret
      exact ⟨hq.out, rfl⟩
theorem cont37 {w : World} {B n : Nat} {bv : Value} {f : Nat → Bool} (hc : w.cell? ⟨B, 0, none⟩ = some bv) (hb : Bs w bv n f) {A : Option Addr} {L C : Nat} {Z : Nat → Int} (hL : L ≤ 2 ^ 50) (hA : A = none → L = 0) (hz : ∀ e, A = some e → ∀ i, i < L → w.cell? (e.add i) = some (I (Z i))) (hZ : ∀ i, i < L → ∃ z : Nat, z < n ∧ Z i = z) {r : Bool} (hr : r = true ↔ ∃ i, i < L ∧ f (Z i).toNat = false) :
    Calls Try.prog 37 #[.slice A L C, .func (.func 38) #[] #[.pointer (some ⟨B, 0, none⟩)]] w fun e w' => e = .returned (.bool r) ∧ w = w' := by
  have HI := Lib.hid (idx45 (C := C) hc hb hL hA hz hZ)
  have HR := Lib.hid hr
  clear hc hb hz hZ hA hr
  go_enter Try.func37, Try.ntmps37
  go_wp2_with (go_at_call 45; refine HI.out.mono ?_; rintro e w1 ⟨⟨q, rfl, hq⟩, rfl⟩; have HQ := Lib.hid hq; clear hq)
  go_ret
  exact ⟨rb (by rw [Bool.eq_iff_iff, decide_eq_true_iff, HQ.out, HR.out]), rfl⟩
end Go.Proofs.Ytihpdmchppcbfaa
