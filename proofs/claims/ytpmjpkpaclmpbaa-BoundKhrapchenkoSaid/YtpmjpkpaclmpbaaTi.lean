/- Lists of numbers in memory; the reference's Inputs; the closure of Khrapchenko. -/
import Derived.Test.YtpmjpkpaclmpbaaTh
namespace Go.Proofs.Ytpmjpkpaclmpbaa
open Go.RowKit
set_option linter.unusedVariables false
set_option linter.unusedSimpArgs false

/-- a list of numbers in memory -/
structure Is (w : World) (v : Value) (n : Nat) (Z : Nat → Int) : Prop where
  ex : ∃ (a : Option Addr) (cap : Nat), v = .slice a n cap ∧ n ≤ cap ∧ cap ≤ maxLen ∧ (0 < n → ∃ b, a = some b) ∧ ∀ b, a = some b → ∀ i, i < n → w.cell? (b.add i) = some (I (Z i))
theorem Is.shape {w : World} {v : Value} {n : Nat} {Z : Nat → Int} (h : Is w v n Z) : ∃ a c, v = .slice a n c := by
  obtain ⟨a, c, h1, _⟩ := h.ex
  exact ⟨a, c, h1⟩
theorem Is.at' {w : World} {a : Option Addr} {n k c : Nat} {Z : Nat → Int} (h : Is w (.slice a k c) n Z) {i : Nat} (hi : i < n) : ∃ b, a = some b ∧ w.cell? (b.add i) = some (I (Z i)) := by
  obtain ⟨a', c', h1, h2, h3, h4, h5⟩ := h.ex
  cases h1
  obtain ⟨b, rfl⟩ := h4 (by omega)
  exact ⟨b, rfl, h5 b rfl i hi⟩
theorem Is.keep {w w' : World} {v : Value} {n : Nat} {Z : Nat → Int} (h : Is w v n Z) (hb : Below w.heap.size w w') : Is w' v n Z := by
  obtain ⟨a, c, h1, h2, h3, h4, h5⟩ := h.ex
  exact ⟨a, c, h1, h2, h3, h4, fun b hb' i hi => by have := h5 b hb' i hi; exact (hb.cell (World.block_lt_of_cell? _ _ this)).trans this⟩
theorem bl_pow {k : Nat} (hk : k ≤ 12) : bl 13 (2 ^ k) = k + 1 := by
  have h : ∀ c : Fin 13, bl 13 (2 ^ c.val) = c.val + 1 := by decide +kernel
  exact h ⟨k, by omega⟩
set_option maxHeartbeats 2000000 in
theorem refInputs_any {w : World} {a : Option Addr} {len cap : Nat} (hl : len < 8192) {n : Int} {ok : Bool} (h : Inp len n ok) : Calls Try.prog 9 #[.slice a len cap] w fun e w' => e = .returned (I (if ok = true then n else -1)) ∧ w = w' := by
  have H := Lib.hid h
  clear h
  obtain ⟨rv, hrv⟩ : ∃ rv, rv = (if ok = true then n else -1) := ⟨_, rfl⟩
  rw [← hrv]
  have HRV := Lib.hid hrv
  clear hrv
  go_enter Try.func9, Try.ntmps9
  go_wp2
  go_loop [3] (fun x => ∃ i : Nat, i ≤ 13 ∧ x = I i ∧ Hid (∀ j, j < i → len ≠ 2 ^ j)) (fun x => 13 - (intOf x).toNat)
  case atStart => exact ⟨0, by omega, rfl, Lib.hid (fun j hj => by omega)⟩
  case round =>
    obtain ⟨i, hi, rfl, HN⟩ := hrel
    by_cases hi13 : i < 13
    · have hw := w2i i (by omega)
      have hi0 : (0 : Int) ≤ i := by omega
      have hd : decide ((i : Int) ≤ 12) = true := decide_eq_true (by omega)
      by_cases he : len = 2 ^ i
      · have hres : Hid (ok = true ∧ n = (i : Int)) := Lib.hid (by
          obtain ⟨h1, h2⟩ := H.out
          rw [he, bl_pow (by omega)] at h1
          have hn : n = (i : Int) := by omega
          refine ⟨h2.2 ⟨by omega, ?_⟩, hn⟩
          rw [hn, he]
          simp)
        have HE := Lib.hid he
        generalize 2 ^ i = N at *
        have ht : ((len : Int) == (N : Int)) = true := by simp; omega
        clear he
        go_wp2
        go_ret
        exact ⟨ri (by rw [HRV.out, hres.out.1, if_pos rfl, hres.out.2]), rfl⟩
      · have hnx : Hid (∀ j, j < i + 1 → len ≠ 2 ^ j) := Lib.hid (fun j hj => by
          by_cases e : j = i
          · rw [e]; exact he
          · exact HN.out j (by omega))
        generalize 2 ^ i = N at *
        have ht : ((len : Int) == (N : Int)) = false := by simp; omega
        clear he
        go_wp2
        go_round
        case rel => exact ⟨i + 1, by omega, by go_num, hnx⟩
        case measure => simp [intOf]; omega
    · obtain rfl : i = 13 := by omega
      have hres : Hid (ok = false) := Lib.hid (by
        cases ok with
        | false => rfl
        | true =>
          obtain ⟨h1, h2⟩ := H.out
          obtain ⟨h3, h4⟩ := h2.1 rfl
          have := bl_le 13 len
          exact absurd h4 (HN.out n.toNat (by omega)))
      go_wp2
      go_ret
      exact ⟨ri (by rw [HRV.out, hres.out, if_neg (by decide)]), rfl⟩
/-- what is asked of element j -/
def At (len : Nat) (f : Nat → Bool) (Z : Nat → Int) (is : Bool) (j : Nat) : Prop := 0 ≤ Z j ∧ Z j < len ∧ f (Z j).toNat = is ∧ (0 < j → Z (j - 1) < Z j)
def Al (len : Nat) (f : Nat → Bool) (Z : Nat → Int) (is : Bool) (k : Nat) : Prop := 0 < k ∧ ∀ j, j < k → At len f Z is j
set_option maxHeartbeats 4000000 in
set_option maxRecDepth 100000 in
theorem of_any {w : World} {g len k : Nat} {tv lv : Value} {f : Nat → Bool} {Z : Nat → Int} (hc : w.cell? ⟨g, 0, none⟩ = some tv) (ht : Bs w tv len f) (hz : Is w lv k Z) (hl : len < 8192) (hk : k ≤ 2 ^ 50) (is : Bool) {r : Bool} (hr : r = true ↔ Al len f Z is k) :
    Calls Try.prog 42 #[lv, .bool is, .pointer (some ⟨g, 0, none⟩)] w fun e w' => e = .returned (.bool r) ∧ ∃ m, w' = w.drewN m := by
  obtain ⟨ta, tc, rfl⟩ := ht.shape
  obtain ⟨la, lc, rfl⟩ := hz.shape
  have HT := Lib.hid ht
  have HZ := Lib.hid hz
  have HR := Lib.hid hr
  clear ht hz hr
  go_enter Try.func42, Try.ntmps42
  go_wp2
  go_loopw [6, 7, 10] (fun _ _ x wr => ∃ i : Nat, i ≤ k ∧ x = I i ∧ Hid (∀ j, j < i → At len f Z is j) ∧ ∃ m, wr = w.drewN m) (fun _ _ x _ => k - (intOf x).toNat)
  case atStart => exact ⟨0, by omega, rfl, Lib.hid (fun j hj => by omega), 0, rfl⟩
  case round =>
    obtain ⟨i, hi, rfl, HA, m, rfl⟩ := hrel
    by_cases hik : i < k
    · obtain ⟨lb, rfl, cl⟩ := HZ.out.at' hik
      have hi0 : (0 : Int) ≤ i := by omega
      have hi1 : (i : Int) < k := by omega
      obtain ⟨z, hz⟩ : ∃ z, z = Z i := ⟨_, rfl⟩
      have HZI := Lib.hid hz
      rw [← hz] at cl
      clear hz
      by_cases hz0 : z < 0
      · have hd : decide (z < 0) = true := decide_eq_true hz0
        have hres : Hid (r = false) := Lib.hid (eq_false_of_ne_true fun hrt => by have hat := (HR.out.1 hrt).2 i hik; have h1 := hat.1; rw [← HZI.out] at h1; omega)
        clear HA HR
        go_wp2
        go_ret
        exact ⟨rb hres.out.symm, _, by first | rfl | rw [World.drewN_drewN]⟩
      · have hd : decide (z < 0) = false := decide_eq_false hz0
        by_cases hzl : (len : Int) ≤ z
        · have hd2 : decide ((len : Int) ≤ z) = true := decide_eq_true hzl
          have hres : Hid (r = false) := Lib.hid (eq_false_of_ne_true fun hrt => by have hat := (HR.out.1 hrt).2 i hik; have h1 := hat.2.1; rw [← HZI.out] at h1; omega)
          clear HA HR
          go_wp2
          go_ret
          exact ⟨rb hres.out.symm, _, by first | rfl | rw [World.drewN_drewN]⟩
        · have hd2 : decide ((len : Int) ≤ z) = false := decide_eq_false hzl
          obtain ⟨zn, rfl⟩ : ∃ zn : Nat, z = zn := ⟨z.toNat, by omega⟩
          have hzn : zn < len := by omega
          obtain ⟨tb, rfl, ct⟩ := HT.out.at' hzn
          have hzi0 : (0 : Int) ≤ zn := by omega
          have hzi1 : (zn : Int) < len := by omega
          obtain ⟨fz, hfz⟩ : ∃ fz, fz = f zn := ⟨_, rfl⟩
          rw [← hfz] at ct
          have HFZ := Lib.hid hfz
          clear hfz
          by_cases hne : fz = is
          · have hb1 : (fz != is) = false := by rw [hne]; simp
            have HNE := Lib.hid hne
            by_cases hi00 : i = 0
            · subst hi00
              clear hne
              have cl0 : w.cell? lb = some (I (zn : Int)) := by simpa [Addr.add] using cl
              have hnx : Hid (∀ j, j < 0 + 1 → At len f Z is j) := Lib.hid (fun j hj => by
                have e : j = 0 := by omega
                subst e
                exact ⟨by rw [← HZI.out]; omega, by rw [← HZI.out]; omega, by rw [← HZI.out, Int.toNat_natCast, ← HFZ.out]; exact HNE.out, fun h => by omega⟩)
              clear HA HR
              go_wp2
              go_roundw
              case rel => exact ⟨0 + 1, by omega, by go_num, hnx, _, by first | rfl | rw [World.drewN_drewN]⟩
              case measure => simp [intOf]; omega
            · obtain ⟨lb', e1, cp⟩ := HZ.out.at' (i := i - 1) (by omega)
              cases e1
              have hip : (0 : Int) < i := by omega
              have hip1 : (0 : Int) ≤ (i : Int) - 1 := by omega
              have hip2 : (i : Int) - 1 < k := by omega
              have hip3 : ((i : Int) - 1).toNat = i - 1 := by omega
              have hdi : decide ((0 : Int) < (i : Int)) = true := decide_eq_true hip
              obtain ⟨y, hy⟩ : ∃ y, y = Z (i - 1) := ⟨_, rfl⟩
              have HY := Lib.hid hy
              rw [← hy] at cp
              clear hy hne
              by_cases hzy : (zn : Int) ≤ y
              · have hd3 : decide ((zn : Int) ≤ y) = true := decide_eq_true hzy
                have hres : Hid (r = false) := Lib.hid (eq_false_of_ne_true fun hrt => by have hat := (HR.out.1 hrt).2 i hik; have h1 := hat.2.2.2 (by omega); rw [← HZI.out, ← HY.out] at h1; omega)
                clear HA HR
                go_wp2
                go_ret
                exact ⟨rb hres.out.symm, _, by first | rfl | rw [World.drewN_drewN]⟩
              · have hd3 : decide ((zn : Int) ≤ y) = false := decide_eq_false hzy
                have hnx : Hid (∀ j, j < i + 1 → At len f Z is j) := Lib.hid (fun j hj => by
                  by_cases e : j = i
                  · rw [e]; exact ⟨by rw [← HZI.out]; omega, by rw [← HZI.out]; omega, by rw [← HZI.out, Int.toNat_natCast, ← HFZ.out]; exact HNE.out, fun h => by rw [← HZI.out, ← HY.out]; omega⟩
                  · exact HA.out j (by omega))
                clear HA HR
                go_wp2
                go_roundw
                case rel => exact ⟨i + 1, by omega, by go_num, hnx, _, by first | rfl | rw [World.drewN_drewN]⟩
                case measure => simp [intOf]; omega
          · have hres : Hid (r = false) := Lib.hid (eq_false_of_ne_true fun hrt => by have hat := (HR.out.1 hrt).2 i hik; have h1 := hat.2.2.1; rw [← HZI.out, Int.toNat_natCast, ← HFZ.out] at h1; exact hne h1)
            clear HA HR HFZ
            cases is with
            | false =>
              obtain rfl : fz = true := by cases fz <;> simp at hne ⊢
              clear hne
              go_wp2
              go_ret
              exact ⟨rb hres.out.symm, _, by first | rfl | rw [World.drewN_drewN]⟩
            | true =>
              obtain rfl : fz = false := by cases fz <;> simp at hne ⊢
              clear hne
              go_wp2
              go_ret
              exact ⟨rb hres.out.symm, _, by first | rfl | rw [World.drewN_drewN]⟩
    · obtain rfl : i = k := by omega
      have hres : Hid (r = decide (0 < i)) := Lib.hid (by
        rw [Bool.eq_iff_iff, HR.out, decide_eq_true_iff]
        exact ⟨fun h => h.1, fun h => ⟨h, HA.out⟩⟩)
      go_wp2
      go_ret
      exact ⟨rb hres.out.symm, _, by first | rfl | rw [World.drewN_drewN]⟩
end Go.Proofs.Ytpmjpkpaclmpbaa
