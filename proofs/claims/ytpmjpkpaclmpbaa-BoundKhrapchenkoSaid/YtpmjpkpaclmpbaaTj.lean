/- The reference's Set. -/
import Derived.Test.YtpmjpkpaclmpbaaTi
namespace Go.Proofs.Ytpmjpkpaclmpbaa
open Go.RowKit
set_option linter.unusedVariables false
set_option linter.unusedSimpArgs false

set_option maxHeartbeats 8000000 in
set_option maxRecDepth 100000 in
theorem set_any {w : World} {len k : Nat} {tv lv : Value} {f : Nat → Bool} {Z : Nat → Int} (ht : Bs w tv len f) (hz : Is w lv k Z) (hl : len < 8192) (hk : k ≤ 2 ^ 50) (is : Bool) {r : Bool} (hr : r = true ↔ Al len f Z is k) :
    Calls Try.prog 10 #[tv, lv, .bool is] w fun e w' => e = .returned (.bool r) ∧ ∃ m, w' = w.drewN m := by
  obtain ⟨ta, tc, rfl⟩ := ht.shape
  obtain ⟨la, lc, rfl⟩ := hz.shape
  have HT := Lib.hid ht
  have HZ := Lib.hid hz
  have HR := Lib.hid hr
  clear ht hz hr
  go_enter Try.func10, Try.ntmps10
  go_wp2
  go_loopw [7] (fun x wr => ∃ i : Nat, i ≤ k ∧ x = I i ∧ Hid (∀ j, j < i → At len f Z is j) ∧ ∃ m, wr = w.drewN m) (fun x _ => k - (intOf x).toNat)
  case atStart => exact ⟨0, by omega, rfl, Lib.hid (fun j hj => by omega), 0, rfl⟩
  case round =>
    obtain ⟨i, hi, rfl, HA, m, rfl⟩ := hrel
    by_cases hik : i < k
    · obtain ⟨lb, rfl, cl⟩ := HZ.out.at' hik
      have hi0 : (0 : Int) ≤ i := by omega
      have hi1 : (i : Int) < k := by omega
      obtain ⟨z, hz⟩ : ∃ z, z = Z i := ⟨_, rfl⟩
      have HZI := Lib.hid hz
      rw [← hz] at cl
      clear hz
      by_cases hz0 : z < 0
      · have hd : decide (z < 0) = true := decide_eq_true hz0
        have hres : Hid (r = false) := Lib.hid (eq_false_of_ne_true fun hrt => by have hat := (HR.out.1 hrt).2 i hik; have h1 := hat.1; rw [← HZI.out] at h1; omega)
        clear HA HR
        go_upto_region 4 with fail
        go_quiet (fail)
        go_wp2
        go_ret
        exact ⟨rb hres.out.symm, _, by first | rfl | rw [World.drewN_drewN]⟩
      · have hd : decide (z < 0) = false := decide_eq_false hz0
        by_cases hzl : (len : Int) ≤ z
        · have hd2 : decide ((len : Int) ≤ z) = true := decide_eq_true hzl
          have hres : Hid (r = false) := Lib.hid (eq_false_of_ne_true fun hrt => by have hat := (HR.out.1 hrt).2 i hik; have h1 := hat.2.1; rw [← HZI.out] at h1; omega)
          clear HA HR
          go_upto_region 4 with fail
          go_quiet (fail)
          go_wp2
          go_ret
          exact ⟨rb hres.out.symm, _, by first | rfl | rw [World.drewN_drewN]⟩
        · have hd2 : decide ((len : Int) ≤ z) = false := decide_eq_false hzl
          obtain ⟨zn, rfl⟩ : ∃ zn : Nat, z = zn := ⟨z.toNat, by omega⟩
          have hzn : zn < len := by omega
          obtain ⟨tb, rfl, ct⟩ := HT.out.at' hzn
          have hzi0 : (0 : Int) ≤ zn := by omega
          have hzi1 : (zn : Int) < len := by omega
          obtain ⟨fz, hfz⟩ : ∃ fz, fz = f zn := ⟨_, rfl⟩
          rw [← hfz] at ct
          have HFZ := Lib.hid hfz
          clear hfz
          by_cases hi00 : i = 0
          · subst hi00
            have cl0 : w.cell? lb = some (I (zn : Int)) := by simpa [Addr.add] using cl
            by_cases hne : fz = is
            · have HNE := Lib.hid hne
              have hnx : Hid (∀ j, j < 0 + 1 → At len f Z is j) := Lib.hid (fun j hj => by
                by_cases e : j = 0
                · rw [e]; exact ⟨by rw [← HZI.out]; omega, by rw [← HZI.out]; omega, by rw [← HZI.out, Int.toNat_natCast, ← HFZ.out]; exact HNE.out, fun h => by omega⟩
                · exact HA.out j (by omega))
              clear HA HR HNE HFZ
              cases is with
              | false =>
                subst hne
                go_upto_region 4 with fail
                go_quiet (fail)
                go_wp2
                go_roundw
                case rel => exact ⟨0 + 1, by omega, by go_num, hnx, _, by first | rfl | rw [World.drewN_drewN]⟩
                case measure => simp [intOf]; omega
              | true =>
                subst hne
                go_upto_region 4 with fail
                go_quiet (fail)
                go_wp2
                go_roundw
                case rel => exact ⟨0 + 1, by omega, by go_num, hnx, _, by first | rfl | rw [World.drewN_drewN]⟩
                case measure => simp [intOf]; omega
            · have hres : Hid (r = false) := Lib.hid (eq_false_of_ne_true fun hrt => by have hat := (HR.out.1 hrt).2 _ hik; have h1 := hat.2.2.1; rw [← HZI.out, Int.toNat_natCast, ← HFZ.out] at h1; exact hne h1)
              clear HA HR HFZ
              cases is with
              | false =>
                obtain rfl : fz = true := by cases fz <;> simp at hne ⊢
                clear hne
                go_upto_region 4 with fail
                go_quiet (fail)
                go_wp2
                go_ret
                exact ⟨rb hres.out.symm, _, by first | rfl | rw [World.drewN_drewN]⟩
              | true =>
                obtain rfl : fz = false := by cases fz <;> simp at hne ⊢
                clear hne
                go_upto_region 4 with fail
                go_quiet (fail)
                go_wp2
                go_ret
                exact ⟨rb hres.out.symm, _, by first | rfl | rw [World.drewN_drewN]⟩
          · obtain ⟨lb', e1, cp⟩ := HZ.out.at' (i := i - 1) (by omega)
            cases e1
            have hip : (0 : Int) < i := by omega
            have hip1 : (0 : Int) ≤ (i : Int) - 1 := by omega
            have hip2 : (i : Int) - 1 < k := by omega
            have hip3 : ((i : Int) - 1).toNat = i - 1 := by omega
            have hdin : decide (0 < i) = true := decide_eq_true (by omega)
            have hdi : decide ((0 : Int) < (i : Int)) = true := decide_eq_true hip
            obtain ⟨y, hy⟩ : ∃ y, y = Z (i - 1) := ⟨_, rfl⟩
            have HY := Lib.hid hy
            rw [← hy] at cp
            clear hy
            have hwr : IntKind.i64.wrap ((i : Int) - 1) = (i : Int) - 1 := by rw [IntKind.wrap_i64]; omega
            by_cases hzy : (zn : Int) ≤ y
            · have hd3 : decide ((zn : Int) ≤ y) = true := decide_eq_true hzy
              have hres : Hid (r = false) := Lib.hid (eq_false_of_ne_true fun hrt => by have hat := (HR.out.1 hrt).2 i hik; have h1 := hat.2.2.2 (by omega); rw [← HZI.out, ← HY.out] at h1; omega)
              clear HA HR
              go_upto_region 4 with fail
              go_quiet (fail)
              go_wp2
              go_ret
              exact ⟨rb hres.out.symm, _, by first | rfl | rw [World.drewN_drewN]⟩
            · have hd3 : decide ((zn : Int) ≤ y) = false := decide_eq_false hzy
              by_cases hne : fz = is
              · have HNE := Lib.hid hne
                have hnx : Hid (∀ j, j < i + 1 → At len f Z is j) := Lib.hid (fun j hj => by
                  by_cases e : j = i
                  · rw [e]; exact ⟨by rw [← HZI.out]; omega, by rw [← HZI.out]; omega, by rw [← HZI.out, Int.toNat_natCast, ← HFZ.out]; exact HNE.out, fun h => by rw [← HZI.out, ← HY.out]; omega⟩
                  · exact HA.out j (by omega))
                clear HA HR HNE HFZ
                cases is with
                | false =>
                  subst hne
                  go_upto_region 4 with fail
                  go_quiet (fail)
                  go_wp2
                  go_roundw
                  case rel => exact ⟨i + 1, by omega, by go_num, hnx, _, by first | rfl | rw [World.drewN_drewN]⟩
                  case measure => simp [intOf]; omega
                | true =>
                  subst hne
                  go_upto_region 4 with fail
                  go_quiet (fail)
                  go_wp2
                  go_roundw
                  case rel => exact ⟨i + 1, by omega, by go_num, hnx, _, by first | rfl | rw [World.drewN_drewN]⟩
                  case measure => simp [intOf]; omega
              · have hres : Hid (r = false) := Lib.hid (eq_false_of_ne_true fun hrt => by have hat := (HR.out.1 hrt).2 _ hik; have h1 := hat.2.2.1; rw [← HZI.out, Int.toNat_natCast, ← HFZ.out] at h1; exact hne h1)
                clear HA HR HFZ
                cases is with
                | false =>
                  obtain rfl : fz = true := by cases fz <;> simp at hne ⊢
                  clear hne
                  go_upto_region 4 with fail
                  go_quiet (fail)
                  go_wp2
                  go_ret
                  exact ⟨rb hres.out.symm, _, by first | rfl | rw [World.drewN_drewN]⟩
                | true =>
                  obtain rfl : fz = false := by cases fz <;> simp at hne ⊢
                  clear hne
                  go_upto_region 4 with fail
                  go_quiet (fail)
                  go_wp2
                  go_ret
                  exact ⟨rb hres.out.symm, _, by first | rfl | rw [World.drewN_drewN]⟩
    · obtain rfl : i = k := by omega
      have hres : Hid (r = decide (0 < i)) := Lib.hid (by
        rw [Bool.eq_iff_iff, HR.out, decide_eq_true_iff]
        exact ⟨fun h => h.1, fun h => ⟨h, HA.out⟩⟩)
      go_wp2
      go_ret
      exact ⟨rb hres.out.symm, _, by first | rfl | rw [World.drewN_drewN]⟩
end Go.Proofs.Ytpmjpkpaclmpbaa
