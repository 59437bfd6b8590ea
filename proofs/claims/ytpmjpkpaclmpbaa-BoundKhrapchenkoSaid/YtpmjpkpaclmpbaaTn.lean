/- Khrapchenko. -/
import Derived.Test.YtpmjpkpaclmpbaaTm
import Derived.Test.YtpmjpkpaclmpbaaTk
namespace Go.Proofs.Ytpmjpkpaclmpbaa
open Go.RowKit
set_option linter.unusedVariables false
set_option linter.unusedSimpArgs false

theorem ob_all : (List.range 64).all (fun a => (List.range 64).all fun b => ob (a * 64 + b) == (pc (a * 64 + b) == 1)) = true := by kernel_rfl
theorem ob_pc {d : Nat} (h : d < 4096) : ob d = (pc d == 1) := by
  have h1 := List.all_eq_true.1 ob_all (d / 64) (List.mem_range.2 (by omega))
  have h2 := List.all_eq_true.1 h1 (d % 64) (List.mem_range.2 (by omega))
  have e : d / 64 * 64 + d % 64 = d := by omega
  rw [e] at h2
  simpa using h2
set_option maxHeartbeats 4000000 in
set_option maxRecDepth 100000 in
theorem khr_form {w : World} {a : Option Addr} {len cap : Nat} (va vb : Value) (hl : len < 8192) {n : Int} (h : Inp len n false) : Calls Try.prog 12 #[.slice a len cap, va, vb] w fun e w' => e = .returned (.tuple #[I 0, I 0, I 1]) ∧ Below w.heap.size w w' := by
  have HI := Lib.hid (fun w : World => inputs_any (w := w) (a := a) (cap := cap) hl h)
  have HB : Hid (Below w.heap.size w (w.alloc (.cells #[.slice a len cap] 22))) := Lib.hid ((Below.refl _ _).alloc (Nat.le_refl _) _)
  clear h
  go_enter Try.func12, Try.ntmps12
  go_wp2_with (go_at_call 41; refine (HI.out _).mono ?_; rintro e w' ⟨rfl, mm, rfl⟩)
  go_ret3
  exact ⟨rfl, below_drewN HB.out mm⟩
set_option maxHeartbeats 8000000 in
set_option maxRecDepth 100000 in
theorem khr_arg {w : World} {len ka kb : Nat} {tv va vb : Value} {f : Nat → Bool} {Za Zb : Nat → Int} (ht : Bs w tv len f) (ha : Is w va ka Za) (hb : Is w vb kb Zb) (hl : len < 8192) (hka : ka ≤ 5000) (hkb : kb ≤ 5000) {n : Int} (h : Inp len n true) (hno : ¬ (Al len f Za false ka ∧ Al len f Zb true kb)) :
    Calls Try.prog 12 #[tv, va, vb] w fun e w' => e = .returned (.tuple #[I 0, I 0, I 2]) ∧ Below w.heap.size w w' := by
  obtain ⟨ta, tc, rfl⟩ := ht.shape
  have HI := Lib.hid (fun w : World => inputs_any (w := w) (a := ta) (cap := tc) hl h)
  have hB0 : Below w.heap.size w (w.alloc (.cells #[.slice ta len tc] 22)) := (Below.refl _ _).alloc (Nat.le_refl _) _
  have hc0 : (w.alloc (.cells #[.slice ta len tc] 22)).cell? ⟨w.heap.size, 0, none⟩ = some (.slice ta len tc) := by simp [go_sem]
  have HB := Lib.hid hB0
  classical
  obtain ⟨ra, hra⟩ : ∃ ra : Bool, ra = true ↔ Al len f Za false ka := ⟨decide (Al len f Za false ka), by simp⟩
  obtain ⟨rb', hrb⟩ : ∃ rb : Bool, rb = true ↔ Al len f Zb true kb := ⟨decide (Al len f Zb true kb), by simp⟩
  have QA := Lib.hid (fun m => of_any (w := (w.alloc (.cells #[.slice ta len tc] 22)).drewN m) (g := w.heap.size) hc0 ((ht.keep hB0).keep (below_drewN (Below.refl _ _) m)) ((ha.keep hB0).keep (below_drewN (Below.refl _ _) m)) hl (by omega) false hra)
  have QB := Lib.hid (fun m => of_any (w := (w.alloc (.cells #[.slice ta len tc] 22)).drewN m) (g := w.heap.size) hc0 ((ht.keep hB0).keep (below_drewN (Below.refl _ _) m)) ((hb.keep hB0).keep (below_drewN (Below.refl _ _) m)) hl (by omega) true hrb)
  have hcase : ra = false ∨ (ra = true ∧ rb' = false) := by
    cases ra with
    | false => exact .inl rfl
    | true =>
      cases rb' with
      | false => exact .inr ⟨rfl, rfl⟩
      | true => exact absurd ⟨hra.1 rfl, hrb.1 rfl⟩ hno
  obtain ⟨aa, ac, rfl⟩ := ha.shape
  obtain ⟨ba, bc, rfl⟩ := hb.shape
  clear ht ha hb h hno hra hrb hc0 hB0
  rcases hcase with rfl | ⟨rfl, rfl⟩
  · go_enter Try.func12, Try.ntmps12
    go_wp2_with (first
      | (go_at_call 41; refine (HI.out _).mono ?_; rintro e w' ⟨rfl, mm, rfl⟩)
      | (go_at_call 42; refine (QA.out mm).mono ?_; rintro e w' ⟨rfl, m2, rfl⟩))
    go_ret3
    exact ⟨rfl, below_drewN HB.out _⟩
  · go_enter Try.func12, Try.ntmps12
    go_wp2_with (first
      | (go_at_call 41; refine (HI.out _).mono ?_; rintro e w' ⟨rfl, mm, rfl⟩)
      | (go_at_call 42; refine (QB.out (mm + m2)).mono ?_; rintro e w' ⟨rfl, m3, rfl⟩)
      | (go_at_call 42; refine (QA.out mm).mono ?_; rintro e w' ⟨rfl, m2, rfl⟩))
    go_ret3
    exact ⟨rfl, below_drewN HB.out _⟩
end Go.Proofs.Ytpmjpkpaclmpbaa
