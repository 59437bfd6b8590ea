/- The errors of Path, Pyramid and Binary; the law PebbleGraphs for every input. -/
import Derived.Test.YtihpdmchppcbfaaTz
namespace Go.Proofs.Ytihpdmchppcbfaa
open Go.RowKit
set_option linter.unusedVariables false
set_option linter.unusedSimpArgs false

def Bad (w : World) (e : Ending) (w' : World) : Prop := e = .returned (.tuple #[.slice none 0 0, I 2]) ∧ w' = w
theorem path_bad {w : World} (x : Int) (h : x < 1 ∨ 1000 < x) : Calls Try.prog 22 #[I x] w (Bad w) := by
  by_cases h1 : x < 1
  · have d1 : decide (x < 1) = true := decide_eq_true h1
    go_enter Try.func22, Try.ntmps22
    go_wp2
    go_ret2
    exact ⟨rfl, rfl⟩
  · have d1 : decide (x < 1) = false := decide_eq_false h1
    have d2 : decide ((1000 : Int) < x) = true := decide_eq_true (by omega)
    go_enter Try.func22, Try.ntmps22
    go_wp2
    go_ret2
    exact ⟨rfl, rfl⟩
theorem pyr_bad {w : World} (x : Int) (h : x < 1 ∨ 40 < x) : Calls Try.prog 23 #[I x] w (Bad w) := by
  by_cases h1 : x < 1
  · have d1 : decide (x < 1) = true := decide_eq_true h1
    go_enter Try.func23, Try.ntmps23
    go_wp2
    go_ret2
    exact ⟨rfl, rfl⟩
  · have d1 : decide (x < 1) = false := decide_eq_false h1
    have d2 : decide ((40 : Int) < x) = true := decide_eq_true (by omega)
    go_enter Try.func23, Try.ntmps23
    go_wp2
    go_ret2
    exact ⟨rfl, rfl⟩
theorem bin_bad {w : World} (x : Int) (h : x < 1 ∨ 9 < x) : Calls Try.prog 24 #[I x] w (Bad w) := by
  by_cases h1 : x < 1
  · have d1 : decide (x < 1) = true := decide_eq_true h1
    go_enter Try.func24, Try.ntmps24
    go_wp2
    go_ret2
    exact ⟨rfl, rfl⟩
  · have d1 : decide (x < 1) = false := decide_eq_false h1
    have d2 : decide ((9 : Int) < x) = true := decide_eq_true (by omega)
    go_enter Try.func24, Try.ntmps24
    go_wp2
    go_ret2
    exact ⟨rfl, rfl⟩
theorem kd_bad {fp fr : Nat} {lo hi x : Int} (L : Nat → Nat) (Z : Nat → Nat → Int) (h : x < lo ∨ hi < x) (hb : ∀ w : World, Calls Try.prog fp #[I x] w (Bad w)) : Kd fp fr lo hi x 0 L Z 2 where
  hp w := (hb w).mono fun e w' ⟨h1, h2⟩ => ⟨.slice none 0 0, fun _ => none, fun _ => 0, h1, Dg.none' _ _ _ _ _, h2 ▸ Below.refl _ _⟩
  hm := by decide
  hL r hr := by omega
  hr := fun {bad} hbad => .inr ⟨by rw [hbad]; rcases h with h | h <;> simp [h], rfl, rfl⟩
theorem kd_good {fp fr : Nat} {lo hi x : Int} {m : Nat} (L : Nat → Nat) (Z : Nat → Nat → Int) (h1 : lo ≤ x) (h2 : x ≤ hi) (hm : m ≤ 2 ^ 50) (hL : ∀ r, r < m → L r ≤ 2 ^ 50) (hb : ∀ w : World, Calls Try.prog fp #[I x] w fun e w' => ∃ v A C, e = .returned (.tuple #[v, I 0]) ∧ Dg w' v m A L C Z ∧ Below w.heap.size w w') (hr : ∀ w : World, Calls Try.prog fr #[I x] w (Cps w m L Z)) : Kd fp fr lo hi x m L Z 0 where
  hp := hb
  hm := hm
  hL := hL
  hr := fun {bad} hbad => .inl ⟨by rw [hbad]; simp; omega, rfl, hr⟩
theorem Lg_le (l : List (Option Int)) (r : Nat) : Lg l r ≤ 2 := by
  unfold Lg
  split <;> omega
theorem gp_dg {B : Nat} {w : World} {v : Value} {l : List (Option Int)} (h : Gp B w v l) (hl : l.length ≤ 2000) : ∃ A C, Dg w v l.length A (Lg l) C (Zg l) := by
  obtain ⟨V, hV⟩ := h
  exact hV.dg (by omega) (fun r hr => by have := Lg_le l r; omega)
theorem gp_kd {fp fr : Nat} {lo hi x : Int} {l : List (Option Int)} (h1 : lo ≤ x) (h2 : x ≤ hi) (hl : l.length ≤ 2000) (hb : ∀ w : World, Calls Try.prog fp #[I x] w (GpE w l)) (hr : ∀ w : World, Calls Try.prog fr #[I x] w (Gps w l)) : Kd fp fr lo hi x l.length (Lg l) (Zg l) 0 :=
  kd_good _ _ h1 h2 (by omega) (fun r hr => by have := Lg_le l r; omega) (fun w => (hb w).mono fun e w' ⟨v, h3, hg, hb⟩ => by
    obtain ⟨A, C, hd⟩ := gp_dg hg hl
    exact ⟨v, A, C, h3, hd, hb⟩) (fun w => (hr w).mono fun e w' ⟨v, h3, ⟨V, hg⟩, hb⟩ => ⟨v, V, h3, hg, hb⟩)
theorem kd_path (x : Int) : ∃ m L Z c, Kd 22 19 1 1000 x m L Z c := by
  by_cases h : x < 1 ∨ 1000 < x
  · exact ⟨0, _, _, 2, kd_bad (fun _ => 0) (fun _ _ => 0) h fun w => path_bad x h⟩
  · obtain ⟨n, rfl⟩ : ∃ n : Nat, x = n := ⟨x.toNat, by omega⟩
    exact ⟨n, Lp, Zp, 0, kd_good _ _ (by omega) (by omega) (by omega) (fun r hr => by unfold Lp; split <;> omega) (fun w => path_any n (by omega) (by omega)) (fun w => refPathC_any n (by omega) (by omega))⟩
theorem kd_pyr (x : Int) : ∃ m L Z c, Kd 23 20 1 40 x m L Z c := by
  by_cases h : x < 1 ∨ 40 < x
  · exact ⟨0, _, _, 2, kd_bad (fun _ => 0) (fun _ _ => 0) h fun w => pyr_bad x h⟩
  · obtain ⟨n, rfl⟩ : ∃ n : Nat, x = n := ⟨x.toNat, by omega⟩
    exact ⟨_, _, _, 0, gp_kd (by omega) (by omega) (GP_len n (by omega)) (fun w => pyr_any n (by omega) (by omega)) (fun w => refPyr_any n (by omega) (by omega))⟩
theorem kd_bin (x : Int) : ∃ m L Z c, Kd 24 21 1 9 x m L Z c := by
  by_cases h : x < 1 ∨ 9 < x
  · exact ⟨0, _, _, 2, kd_bad (fun _ => 0) (fun _ _ => 0) h fun w => bin_bad x h⟩
  · obtain ⟨n, rfl⟩ : ∃ n : Nat, x = n := ⟨x.toNat, by omega⟩
    exact ⟨_, _, _, 0, gp_kd (by omega) (by omega) (GB_len n (by omega)) (fun w => bin_any n (by omega) (by omega)) (fun w => refBin_any n (by omega) (by omega))⟩
/-- THE STATEMENT -/
theorem pebbleGraphs_any {w : World} (x y z : Int) : Calls Try.prog 4 #[.int .i64 x, .int .i64 y, .int .i64 z] w fun e w' => e = .returned (.bool true) ∧ Below w.heap.size w w' := by
  obtain ⟨m0, L0, Z0, c0, k0⟩ := kd_path x
  obtain ⟨m1, L1, Z1, c1, k1⟩ := kd_pyr y
  obtain ⟨m2, L2, Z2, c2, k2⟩ := kd_bin z
  exact law_graphs (m := fun i => if i = 0 then m0 else if i = 1 then m1 else m2) (L := fun i => if i = 0 then L0 else if i = 1 then L1 else L2) (Z := fun i => if i = 0 then Z0 else if i = 1 then Z1 else Z2) (c := fun i => if i = 0 then c0 else if i = 1 then c1 else c2) k0 k1 k2
end Go.Proofs.Ytihpdmchppcbfaa
