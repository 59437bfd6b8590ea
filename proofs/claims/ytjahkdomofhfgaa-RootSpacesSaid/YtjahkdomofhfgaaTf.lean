/- What the program's Calls returns, for every graph in memory and every number. -/
import Derived.Test.YtjahkdomofhfgaaTe
namespace Go.Proofs.Ytjahkdomofhfgaa
open Go.RowKit
set_option linter.unusedVariables false
set_option linter.unusedSimpArgs false

def Out (n : Nat) (L : Nat → Nat) (Z : Nat → Nat → Int) (i N H E : Int) : Prop :=
  (¬ okDag n L Z ∧ N = 0 ∧ H = 0 ∧ E = 1) ∨ (okDag n L Z ∧ (i < 0 ∨ (n : Int) ≤ i) ∧ N = 0 ∧ H = 0 ∧ E = 2) ∨
  (okDag n L Z ∧ ∃ k : Nat, k < n ∧ i = k ∧ 1099511627776 < cT L Z n k ∧ N = 0 ∧ H = 0 ∧ E = 5) ∨
  (okDag n L Z ∧ ∃ k : Nat, k < n ∧ i = k ∧ cT L Z n k ≤ 1099511627776 ∧ N = cT L Z n k ∧ H = hT L Z n k ∧ E = 0)

theorem Out.fun {n : Nat} {L : Nat → Nat} {Z : Nat → Nat → Int} {i N H E N' H' E' : Int} (h : Out n L Z i N H E) (h' : Out n L Z i N' H' E') : N = N' ∧ H = H' ∧ E = E' := by
  unfold Out at h h'
  rcases h with ⟨a, rfl, rfl, rfl⟩ | ⟨a, b, rfl, rfl, rfl⟩ | ⟨a, k, hk, rfl, b, rfl, rfl, rfl⟩ | ⟨a, k, hk, rfl, b, rfl, rfl, rfl⟩ <;>
  rcases h' with ⟨a', rfl, rfl, rfl⟩ | ⟨a', b', rfl, rfl, rfl⟩ | ⟨a', k', hk', e', b', rfl, rfl, rfl⟩ | ⟨a', k', hk', e', b', rfl, rfl, rfl⟩ <;>
  first
    | exact ⟨rfl, rfl, rfl⟩
    | exact absurd a' a
    | exact absurd a a'
    | (exfalso; omega)
    | (obtain rfl : k = k' := by omega
       first | exact ⟨rfl, rfl, rfl⟩ | (exfalso; omega))

theorem Out.some (n : Nat) (L : Nat → Nat) (Z : Nat → Nat → Int) (i : Int) : ∃ N H E, Out n L Z i N H E := by
  by_cases h1 : okDag n L Z
  · by_cases h2 : i < 0 ∨ (n : Int) ≤ i
    · exact ⟨_, _, _, .inr (.inl ⟨h1, h2, rfl, rfl, rfl⟩)⟩
    · by_cases h3 : 1099511627776 < cT L Z n i.toNat
      · exact ⟨_, _, _, .inr (.inr (.inl ⟨h1, i.toNat, by omega, by omega, h3, rfl, rfl, rfl⟩))⟩
      · exact ⟨_, _, _, .inr (.inr (.inr ⟨h1, i.toNat, by omega, by omega, by omega, rfl, rfl, rfl⟩))⟩
  · exact ⟨_, _, _, .inl ⟨h1, rfl, rfl, rfl⟩⟩

set_option maxHeartbeats 8000000 in
theorem root_any {w : World} {v : Value} {n : Nat} {A : Nat → Option Addr} {L C : Nat → Nat} {Z : Nat → Nat → Int} (hd : Dg w v n A L C Z) {i N H E : Int} (ho : Out n L Z i N H E) : Calls Try.prog 9 #[v, I i] w fun e w' => e = .returned (.tuple #[I N, I H, I E]) ∧ Below w.heap.size w w' := by
  have hsm := hd.small
  have Hd := Lib.hid hd
  have hlen : ∃ a cap, v = .slice a n cap := by
    obtain ⟨a, cap, h, _⟩ := hd.top
    exact ⟨a, cap, h⟩
  obtain ⟨a, cap, rfl⟩ := hlen
  clear hd
  rcases ho with ⟨ha, rfl, rfl, rfl⟩ | ⟨ha, hi, rfl, rfl, rfl⟩ | ⟨ha, k, hk, rfl, hc, rfl, rfl, rfl⟩ | ⟨ha, k, hk, rfl, hc, rfl, rfl, rfl⟩
  · have HV := Lib.hid (valid_any Hd.out (r := false) (by simp [ha]))
    clear ha
    go_enter Try.func9, Try.ntmps9
    go_wp2_with (first | (go_at_call 16; refine HV.out.mono ?_; rintro e w1 ⟨rfl, hb⟩))
    go_ret3
    exact ⟨rfl, hb⟩
  · have HV := Lib.hid (valid_any Hd.out (r := true) (by simp [ha]))
    clear ha
    rcases hi with hi | hi
    · go_enter Try.func9, Try.ntmps9
      go_wp2_with (first | (go_at_call 16; refine HV.out.mono ?_; rintro e w1 ⟨rfl, hb⟩))
      go_ret3
      exact ⟨rfl, hb⟩
    · have hi0 : ¬ i < 0 := by omega
      go_enter Try.func9, Try.ntmps9
      go_wp2_with (first | (go_at_call 16; refine HV.out.mono ?_; rintro e w1 ⟨rfl, hb⟩))
      go_ret3
      exact ⟨rfl, hb⟩
  · have HV := Lib.hid (valid_any Hd.out (r := true) (by simp [ha]))
    have HC := Lib.hid (fun (w1 : World) (hb : Below w.heap.size w w1) => calls_any (Hd.out.keep hb) ha)
    clear ha
    have hk' : (k : Int) < n := by omega
    obtain ⟨x, hx⟩ : ∃ x, x = cT L Z n k := ⟨_, rfl⟩
    rw [← hx] at hc
    have Hx := Lib.hid hx
    clear hx
    go_enter Try.func9, Try.ntmps9
    go_wp2_with (first | (go_at_call 16; refine HV.out.mono ?_; rintro e w1 ⟨rfl, hb⟩) | (go_at_call 17; refine (HC.out _ hb).mono ?_; rintro e w2 ⟨⟨b1, b2, rfl, hx, hy⟩, hb2⟩; have c1 := hx.cell hk; rw [← Hx.out] at c1; clear hx hy))
    go_ret3
    exact ⟨rfl, hb.trans (hb2.mono hb.size)⟩
  · have HV := Lib.hid (valid_any Hd.out (r := true) (by simp [ha]))
    have HC := Lib.hid (fun (w1 : World) (hb : Below w.heap.size w w1) => calls_any (Hd.out.keep hb) ha)
    clear ha
    have hk' : (k : Int) < n := by omega
    generalize hx : cT L Z n k = x at *
    generalize hy : hT L Z n k = y at *
    have Hx := Lib.hid hx
    have Hy := Lib.hid hy
    clear hx hy
    go_enter Try.func9, Try.ntmps9
    go_wp2_with (first | (go_at_call 16; refine HV.out.mono ?_; rintro e w1 ⟨rfl, hb⟩) | (go_at_call 17; refine (HC.out _ hb).mono ?_; rintro e w2 ⟨⟨b1, b2, rfl, hx, hy⟩, hb2⟩; have c1 := hx.cell hk; have c2 := hy.cell hk; rw [Hx.out] at c1; rw [Hy.out] at c2; clear hx hy))
    go_quiet (fail)
    go_wp2
    go_ret3
    exact ⟨rfl, below_drewN (hb.trans (hb2.mono hb.size)) _⟩

end Go.Proofs.Ytjahkdomofhfgaa
