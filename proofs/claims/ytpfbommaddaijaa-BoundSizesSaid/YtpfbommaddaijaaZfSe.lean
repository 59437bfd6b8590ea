/- On which variables a table depends. -/
import Derived.Test.YtpfbommaddaijaaZfPDependsx1
import Derived.Test.YtpfbommaddaijaaZfKb
namespace Go.Proofs.Ytpfbommaddaijaa
open Go.RowKit Go.Proofs.YtpfbommaddaijaaW.PrintWords Go.Proofs.YtpfbommaddaijaaW.PrintLast Go.Proofs.YtpfbommaddaijaaW.PrintMore PDepends
set_option linter.unusedVariables false
set_option linter.unusedSimpArgs false

/-- the table depends on the variable v -/
def dpd (l : List Bool) (n v : Nat) : Bool := decide (∃ u, u < 2 ^ n ∧ l.getD u false ≠ l.getD (u ^^^ 2 ^ v) false)
theorem shl_small : ∀ v : Fin 12, shl .i64 1 ((v.val : Nat) : Int) = ((2 ^ v.val : Nat) : Int) := by decide +kernel
theorem wr_4096 {x N : Nat} (h : x < N) (hN : N ≤ 4096) : wrap64 ((x : Int) + 1) = ((x + 1 : Nat) : Int) := by unfold wrap64; omega
theorem dep_runs {l : List Bool} {n v : Nat} (hl : l.length = 2 ^ n) (hv : v < n) (hn : n ≤ 12) : ∀ (d x : Nat) (r : Bool), x + d = 2 ^ n → (r = true ↔ ∃ u : Nat, x ≤ u ∧ u < 2 ^ n ∧ l.getD u false ≠ l.getD (u ^^^ 2 ^ v) false) → commodatumref23_Depends.l0 (d + 1) l v x = some r
  | 0, x, r, h, hr => by
    rw [commodatumref23_Depends.l0, if_neg (by omega)]
    congr 1
    cases r with
    | false => rfl
    | true => obtain ⟨u, h1, h2, _⟩ := hr.1 rfl; omega
  | d + 1, x, r, h, hr => by
    have h4096 : 2 ^ n ≤ 4096 := Nat.pow_le_pow_right (n := 2) (by decide) hn
    have hv2 : 2 ^ v < 2 ^ n := Nat.pow_lt_pow_right (by decide) hv
    have hxn : x < 2 ^ n := by omega
    have hx : x ^^^ 2 ^ v < 2 ^ n := Nat.xor_lt_two_pow hxn hv2
    have hw : wrap64 ((x : Int) + 1) = ((x + 1 : Nat) : Int) := wr_4096 hxn h4096
    have hb : Go.bits .xor .i64 (x : Int) (shl .i64 1 (v : Int)) = ((x ^^^ 2 ^ v : Nat) : Int) := by
      rw [show shl .i64 1 (v : Int) = ((2 ^ v : Nat) : Int) from shl_small ⟨v, by omega⟩]
      exact xor_i64' _ _ (Nat.lt_of_lt_of_le hxn h4096) (Nat.lt_of_lt_of_le hv2 h4096)
    have q1 : (x : Int) < (l.length : Int) := by rw [hl]; exact Int.ofNat_lt.2 hxn
    have q2 : ((x ^^^ 2 ^ v : Nat) : Int) < (l.length : Int) := by rw [hl]; exact Int.ofNat_lt.2 hx
    rw [commodatumref23_Depends.l0, if_pos q1, if_pos (Int.natCast_nonneg _), if_pos (Int.natCast_nonneg _), hb, if_pos (Int.natCast_nonneg _), if_pos q2, hw]
    have e1 : rdOf false l (x : Int) = l.getD x false := by simp only [rdOf, Int.toNat_natCast]
    have e2 : rdOf false l ((x ^^^ 2 ^ v : Nat) : Int) = l.getD (x ^^^ 2 ^ v) false := by simp only [rdOf, Int.toNat_natCast]
    rw [e1, e2]
    by_cases e : l.getD x false = l.getD (x ^^^ 2 ^ v) false
    · rw [if_neg (by rw [e]; simp)]
      refine dep_runs hl hv hn d (x + 1) r (by omega) (hr.trans ⟨fun ⟨u, a, b, c⟩ => ⟨u, ?_, b, c⟩, fun ⟨u, a, b, c⟩ => ⟨u, by omega, b, c⟩⟩)
      by_cases h : u = x
      · subst h; exact absurd e c
      · omega
    · rw [if_pos (by simpa using e), hr.2 ⟨x, Nat.le_refl _, hxn, e⟩]
theorem depends_any {w : World} {A : Option Addr} {c n v : Nat} {l : List Bool} (h : Kd.C Kd.bool w A l.length l) (hc : l.length ≤ c) (hl : l.length = 2 ^ n) (hv : v < n) (hn : n ≤ 12) : Calls Try.prog 44 #[.slice A l.length c, I v] w fun e w' => e = .returned (.bool (dpd l n v)) ∧ Below w.heap.size w w' := by
  refine (commodatumref23_Depends.calls (2 ^ n + 1) A c l v (dpd l n v) w h hc ?_).mono fun e w' ⟨h1, h2⟩ => ⟨h1, ?_⟩
  · unfold commodatumref23_Depends.f dpd
    exact dep_runs hl hv hn (2 ^ n) 0 _ (Nat.zero_add _) (decide_eq_true_iff.trans ⟨fun ⟨u, a, b⟩ => ⟨u, Nat.zero_le _, a, b⟩, fun ⟨u, _, a, b⟩ => ⟨u, a, b⟩⟩)
  · obtain ⟨m, rfl⟩ := h2
    exact pw_below_drewN (Below.refl _ _) m
end Go.Proofs.Ytpfbommaddaijaa

