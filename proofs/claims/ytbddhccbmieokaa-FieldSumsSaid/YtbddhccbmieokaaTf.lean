/- Walks through the functions of the field and of its reference: what each call returns; no memory that was there is changed. -/
import Derived.Test.YtbddhccbmieokaaTe
import Derived.Test.YtbddhccbmieokaaFc
namespace Go.Proofs.Ytbddhccbmieokaa
open Go.RowKit FieldMath
set_option linter.unusedVariables false
set_option linter.unusedSimpArgs false

theorem FV.mk {P M : Nat} (h1 : 2 ≤ P) (h2 : P ≤ 65536) (h3 : 1 ≤ M) (h4 : M ≤ 16) (h5 : 1 < M → P = 2) (h6 : Prm P) : FV P M :=
  decide_eq_true ⟨by omega, by omega, by omega, by omega, fun h => by have := h5 (by omega); omega, h6⟩
theorem fv24 : FV 2 4 := FV.mk (by omega) (by omega) (by omega) (by omega) (by omega) (by decide)
theorem fv22 : FV 2 2 := FV.mk (by omega) (by omega) (by omega) (by omega) (by omega) (by decide)
theorem fv71 : FV 7 1 := FV.mk (by omega) (by omega) (by omega) (by omega) (by omega) (by decide)
theorem prm_small {d : Nat} (h : Prm d) : 2 ≤ d := h.1

theorem root71 : Fn 18 #[A2 (7 : Nat) (1 : Nat), I (3 : Nat)] (T2 (2 : Nat) 0) := by
  refine root_ok 7 1 3 2 fv71 (by omega) (by decide) (by decide) (by omega) ⟨ex7_2.1, ?_⟩ ?_
  · intro c hc h2 h0 hp
    have hc3 : c = 2 ∨ c = 3 := by omega
    rcases hc3 with rfl | rfl
    · simp at h0
    · show fpow 7 1 2 1 ≠ 1
      rw [ex7_2.2.1]; decide
  · intro r h1 h2 h
    obtain rfl : r = 1 := by omega
    refine h.2 3 (by omega) (by omega) (by decide) (by decide) ?_
    show fpow 7 1 1 1 = 1
    exact ex7_2.2.2
theorem root24 : Fn 18 #[A2 (2 : Nat) (4 : Nat), I (5 : Nat)] (T2 (8 : Nat) 0) := by
  refine root_ok 2 4 5 8 fv24 (by omega) (by decide) (by decide) (by omega) ⟨ex16.1, ?_⟩ ?_
  · intro c hc h2 h0 hp
    have hc3 : c = 2 ∨ c = 3 ∨ c = 4 ∨ c = 5 := by omega
    rcases hc3 with rfl | rfl | rfl | rfl
    · simp at h0
    · simp at h0
    · simp at h0
    · show fpow 2 4 8 1 ≠ 1
      rw [ex16.2.1]; decide
  · intro r h1 h2 h
    rcases Nat.lt_or_ge r 2 with hl | hl
    · obtain rfl : r = 1 := by omega
      refine h.2 5 (by omega) (by omega) (by decide) prm5 ?_
      show fpow 2 4 1 1 = 1
      exact ex16.2.2.1
    · exact ex16.2.2.2 r h2 hl h.1
theorem sum24 : Fn 19 #[A2 (2 : Nat) (4 : Nat), I (5 : Nat), I (10 : Nat)] (T2 (1 : Nat) 0) := by
  have h := sum_bit 2 4 5 10 8 fv24 (by omega) (by omega) (by omega) (by omega) (by omega) root24
  have e : sumL 2 4 (fpow 2 4 8 10) 5 0 1 = 1 := by
    rw [ex_step]
    have em : fmul 2 4 1 1 = 1 := by rw [← fmulF_eq (by decide)]; decide
    simp only [sumL, em]
    unfold fadd
    decide
  rwa [e] at h
theorem mul22 : Fn 25 #[A2 (2 : Nat) (2 : Nat), I (2 : Nat), I (2 : Nat)] (T2 (3 : Nat) 0) := by
  have h := mul_bit 2 2 2 2 fv22 (by omega) (by decide) (by decide)
  have e : pmul 2 (modT 2) 2 2 0 = 3 := ex_mul
  rwa [e] at h
theorem mod24 : Fn 12 #[A2 (2 : Nat) (4 : Nat)] (T2 (19 : Nat) 0) := modulus_bit 2 4 fv24 (by omega)

set_option maxHeartbeats 2000000 in
theorem alive_any : Fn 16 #[] (.bool true) := by
  intro w
  have H1 := Lib.hid mod24
  have H2 := Lib.hid mul22
  have H3 := Lib.hid root71
  have H4 := Lib.hid sum24
  have hB := Below.refl w.heap.size w
  go_enter Try.func16, Try.ntmps16
  go_wp2_with (first
    | (go_at_call 12; refine (H1.out _).mono ?_; rintro e w' ⟨rfl, hb⟩; replace hB := hB.trans (hb.mono hB.size); clear hb)
    | (go_at_call 25; refine (H2.out _).mono ?_; rintro e w' ⟨rfl, hb⟩; replace hB := hB.trans (hb.mono hB.size); clear hb)
    | (go_at_call 18; refine (H3.out _).mono ?_; rintro e w' ⟨rfl, hb⟩; replace hB := hB.trans (hb.mono hB.size); clear hb)
    | (go_at_call 19; refine (H4.out _).mono ?_; rintro e w' ⟨rfl, hb⟩; replace hB := hB.trans (hb.mono hB.size); clear hb))
  go_ret
  exact ⟨rfl, hB⟩

set_option maxHeartbeats 400000 in
theorem is_ok (a : Int) : Fs 15 #[I a, I 0, I a, I 0] (.bool true) := by
  intro w
  go_enter Try.func15, Try.ntmps15
  go_wp2
  go_ret
  exact ⟨rb (by simp), rfl⟩
set_option maxHeartbeats 400000 in
theorem is_bad (e v : Int) (he : e ≠ 0) : Fs 15 #[I 0, I e, I v, I e] (.bool true) := by
  intro w
  have h1 : (e != 0) = true := by rw [bne_iff_ne]; exact he
  clear he
  go_enter Try.func15, Try.ntmps15
  go_wp2
  go_ret
  exact ⟨rfl, rfl⟩

end Go.Proofs.Ytbddhccbmieokaa
