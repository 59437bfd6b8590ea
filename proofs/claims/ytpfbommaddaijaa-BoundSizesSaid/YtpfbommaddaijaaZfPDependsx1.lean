/- . -/
import Derived.Test.YtpfbommaddaijaaProg
import Derived.Below
import Derived.Deep.Draws
import Derived.Deep.AppendLies
import Derived.Maps.AppendAt
import Derived.OwnWalk
import Derived.Laws.BytesArg
import Derived.Laws.MakeOwn
import Derived.Laws.OwnMore
import Derived.Deep.OwnRows
import Derived.Tactics
import Derived.Lib.ConvBytes
import Derived.Laws.Slices
import Derived.WalkKit
import Derived.KernelRfl
import Derived.RowKit3
import Derived.Deep.LoopGhost
import Derived.Deep.QuietTactic
import Derived.BigQuiet
import Derived.WideLaws
import Derived.Deep.DeepCutAuto
import Derived.Deep.CutBlock
import Derived.Deep.RegionHeld3
import Derived.Laws.Rows
import Derived.Lib.AppendStr
import Derived.ArgAppend
import Derived.Laws.IdiomCopy
import Derived.OrdersHeld
import Derived.Laws.BitsLemmas
import Derived.RowKit
import Derived.Test.YtpfbommaddaijaaZfWWords
import Derived.Test.YtpfbommaddaijaaZfWLast
import Derived.Test.YtpfbommaddaijaaZfWApart
import Derived.Test.YtpfbommaddaijaaZfWFoot
import Derived.Test.YtpfbommaddaijaaZfWKept
import Derived.Test.YtpfbommaddaijaaZfWShare
import Derived.Test.YtpfbommaddaijaaZfWN
import Derived.Laws.StructEq
import Derived.Test.YtpfbommaddaijaaZfWRepsOne
import Derived.Test.YtpfbommaddaijaaZfWMore
namespace Go.Proofs.Ytpfbommaddaijaa.PDepends
open Go.RowKit Go.Proofs.YtpfbommaddaijaaW.PrintWords Go.Proofs.YtpfbommaddaijaaW.PrintLast Go.Proofs.YtpfbommaddaijaaW.PrintMore
attribute [local go_sem] max2_int min2_int max_two min_two max_three min_three max_four min_four   -- for this text's walks alone
set_option linter.unusedVariables false
set_option linter.unusedSimpArgs false

/-! ### commodatumref23_Depends: function 44 -/
def commodatumref23_Depends.l0 : Nat → List Bool → Int → Int → Option (Bool)
  | 0, _, _, _ => none
  | k + 1, x0, x1, x5 => if x5 < (x0.length : Int) then (if 0 ≤ x5 then (if 0 ≤ x1 then (if 0 ≤ (Go.bits .xor .i64 x5 (shl .i64 1 x1)) then (if (Go.bits .xor .i64 x5 (shl .i64 1 x1)) < (x0.length : Int) then (if ((rdOf false x0 x5) != (rdOf false x0 (Go.bits .xor .i64 x5 (shl .i64 1 x1)))) = true then (some true) else (commodatumref23_Depends.l0 k x0 x1 (wrap64 (x5 + 1)))) else (none)) else (none)) else (none)) else (none)) else (some false)
def commodatumref23_Depends.f (k : Nat) (l0 : List Bool) (a1 : Int) : Option (Bool) := commodatumref23_Depends.l0 k l0 a1 0
theorem commodatumref23_Depends.mono_l : ∀ k, (∀ y0 y1 y2, LeO (commodatumref23_Depends.l0 k y0 y1 y2) (commodatumref23_Depends.l0 (k + 1) y0 y1 y2))
  | 0 => fun _ _ _ r h => by simp [commodatumref23_Depends.l0] at h
  | k + 1 => by
    have ih0 := commodatumref23_Depends.mono_l k
    · intro y0 y1 y2
      unfold commodatumref23_Depends.l0
      repeat' first
      | (with_reducible exact ih0 _ _ _)
      | (with_reducible exact LeO.refl _)
      | (with_reducible exact LeO.none _)
      | (with_reducible refine LeO.ite ?_ ?_)
      | (with_reducible refine LeO.bind ?_ (fun _ => ?_))
      | exact ih0 _ _ _
      | exact LeO.none _
      | refine LeO.ite ?_ ?_
      | refine LeO.bind ?_ (fun _ => ?_)
theorem commodatumref23_Depends.mono : ∀ a0 a1 k, LeO (commodatumref23_Depends.f k a0 a1) (commodatumref23_Depends.f (k + 1) a0 a1) := by
  intro a0 a1 k
  have ih0 := commodatumref23_Depends.mono_l k
  unfold commodatumref23_Depends.f
  repeat' first
      | (with_reducible exact ih0 _ _ _)
      | (with_reducible exact LeO.refl _)
      | (with_reducible exact LeO.none _)
      | (with_reducible refine LeO.ite ?_ ?_)
      | (with_reducible refine LeO.bind ?_ (fun _ => ?_))
      | exact ih0 _ _ _
      | exact LeO.none _
      | refine LeO.ite ?_ ?_
      | refine LeO.bind ?_ (fun _ => ?_)
set_option maxHeartbeats 8000000 in
set_option maxRecDepth 100000 in
theorem commodatumref23_Depends.calls (k : Nat) (A0 : Option Addr) (c0 : Nat) (l0 : List Bool) (a1 : Int) (r : Bool) (w : World) (hr0 : Kd.C Kd.bool w A0 l0.length l0) (hc0 : l0.length ≤ c0) (h : commodatumref23_Depends.f k l0 a1 = some r) :
    Calls Try.prog 44 #[.slice A0 l0.length c0, .int .i64 a1] w fun e w' => e = .returned (.bool r) ∧ Drawn0 w w' := by
  have HR0 := Aside0.mk hr0
  have HC0 := Aside0.mk hc0
  clear hr0 hc0
  have H : (commodatumref23_Depends.l0 k l0 a1 0) = some r := h
  clear h
  have H' := Aside0.mk H
  clear H
  go_enter Try.func44, Try.ntmps44
  go_wp2
  repeat (go_quiet (fail); try go_wp2)
  go_loopg [5] k (fun kq v5 w' => ∃ (x5_1 : Int), v5 = .int .i64 x5_1 ∧ Aside0 (commodatumref23_Depends.l0 kq l0 a1 x5_1 = some r) ∧ Aside0 (kq ≤ k) ∧ Drawn0 w w')
  case atStart => exact ⟨(0), (by first | rfl | (simp; done) | (simp [*]; done)), H', ⟨Nat.le_refl _⟩, by repeat (first | exact Drawn0.refl _ | apply Drawn0.step)⟩
  case round =>
    clear H'
    try clear p2
    obtain ⟨x5_1, rfl, HA, HK1, ⟨m1, rfl⟩⟩ := hrel
    cases gk with
    | zero => exact absurd HA.out (by simp [commodatumref23_Depends.l0])
    | succ k1 =>
      have H := HA.out
      clear HA
      simp only [commodatumref23_Depends.l0] at H
      by_cases c3 : x5_1 < (l0.length : Int)
      · rw [if_pos c3] at H
        have c3b0 : decide (x5_1 < (l0.length : Int)) = true := decide_eq_true c3
        clear c3
        by_cases c4 : 0 ≤ x5_1
        · rw [if_pos c4] at H
          have c4b0 : decide (0 ≤ x5_1) = true := decide_eq_true c4
          clear c4
          by_cases c5 : 0 ≤ a1
          · rw [if_pos c5] at H
            have c5b0 := eq_true c5
            have c5b1 : decide (0 ≤ a1) = true := decide_eq_true c5
            clear c5
            obtain ⟨ji6, hji6⟩ : ∃ j_ : Int, (shl .i64 1 a1) = j_ := ⟨_, rfl⟩
            replace H : (if 0 ≤ (Go.bits .xor .i64 x5_1 (ji6)) then (if (Go.bits .xor .i64 x5_1 (ji6)) < (l0.length : Int) then (if ((rdOf false l0 x5_1) != (rdOf false l0 (Go.bits .xor .i64 x5_1 (ji6)))) = true then (some true) else (commodatumref23_Depends.l0 k1 l0 a1 (wrap64 (x5_1 + 1)))) else (none)) else (none)) = some r := by first | (rw [hji6] at H; exact H) | (simp only [hji6] at H ⊢; exact H)
            have hji6_ : (IntKind.i64.wrap (1 * 2 ^ min a1.toNat 64)) = ji6 := hji6
            have hji6z : a1 ≤ 64 → (IntKind.i64.wrap (1 * 2 ^ a1.toNat)) = ji6 := shl_small hji6
            have hji6u : (IntKind.i64.wrap (2 ^ min a1.toNat 64)) = ji6 := by have h_ := hji6_; rw [Int.one_mul] at h_; exact h_
            have hji6v : a1 ≤ 64 → (IntKind.i64.wrap (2 ^ a1.toNat)) = ji6 := fun hle_ => by have h_ := hji6z hle_; rw [Int.one_mul] at h_; exact h_
            have hji6y : (wrap64 (1 * 2 ^ min a1.toNat 64)) = ji6 := (i64_w _).symm.trans hji6_
            have hji6x : a1 ≤ 64 → (wrap64 (1 * 2 ^ a1.toNat)) = ji6 := fun h_ => (i64_w _).symm.trans (hji6z h_)
            by_cases c7 : 0 ≤ (Go.bits .xor .i64 x5_1 (ji6))
            · rw [if_pos c7] at H
              have c7b0 : decide (0 ≤ (Go.bits .xor .i64 x5_1 (ji6))) = true := decide_eq_true c7
              clear c7
              by_cases c8 : (Go.bits .xor .i64 x5_1 (ji6)) < (l0.length : Int)
              · rw [if_pos c8] at H
                have c8b0 : decide ((Go.bits .xor .i64 x5_1 (ji6)) < (l0.length : Int)) = true := decide_eq_true c8
                clear c8
                by_cases c9 : ((rdOf false l0 x5_1) != (rdOf false l0 (Go.bits .xor .i64 x5_1 (ji6)))) = true
                · rw [if_pos c9] at H
                  have c9b0 : ((rdOf false l0 x5_1) != (rdOf false l0 (Go.bits .xor .i64 x5_1 (ji6)))) = true := c9
                  (try (have c9b1 : decide ((rdOf false l0 x5_1) = (rdOf false l0 (Go.bits .xor .i64 x5_1 (ji6)))) = false := by simpa using c9))
                  (try (have c9b2 : ((rdOf false l0 x5_1) == (rdOf false l0 (Go.bits .xor .i64 x5_1 (ji6)))) = false := by simpa using c9))
                  (try (have c9b3 : ¬ ((rdOf false l0 x5_1) = (rdOf false l0 (Go.bits .xor .i64 x5_1 (ji6)))) := by simpa using c9))
                  clear c9
                  obtain rfl := Option.some.inj H
                  have p101 : 0 ≤ (x5_1 : Int) := of_decide_eq_true (by first | (with_reducible assumption) | assumption)
                  have q101 : x5_1 < (l0.length : Int) := of_decide_eq_true (by first | (with_reducible assumption) | assumption)
                  obtain ⟨ad101, e101, hx101_0⟩ := Kd.at_bool HR0.out x5_1 p101 q101
                  cases e101
                  replace p101 := eq_true p101
                  replace q101 := eq_true q101
                  have p102 : 0 ≤ ((Go.bits .xor .i64 x5_1 (ji6)) : Int) := of_decide_eq_true (by first | (with_reducible assumption) | assumption)
                  have q102 : (Go.bits .xor .i64 x5_1 (ji6)) < (l0.length : Int) := of_decide_eq_true (by first | (with_reducible assumption) | assumption)
                  obtain ⟨ad102, e102, hx102_0⟩ := Kd.at_bool HR0.out (Go.bits .xor .i64 x5_1 (ji6)) p102 q102
                  obtain rfl : ad101 = ad102 := (by injection e102)
                  replace p102 := eq_true p102
                  replace q102 := eq_true q102
                  go_wp2
                  repeat (go_quiet (fail); try go_wp2)
                  go_ret
                  exact ⟨by first | rfl | (simp; done) | (simp only [← hji6] <;> (first | rfl | simp)) | (simp [*]; done), by repeat (first | exact Drawn0.refl _ | apply Drawn0.step)⟩
                · rw [if_neg c9] at H
                  have c9b0 : ((rdOf false l0 x5_1) != (rdOf false l0 (Go.bits .xor .i64 x5_1 (ji6)))) = false := by simpa using c9
                  (try (have c9b1 : decide ((rdOf false l0 x5_1) = (rdOf false l0 (Go.bits .xor .i64 x5_1 (ji6)))) = true := by simpa using c9))
                  (try (have c9b2 : ((rdOf false l0 x5_1) == (rdOf false l0 (Go.bits .xor .i64 x5_1 (ji6)))) = true := by simpa using c9))
                  clear c9
                  have H' := Aside0.mk H
                  clear H
                  have p101 : 0 ≤ (x5_1 : Int) := of_decide_eq_true (by first | (with_reducible assumption) | assumption)
                  have q101 : x5_1 < (l0.length : Int) := of_decide_eq_true (by first | (with_reducible assumption) | assumption)
                  obtain ⟨ad101, e101, hx101_0⟩ := Kd.at_bool HR0.out x5_1 p101 q101
                  cases e101
                  replace p101 := eq_true p101
                  replace q101 := eq_true q101
                  have p102 : 0 ≤ ((Go.bits .xor .i64 x5_1 (ji6)) : Int) := of_decide_eq_true (by first | (with_reducible assumption) | assumption)
                  have q102 : (Go.bits .xor .i64 x5_1 (ji6)) < (l0.length : Int) := of_decide_eq_true (by first | (with_reducible assumption) | assumption)
                  obtain ⟨ad102, e102, hx102_0⟩ := Kd.at_bool HR0.out (Go.bits .xor .i64 x5_1 (ji6)) p102 q102
                  obtain rfl : ad101 = ad102 := (by injection e102)
                  replace p102 := eq_true p102
                  replace q102 := eq_true q102
                  go_wp2
                  repeat (go_quiet (fail); try go_wp2)
                  go_roundg k1
                  case measure => have := HK1.out; omega
                  case rel => exact ⟨(wrap64 (x5_1 + 1)), (by first | rfl | (simp; done) | (simp [*]; done)), H', ⟨by have := HK1.out; omega⟩, by repeat (first | exact Drawn0.refl _ | apply Drawn0.step)⟩
              · rw [if_neg c8] at H
                exact absurd H (by simp)
            · rw [if_neg c7] at H
              exact absurd H (by simp)
          · rw [if_neg c5] at H
            exact absurd H (by simp)
        · rw [if_neg c4] at H
          exact absurd H (by simp)
      · rw [if_neg c3] at H
        have c3b0 : decide (x5_1 < (l0.length : Int)) = false := decide_eq_false c3
        clear c3
        obtain rfl := Option.some.inj H
        go_wp2
        repeat (go_quiet (fail); try go_wp2)
        go_ret
        exact ⟨by first | rfl | (simp; done) | (simp [*]; done), by repeat (first | exact Drawn0.refl _ | apply Drawn0.step)⟩

end Go.Proofs.Ytpfbommaddaijaa.PDepends

