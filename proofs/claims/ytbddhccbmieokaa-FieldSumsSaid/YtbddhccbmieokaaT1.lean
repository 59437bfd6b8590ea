/- Walks through the functions of the field and of its reference: what each call returns; no memory that was there is changed. -/
import Derived.Test.YtbddhccbmieokaaRows
import Derived.Test.YtbddhccbmieokaaFa
import Derived.WalkKit
import Derived.WalkSpells
import Derived.WalkLawsBesides
import Derived.IntWalk
import Derived.Lib.Hide
import Derived.Deep.QuietTactic
import Derived.BigQuiet
import Derived.Laws.BitsLemmas
namespace Go.Proofs.Ytbddhccbmieokaa
open Go.RowKit FieldMath

def Fn (f : FuncId) (args : Array Value) (v : Value) : Prop := ∀ w : World, Calls Try.prog f args w fun e w' => e = .returned v ∧ Below w.heap.size w w'
def Fs (f : FuncId) (args : Array Value) (v : Value) : Prop := ∀ w : World, Calls Try.prog f args w fun e w' => e = .returned v ∧ w = w'
theorem Fs.fn {f : FuncId} {args : Array Value} {v : Value} (h : Fs f args v) : Fn f args v := fun w => (h w).mono fun _ _ ⟨he, hw⟩ => ⟨he, hw ▸ Below.refl _ _⟩
theorem rb {a b : Bool} (h : a = b) : Ending.returned (.bool a) = .returned (.bool b) := by rw [h]
theorem ri {k : IntKind} {a b : Int} (h : a = b) : Ending.returned (.int k a) = .returned (.int k b) := by rw [h]
abbrev I (n : Int) : Value := .int .i64 n

theorem prm_yes {n : Nat} (h : Prm n) : decide (Prm n) = true := decide_eq_true h
theorem prm_no {n : Nat} (h : ¬ Prm n) : decide (Prm n) = false := decide_eq_false h

theorem step_no {n d : Nat} (H : ∀ c, c < d → 2 ≤ c → n % c ≠ 0) (H' : ¬ n % d = 0) : ∀ c, c < d + 1 → 2 ≤ c → n % c ≠ 0 := fun c hc h2 => by
  rcases Nat.lt_or_ge c d with hl | hl
  · exact H c hl h2
  · obtain rfl : c = d := by omega
    exact H'
set_option maxHeartbeats 400000 in
theorem prime_any (n : Nat) (hn : n ≤ 65536) : Fs 40 #[I n] (.bool (decide (Prm n))) := by
  intro w
  go_enter Try.func40, Try.ntmps40
  go_wp2
  go_loop [3] (fun v => ∃ d : Nat, 2 ≤ d ∧ d ≤ 257 ∧ Hid (∀ c, c < d → 2 ≤ c → n % c ≠ 0) ∧ v = I d) (fun v => 300 - (intOf v).toNat)
  case atStart => exact ⟨2, by omega, by omega, Lib.hid (fun c h1 h2 => by omega), rfl⟩
  case round =>
    obtain ⟨d, h1, h2, H, rfl⟩ := hrel
    have hdd : d * d ≤ 257 * 257 := Nat.mul_le_mul h2 h2
    by_cases hlt : d * d ≤ n
    · have hd := sq_bd (Nat.le_trans hlt hn)
      have hb : (d : Int) * d ≤ n := by exact_mod_cast hlt
      by_cases h0 : n % d = 0
      · have hm : (((n : Int) % (d : Int)) == 0) = true := by rw [beq_iff_eq]; exact_mod_cast h0
        have hno := Lib.hid (prm_no (Prm.not_of h1 hlt h0))
        clear h0
        go_wp2
        go_ret
        exact ⟨rb hno.out.symm, rfl⟩
      · have hm : (((n : Int) % (d : Int)) == 0) = false := by rw [beq_eq_false_iff_ne]; exact_mod_cast h0
        have H' := Lib.hid h0
        clear h0
        go_wp2
        go_round
        case rel => exact ⟨d + 1, by omega, by omega, Lib.hid (step_no H.out H'.out), by go_num⟩
        case measure => simp [intOf]; omega
    · have hb : ¬ (d : Int) * d ≤ n := by exact_mod_cast hlt
      by_cases hn2 : 2 ≤ n
      · have hy := Lib.hid (prm_yes (Prm.of_small hn2 H.out (by omega)))
        go_wp2
        go_ret
        exact ⟨rb (by rw [hy.out]; simp; omega), rfl⟩
      · have hno := Lib.hid (prm_no (n := n) fun h => hn2 h.1)
        go_wp2
        go_ret
        exact ⟨rb (by rw [hno.out]; simp; omega), rfl⟩


theorem bcell {W w1 : World} (hb : Below W.heap.size W w1) : (∀ b o, b < W.heap.size → w1.cell? ⟨b, o, none⟩ = W.cell? ⟨b, o, none⟩) ∧ (∀ b o, b < W.heap.size → w1.frozen? ⟨b, o, none⟩ = W.frozen? ⟨b, o, none⟩) :=
  ⟨fun b o h => hb.cell (p := ⟨b, o, none⟩) h, fun b o h => hb.frozen (p := ⟨b, o, none⟩) h⟩
abbrev A2 (P M : Int) : Value := .agg #[I P, I M]

theorem vld_no {P M : Int} (h : ¬ (2 ≤ P ∧ P ≤ 65536 ∧ 1 ≤ M ∧ M ≤ 16 ∧ (1 < M → P = 2) ∧ Prm P.toNat)) : vld P M = false := decide_eq_false h

theorem valid_any (P M : Int) : Fn 13 #[A2 P M] (.bool (vld P M)) := by
  intro w
  by_cases h1 : P < 2
  · have hno := Lib.hid (vld_no (P := P) (M := M) (by omega))
    go_enter Try.func13, Try.ntmps13
    go_wp2
    go_ret
    exact ⟨rb hno.out.symm, (Below.refl _ _).alloc (Nat.le_refl _) _⟩
  by_cases h2 : 65536 < P
  · have hno := Lib.hid (vld_no (P := P) (M := M) (by omega))
    go_enter Try.func13, Try.ntmps13
    go_wp2
    go_ret
    exact ⟨rb hno.out.symm, (Below.refl _ _).alloc (Nat.le_refl _) _⟩
  by_cases h3 : M < 1
  · have hno := Lib.hid (vld_no (P := P) (M := M) (by omega))
    go_enter Try.func13, Try.ntmps13
    go_wp2
    go_ret
    exact ⟨rb hno.out.symm, (Below.refl _ _).alloc (Nat.le_refl _) _⟩
  by_cases h4 : 16 < M
  · have hno := Lib.hid (vld_no (P := P) (M := M) (by omega))
    go_enter Try.func13, Try.ntmps13
    go_wp2
    go_ret
    exact ⟨rb hno.out.symm, (Below.refl _ _).alloc (Nat.le_refl _) _⟩
  by_cases h5 : 1 < M
  · by_cases h6 : P = 2
    · subst h6
      have hy := Lib.hid (show vld 2 M = decide (Prm 2) by unfold vld; exact decide_eq_decide.2 ⟨fun h => h.2.2.2.2.2, fun h => ⟨by omega, by omega, by omega, by omega, fun _ => rfl, h⟩⟩)
      go_enter Try.func13, Try.ntmps13
      go_wp2_with (go_at_call 40; refine (prime_any 2 (by omega) _).mono ?_; rintro e w' ⟨rfl, rfl⟩)
      go_ret
      exact ⟨rb hy.out.symm, (Below.refl _ _).alloc (Nat.le_refl _) _⟩
    · have hno := Lib.hid (vld_no (P := P) (M := M) (by omega))
      have hp : (P != 2) = true := by rw [bne_iff_ne]; exact h6
      clear h6
      go_enter Try.func13, Try.ntmps13
      go_wp2
      go_ret
      exact ⟨rb hno.out.symm, (Below.refl _ _).alloc (Nat.le_refl _) _⟩
  · obtain ⟨n, rfl⟩ := Int.eq_ofNat_of_zero_le (show 0 ≤ P by omega)
    have hy := Lib.hid (show vld n M = decide (Prm n) by unfold vld; exact decide_eq_decide.2 ⟨fun h => h.2.2.2.2.2, fun h => ⟨by omega, by omega, by omega, by omega, fun _ => by omega, h⟩⟩)
    go_enter Try.func13, Try.ntmps13
    go_wp2_with (go_at_call 40; refine (prime_any n (by omega) _).mono ?_; rintro e w' ⟨rfl, rfl⟩)
    go_ret
    exact ⟨rb hy.out.symm, (Below.refl _ _).alloc (Nat.le_refl _) _⟩

theorem valid_yes {P M : Int} (h : vld P M = true) : Fn 13 #[A2 P M] (.bool true) := h ▸ valid_any P M
theorem valid_not {P M : Int} (h : vld P M = false) : Fn 13 #[A2 P M] (.bool false) := h ▸ valid_any P M

theorem order_any (P M : Int) : Fn 14 #[A2 P M] (I (ord P M)) := by
  intro w
  by_cases h : vld P M = true
  · have hs := vld_spec h
    have h' := Lib.hid h
    have h1 := hs.1; have h2 := hs.2.1; have h3 := hs.2.2.1; have h4 := hs.2.2.2.1
    clear hs h
    by_cases h5 : 1 < M
    · have ho := Lib.hid (show ord P M = 2 ^ M.toNat by unfold ord; rw [if_pos h'.out, if_pos h5])
      have hp := pow_bd h4
      have hp0 : (0 : Int) ≤ 2 ^ M.toNat := Int.pow_nonneg (by omega)
      go_enter Try.func14, Try.ntmps14
      go_wp2_with (go_at_call 13; refine (valid_yes h'.out _).mono ?_; rintro e w' ⟨rfl, hb⟩; obtain ⟨hc, hf⟩ := bcell hb)
      go_ret
      exact ⟨ri (by rw [ho.out]), ((Below.refl _ _).alloc (Nat.le_refl _) _).trans (hb.mono (by simp))⟩
    · have ho := Lib.hid (show ord P M = P by unfold ord; rw [if_pos h'.out, if_neg h5])
      go_enter Try.func14, Try.ntmps14
      go_wp2_with (go_at_call 13; refine (valid_yes h'.out _).mono ?_; rintro e w' ⟨rfl, hb⟩; obtain ⟨hc, hf⟩ := bcell hb)
      go_ret
      exact ⟨ri (by rw [ho.out]), ((Below.refl _ _).alloc (Nat.le_refl _) _).trans (hb.mono (by simp))⟩
  · have ho := Lib.hid (show ord P M = 0 by unfold ord; rw [if_neg h])
    have h' := Lib.hid (Bool.eq_false_iff.2 h)
    clear h
    go_enter Try.func14, Try.ntmps14
    go_wp2_with (go_at_call 13; refine (valid_not h'.out _).mono ?_; rintro e w' ⟨rfl, hb⟩; obtain ⟨hc, hf⟩ := bcell hb)
    go_ret
    exact ⟨ri (by rw [ho.out]), ((Below.refl _ _).alloc (Nat.le_refl _) _).trans (hb.mono (by simp))⟩

end Go.Proofs.Ytbddhccbmieokaa
