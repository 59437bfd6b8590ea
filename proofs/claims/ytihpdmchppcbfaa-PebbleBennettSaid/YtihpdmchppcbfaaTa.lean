/- Walks through the functions that read a graph: what each call returns; no memory is changed. -/
import Derived.Test.YtihpdmchppcbfaaRows
import Derived.WalkKit
import Derived.WalkSpells
import Derived.WalkLawsBesides
import Derived.IntWalk
import Derived.Lib.Hide
import Derived.Deep.QuietTactic
import Derived.BigQuiet
namespace Go.Proofs.Ytihpdmchppcbfaa
open Go.RowKit
set_option linter.unusedVariables false
set_option linter.unusedSimpArgs false

def Fn (f : FuncId) (args : Array Value) (v : Value) : Prop := ∀ w : World, Calls Try.prog f args w fun e w' => e = .returned v ∧ Below w.heap.size w w'
def Fs (f : FuncId) (args : Array Value) (v : Value) : Prop := ∀ w : World, Calls Try.prog f args w fun e w' => e = .returned v ∧ w = w'
theorem Fs.fn {f : FuncId} {args : Array Value} {v : Value} (h : Fs f args v) : Fn f args v := fun w => (h w).mono fun _ _ ⟨he, hw⟩ => ⟨he, hw ▸ Below.refl _ _⟩
theorem rb {a b : Bool} (h : a = b) : Ending.returned (.bool a) = .returned (.bool b) := by rw [h]
theorem ri {k : IntKind} {a b : Int} (h : a = b) : Ending.returned (.int k a) = .returned (.int k b) := by rw [h]
abbrev I (n : Int) : Value := .int .i64 n

theorem addb (b : Addr) (r : Nat) : (b.add r).block = b.block := by unfold Addr.add; split <;> rfl

/-- The graph in memory: row r is a slice at A r of length L r; its element c is the number Z r c. -/
structure Dg (w : World) (v : Value) (n : Nat) (A : Nat → Option Addr) (L C : Nat → Nat) (Z : Nat → Nat → Int) : Prop where
  top : ∃ (a : Option Addr) (cap : Nat), v = .slice a n cap ∧ n ≤ cap ∧ cap ≤ maxLen ∧ (a = none → n = 0) ∧ ∀ b, a = some b → ∀ r, r < n → w.cell? (b.add r) = some (.slice (A r) (L r) (C r))
  small : n ≤ 2 ^ 50
  row : ∀ r, r < n → L r ≤ C r ∧ L r ≤ 2 ^ 50 ∧ (A r = none → C r = 0) ∧ ∀ b, A r = some b → ∀ c, c < L r → w.cell? (b.add c) = some (I (Z r c))

theorem Dg.keep {w w' : World} {v : Value} {n : Nat} {A : Nat → Option Addr} {L C : Nat → Nat} {Z : Nat → Nat → Int} (h : Dg w v n A L C Z) (hb : Below w.heap.size w w') : Dg w' v n A L C Z where
  top := by
    obtain ⟨a, cap, h1, h2, h3, h4, h5⟩ := h.top
    refine ⟨a, cap, h1, h2, h3, h4, fun b hab r hr => ?_⟩
    rw [← h5 b hab r hr]; exact hb.cell (World.block_lt_of_cell? _ _ (h5 b hab r hr))
  small := h.small
  row := fun r hr => by
    obtain ⟨h1, h2, h3, h4⟩ := h.row r hr
    refine ⟨h1, h2, h3, fun b hab c hc => ?_⟩
    rw [← h4 b hab c hc]; exact hb.cell (World.block_lt_of_cell? _ _ (h4 b hab c hc))

/-- the number of rows and elements of the first k rows -/
def tot (n : Nat) (L : Nat → Nat) : Nat → Nat
  | 0 => n
  | k + 1 => tot n L k + L k
theorem tot_mono (n : Nat) (L : Nat → Nat) {k : Nat} : ∀ m, k ≤ m → tot n L k ≤ tot n L m
  | 0, h => by obtain rfl : k = 0 := by omega
               exact Nat.le_refl _
  | m + 1, h => by
    rcases Nat.lt_or_ge m k with hl | hl
    · obtain rfl : k = m + 1 := by omega
      exact Nat.le_refl _
    · exact Nat.le_trans (tot_mono n L m hl) (Nat.le_add_right _ _)

set_option maxHeartbeats 1000000 in
theorem wide_any {w : World} {v : Value} {n : Nat} {A : Nat → Option Addr} {L C : Nat → Nat} {Z : Nat → Nat → Int} (hd : Dg w v n A L C Z) : Calls Try.prog 9 #[v] w fun e w' => e = .returned (.bool (decide (20000 < tot n L n))) ∧ w = w' := by
  obtain ⟨a, cap, rfl, h2, h3, h4, h5⟩ := hd.top
  rcases a with _ | b
  · obtain rfl := h4 rfl
    have ht : tot 0 L 0 = 0 := rfl
    clear hd h4 h5
    go_enter Try.func9, Try.ntmps9
    go_wp2
    go_loop [3, 4] (fun u v => u = I 0 ∧ v = I 0) (fun _ v => 0)
    case atStart => exact ⟨rfl, rfl⟩
    case round =>
      obtain ⟨rfl, rfl⟩ := hrel
      go_wp2
      go_ret
      exact ⟨rb (by rfl), rfl⟩
  · have hc := h5 b rfl
    have Hrow := Lib.hid hd.row
    have Hc := Lib.hid hc
    have Hm := Lib.hid (fun k (hk : k ≤ n) => tot_mono n L (k := k) n hk)
    clear h4 h5 hc
    have hsm := hd.small
    clear hd
    go_enter Try.func9, Try.ntmps9
    go_wp2
    go_loop [3, 4] (fun u v => ∃ k : Nat, k ≤ n ∧ tot n L k ≤ 20000 + 2 ^ 50 ∧ u = I (tot n L k) ∧ v = I k) (fun _ v => n - (intOf v).toNat)
    case atStart => exact ⟨0, by omega, by show n ≤ _; omega, rfl, rfl⟩
    case round =>
      obtain ⟨k, hk, hb2, rfl, rfl⟩ := hrel
      by_cases h : k < n
      · by_cases h2 : tot n L k ≤ 20000
        · have hck := Hc.out k h
          have hr := Hrow.out k h
          have hr1 := hr.1
          have hr2 := hr.2.1
          clear hr
          have hs : tot n L (k + 1) = tot n L k + L k := rfl
          have h2' : ((tot n L k : Nat) : Int) ≤ 20000 := by omega
          go_wp2
          go_round
          case rel => exact ⟨k + 1, by omega, by omega, by rw [hs]; go_num, by go_num⟩
          case measure => simp [intOf]; omega
        · have h2' : ¬ ((tot n L k : Nat) : Int) ≤ 20000 := by omega
          have hf : decide (20000 < tot n L n) = true := decide_eq_true (by have := Hm.out k hk; omega)
          go_wp2
          go_ret
          exact ⟨rb (by rfl), rfl⟩
      · obtain rfl : k = n := by omega
        go_wp2
        go_ret
        exact ⟨rb (by simp; omega), rfl⟩

end Go.Proofs.Ytihpdmchppcbfaa
