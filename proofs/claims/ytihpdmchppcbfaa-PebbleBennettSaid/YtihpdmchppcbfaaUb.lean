/- slices.Grow on nothing, slices.Concat of plays, and bits. -/
import Derived.Test.YtihpdmchppcbfaaTs
import Derived.Test.YtihpdmchppcbfaaFf
import Derived.Lib.AppendZeros
namespace Go.Proofs.Ytihpdmchppcbfaa
open Go.RowKit
set_option linter.unusedVariables false
set_option linter.unusedSimpArgs false

theorem zero_len (a b : Nat) : (Builtin.zeroCells (Value.agg #[.bool false, .int .i64 0]).cells a ++ Builtin.zeroCells (Value.agg #[.bool false, .int .i64 0]).cells b).size = (a + b) * 2 := by
  simp [Builtin.zeroCells, Value.cells]
  omega
set_option maxHeartbeats 2000000 in
/-- slices.Grow(nil, n) -/
theorem grow_any {w : World} (n : Nat) (h1 : 1 ≤ n) (h2 : n ≤ 2 ^ 40) : Calls Try.prog 46 #[.slice none 0 0, I n] w fun e w' => ∃ g c, e = .returned (.slice (some ⟨g, 0, none⟩) 0 c) ∧ n ≤ c ∧ w'.ownsRow w.heap.size 49 2 (.slice (some ⟨g, 0, none⟩) 0 c) 0 [] ∧ Below w.heap.size w w' := by
  obtain ⟨i0, hi, hz0, hz1, hz2⟩ := info_parts Try.info49
  have happ := fun w : World => Lib.run_append_nil_zeros (P := Try.prog) w 32 3 32 49 i0 _ .i64 .i64 Try.underlying32 Try.underlying3 hi hz0 n h1 (by omega) (by omega) (by rw [hz2]; omega)
  have d1 : decide ((n : Int) < 0) = false := decide_eq_false (by omega)
  have d2 : decide ((0 : Int) < (n : Int)) = true := decide_eq_true (by omega)
  have HA := Lib.hid happ
  clear happ
  go_enter Try.func46, Try.ntmps46
  go_wp2_with (at_builtin; refine Lib.wpList_append_run _ rfl _ _ _ _ rfl _ _ rfl rfl _ _ (HA.out _) ?_)
  go_ret
  have hc1 : n ≤ grownCap w n 0 49 := grownCap_ge w n 0 49
  have hc2 : grownCap w n 0 49 ≤ maxLen := grownCap_le_maxLen w n 0 49 (by unfold maxLen; omega)
  refine ⟨_, _, rfl, hc1, ⟨rfl, .inr ⟨w.heap.size, grownCap w n 0 49, _, rfl, Nat.le_refl _, Deep.blk_alloc_new _ _, Nat.zero_le _, hc2, ?_, by simp⟩⟩, ?_⟩
  · have := zero_len n (grownCap w n 0 49 - n)
    simp only [Value.cells] at this
    rw [this]
    omega
  · exact ((Below.refl _ _).alloc (Nat.le_refl _) _).drew
set_option maxHeartbeats 2000000 in
/-- bits -/
theorem bits_law {w : World} (n k : Nat) (hk : k ≤ 10) (h1 : n ≤ 2 ^ k) (h2 : ∀ j, j < k → 2 ^ j < n) : Calls Try.prog 30 #[I n] w fun e w' => e = .returned (I k) ∧ w' = w := by
  have H1 := Lib.hid h1
  have H2 := Lib.hid h2
  clear h1 h2
  go_enter Try.func30, Try.ntmps30
  go_wp2
  go_loop [3] (fun x => ∃ j : Nat, j ≤ k ∧ x = I j) (fun x => k - (intOf x).toNat)
  case atStart => exact ⟨0, by omega, rfl⟩
  case round =>
    obtain ⟨j, hj, rfl⟩ := hrel
    have hw := w2i j (by omega)
    have hs : 0 ≤ (j : Int) := by omega
    by_cases h : j < k
    · have hlt := H2.out j h
      generalize 2 ^ j = N at hw hlt
      have hd : decide ((N : Int) < (n : Int)) = true := decide_eq_true (by omega)
      go_wp2
      go_round
      case rel => exact ⟨j + 1, by omega, by go_num⟩
      case measure => simp [intOf]; omega
    · obtain rfl : j = k := by omega
      have hlt := H1.out
      generalize 2 ^ j = N at hw hlt
      have hd : decide ((N : Int) < (n : Int)) = false := decide_eq_false (by omega)
      go_wp2
      go_ret
      exact ⟨rfl, rfl⟩
theorem bits_ex' (n : Nat) : ∀ K, n ≤ 2 ^ K → ∃ k, k ≤ K ∧ n ≤ 2 ^ k ∧ ∀ j, j < k → 2 ^ j < n
  | 0, h => ⟨0, Nat.le_refl _, h, fun j hj => by omega⟩
  | K + 1, h => by
    by_cases h2 : n ≤ 2 ^ K
    · obtain ⟨k, h3, h4⟩ := bits_ex' n K h2
      exact ⟨k, by omega, h4⟩
    · exact ⟨K + 1, Nat.le_refl _, h, fun j hj => by have : 2 ^ j ≤ 2 ^ K := Nat.pow_le_pow_right (by decide) (by omega); omega⟩
theorem bits_ex (n : Nat) (h : n ≤ 1000) : ∃ k, k ≤ 10 ∧ n ≤ 2 ^ k ∧ ∀ j, j < k → 2 ^ j < n := bits_ex' n 10 (by omega)

/-- the first i of the lists -/
def cat (l : Nat → List (Bool × Int)) : Nat → List (Bool × Int)
  | 0 => []
  | i + 1 => cat l i ++ l i
theorem cat_mono (l : Nat → List (Bool × Int)) {i : Nat} : ∀ {j}, i ≤ j → (cat l i).length ≤ (cat l j).length
  | 0, h => by
    have e : i = 0 := by omega
    subst e
    exact Nat.le_refl _
  | j + 1, h => by
    by_cases e : i = j + 1
    · rw [e]; exact Nat.le_refl _
    · have := cat_mono l (i := i) (j := j) (by omega)
      simp only [cat, List.length_append]
      omega
theorem own_shape2 {w : World} {B e z n : Nat} {v : Value} {xs : List Value} (h : w.ownsRow B e z v n xs) : ∃ a c, v = .slice a n c := by
  rcases h.2 with ⟨h1, h2⟩ | ⟨g, cap, cur, h1, h2⟩
  · exact ⟨_, _, by rw [h1, h2]⟩
  · exact ⟨_, _, h1⟩
/-- a play appended to a play -/
theorem wpList_cat_mv {w : World} {ops : Array Oper} {rest : List Oper} {o : Oper} {a : Act} {Q : Exit → Act → World → Prop} (hg : o.guard = none) (s x : Operand) (hop : o.op = Op.call { callee := Callee.builtin Builtin.append, args := #[s, x], argTypes := #[32, 32] })
    {B n k pc : Nat} {v : Value} {pa : Option Addr} {l1 l2 : List (Bool × Int)} (hs : a.eval s = v) (hq : w.ownsRow B 49 2 v n (mc l1)) (hn : n = l1.length) (hB : B ≤ w.heap.size) (hx : a.eval x = .slice pa k pc) (hp : Pl w (.slice pa k pc) l2) (hne : 1 ≤ l2.length) (hlen : n + l2.length ≤ 2 ^ 40)
    (hK : ∀ v' w', w'.ownsRow B 49 2 v' (n + l2.length) (mc (l1 ++ l2)) → Below B w w' → wpList Try.prog ops Q rest (a.put o.dst v') w') : wpList Try.prog ops Q (o :: rest) a w := by
  obtain ⟨i0, hi, hz0, hz1, hz2⟩ := info_parts Try.info49
  obtain ⟨a', c', e1, _⟩ := hp.ex
  have hk : k = l2.length := by cases e1; rfl
  subst hk
  obtain ⟨b, rfl, _⟩ := hp.at' (i := 0) (by omega)
  refine wpList_append_own _ hg s x 32 hop B 49 i0 _ 2 16 Try.underlying32 hi hz0 hz1 hz2 rfl (by decide) v n (mc l1) hs hq b l2.length pc (mc l2) hx (mc_len l2) (fun j u hj => hp.cells j u hj) (mc_one l2) (by unfold maxLen; omega) (by omega) hB (fun v' w' ho hgr _ => ?_)
  refine hK v' w' (by rw [mc_app]; exact ho) ((Below.refl _ _).grown hgr hB (fun x hx => (hq.lt x hx).1))
set_option maxHeartbeats 8000000 in
set_option maxRecDepth 100000 in
/-- slices.Concat of plays -/
theorem concat_any {w : World} {b : Addr} {q c : Nat} (hq : q ≤ 3) (l : Nat → List (Bool × Int)) (V : Nat → Value) (hc : ∀ i, i < q → w.cell? (b.add i) = some (V i)) (hp : ∀ i, i < q → Pl w (V i) (l i)) (h1 : ∀ i, i < q → 1 ≤ (l i).length) (hq1 : 1 ≤ q) (hb : (cat l q).length ≤ 2 ^ 40) :
    Calls Try.prog 41 #[.slice (some b) q c] w fun e w' => ∃ v, e = .returned v ∧ Pl w' v (cat l q) ∧ Below w.heap.size w w' := by
  have HC := Lib.hid hc
  have HP := Lib.hid hp
  have H1 := Lib.hid h1
  have HM : Hid (∀ i, i ≤ q → (cat l i).length ≤ 2 ^ 40) := Lib.hid fun i hi => Nat.le_trans (cat_mono l hi) hb
  have HG : Hid (1 ≤ (cat l q).length) := Lib.hid (by have := cat_mono l hq1; have := h1 0 (by omega); simp only [cat, List.length_append, List.length_nil] at *; omega)
  clear hc hp h1 hb
  go_enter Try.func41, Try.ntmps41
  go_wp2
  go_loopw [3, 5, 11] (fun x _ y wr => ∃ i : Nat, i ≤ q ∧ x = I (cat l i).length ∧ y = I i ∧ wr = w) (fun _ _ y _ => q - (intOf y).toNat)
  case atStart => exact ⟨0, by omega, rfl, rfl, rfl⟩
  case round =>
    obtain ⟨i, hi, rfl, rfl, hwr⟩ := hrel
    rw [hwr]
    clear hwr
    by_cases hiq : i < q
    · have hck := HC.out i hiq
      obtain ⟨pa, pc, hv⟩ := (HP.out i hiq).shape
      rw [hv] at hck
      have hm1 := HM.out (i + 1) hiq
      have hcat : Hid ((cat l (i + 1)).length = (cat l i).length + (l i).length) := Lib.hid (by simp only [cat, List.length_append])
      rw [hcat.out] at hm1
      have hd0 : decide (((cat l i).length : Int) + ((l i).length : Int) < 0) = false := decide_eq_false (by omega)
      generalize (cat l i).length = k1 at *
      generalize (l i).length = k2 at *
      go_wp2
      go_roundw
      case rel => exact ⟨i + 1, by omega, by rw [hcat.out]; go_num, by go_num, by first | rfl | trivial⟩
      case measure => simp [intOf]; omega
    · obtain rfl : i = q := by omega
      have hm1 := HM.out i (Nat.le_refl _)
      have hg1 := HG.out
      generalize hk : (cat l i).length = k1 at *
      have HK := Lib.hid hk
      clear hk
      go_wp2_with (go_at_call 46; refine (grow_any k1 hg1 hm1).mono ?_; rintro e w1 ⟨g, cc, rfl, hcc, how, hbw⟩; have HO := Lib.hid how; have HB := Lib.hid hbw; clear how hbw)
      have H1' := H1
      go_loopw [6, 8, 27] (fun v _ y wx => ∃ j : Nat, j ≤ i ∧ y = I j ∧ (∃ n, Hid (wx.ownsRow w.heap.size 49 2 v n (mc (cat l j)) ∧ n = (cat l j).length)) ∧ Hid (Below w.heap.size w wx)) (fun _ _ y _ => i - (intOf y).toNat)
      case atStart => exact ⟨0, by omega, rfl, ⟨0, Lib.hid ⟨HO.out, rfl⟩⟩, HB⟩
      case round =>
        clear HO HB
        obtain ⟨j, hj, rfl, ⟨n, hown⟩, hB⟩ := hrel
        by_cases hji : j < i
        · have hck0 := HC.out j hji
          have hpl := (HP.out j hji).keep hB.out
          have hne := H1'.out j hji
          obtain ⟨pa, pc, hv⟩ := hpl.shape
          have hck := (World.cell?_of_block (hB.out.block _ (World.block_lt_of_cell? _ _ hck0))).trans hck0
          rw [hv] at hck hpl
          have HPL := Lib.hid hpl
          have hcat : (cat l (j + 1)).length = (cat l j).length + (l j).length := by simp only [cat, List.length_append]
          have hm2 := HM.out (j + 1) hji
          rw [hcat, ← hown.out.2] at hm2
          have hm2 := Lib.hid hm2
          have hne := Lib.hid hne
          have HC2 := Lib.hid hcat
          have HOW := Lib.hid hown.out
          have hBs := hB.out.size
          obtain ⟨va, vc, rfl⟩ := own_shape2 hown.out.1
          clear hck0 hpl hcat hv hown
          go_wp2_with (at_builtin; refine wpList_cat_mv (B := w.heap.size) rfl (.tmp 31) (.tmp 32) rfl rfl HOW.out.1 HOW.out.2 hBs rfl HPL.out hne.out hm2.out ?_; intro v9 w9 ho9 hb9; have HO9 := Lib.hid ho9; have HB9 := Lib.hid (hB.out.trans hb9); clear ho9 hb9)
          go_roundw
          case rel => exact ⟨j + 1, by omega, by go_num, ⟨_, Lib.hid ⟨by simpa only [cat] using HO9.out, by rw [HC2.out, HOW.out.2]⟩⟩, HB9⟩
          case measure => simp [intOf]; omega
        · obtain rfl : j = i := by omega
          obtain ⟨va, vc, rfl⟩ := own_shape2 hown.out.1
          go_wp2
          go_ret
          exact ⟨_, rfl, own_pl hown.out.1 hown.out.2, hB.out⟩
end Go.Proofs.Ytihpdmchppcbfaa
