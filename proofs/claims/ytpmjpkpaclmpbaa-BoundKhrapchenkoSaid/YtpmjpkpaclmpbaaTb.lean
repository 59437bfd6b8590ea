/- The leaves: a map from the functions of constants and variables. -/
import Derived.Test.YtpmjpkpaclmpbaaTa
import Derived.Maps.RangeWalk
import Derived.Maps.OwnOps
import Derived.Maps.OwnSet
namespace Go.Proofs.Ytpmjpkpaclmpbaa
open Go.RowKit Go.Maps
set_option linter.unusedVariables false
set_option linter.unusedSimpArgs false

theorem law3 : Keyed Try.prog 3 := int_keyed Try.underlying3
/-- a leaf's formula, read: its kind and its number -/
def frm (v : Value) : Option (DataW Unit × List MemPlace) :=
  match v with
  | .agg cells => match cells.toList with
    | [.int .i64 a, .int .i64 b, .slice none 0 0] => some (.agg [.lit (.int .i64 a), .lit (.int .i64 b)], [])
    | _ => none
  | _ => none
theorem frm_inv (v : Value) (y : DataW Unit × List MemPlace) (h : frm v = some y) : ∃ p : Int × Int, v = .agg #[.int .i64 p.1, .int .i64 p.2, .slice none 0 0] ∧ y = (.agg [.lit (.int .i64 p.1), .lit (.int .i64 p.2)], []) := by
  unfold frm at h
  cases v <;> try (cases h; done)
  rename_i cells
  simp only at h
  split at h
  · rename_i a b he
    refine ⟨(a, b), ?_, by cases h; rfl⟩
    obtain ⟨l⟩ := cells
    simp only at he
    rw [he]
  · cases h
theorem frm_mk (a b : Int) : frm (.agg #[.int .i64 a, .int .i64 b, .slice none 0 0]) = some (.agg [.lit (.int .i64 a), .lit (.int .i64 b)], []) := rfl
/-- the function of variable v, its bits below j -/
def lf (v : Nat) : Nat → Nat
  | 0 => 0
  | j + 1 => lf v j ||| (((j / 2 ^ v) &&& 1) * 2 ^ j)
/-- the map behind k variables of n -/
def Dl (n : Nat) : Nat → DataW Unit
  | 0 => (DataW.map []).put (.int .i64 0) (.agg [.lit (.int .i64 1), .lit (.int .i64 0)])
  | k + 1 => (Dl n k).put (.int .i64 (lf k (2 ^ n))) (.agg [.lit (.int .i64 0), .lit (.int .i64 k)])
theorem lf_wf : ∀ (v : Fin 3) (n : Fin 4), (Lit.int .i64 (lf v.val (2 ^ n.val))).wf = true := by decide +kernel
theorem bit_step : ∀ (v : Fin 3) (j : Fin 8), bits BinOp.or .i64 (lf v.val j.val : Int) (wrap64 (bits BinOp.and .i64 ((j.val : Int) / 2 ^ v.val) 1 * 2 ^ j.val)) = (lf v.val (j.val + 1) : Int) := by decide +kernel
set_option maxHeartbeats 4000000 in
set_option maxRecDepth 100000 in
theorem leaves_any {w : World} (n : Nat) (hn : n ≤ 3) : Calls Try.prog 56 #[I n] w fun e w' => e = .returned (.map (some w.heap.size)) ∧ w'.ownsMap Try.prog 3 frm w.heap.size (n + 1) (Dl n n) ∧ Below w.heap.size w w' := by
  have hmm := @run_makeMap Try.prog
  have hown0 := World.ownsMap_made w Try.prog 3 frm
  have hb0 : Below w.heap.size w (w.alloc (.map #[] 0)) := (Below.refl _ _).alloc (Nat.le_refl _) _
  have HO := Lib.hid hown0
  have HB := Lib.hid hb0
  have hp : wrap64 ((2 : Int) ^ n) = ((2 ^ n : Nat) : Int) := by
    have : ∀ c : Fin 4, wrap64 ((2 : Int) ^ c.val) = ((2 ^ c.val : Nat) : Int) := by decide +kernel
    exact this ⟨n, by omega⟩
  have h0 : (0 : Int) ≤ n := by omega
  obtain ⟨P, hpw⟩ : ∃ P, P = 2 ^ n := ⟨_, rfl⟩
  rw [← hpw] at hp
  have HPW := Lib.hid hpw
  have hP8 : P ≤ 8 := by
    have : 2 ^ n ≤ 2 ^ 3 := Nat.pow_le_pow_right (by decide) hn
    omega
  clear hpw hown0 hb0
  go_enter Try.func56, Try.ntmps56
  go_wp2_with (first
    | (at_mapUpdate; refine wpList_mapUpdate_own _ rfl _ _ _ 83 rfl 3 46 law3 Try.underlying83 _ w.heap.size 0 _ rfl HO.out (by unfold maxLen; omega) _ _ _ rfl rfl (keyOf_int_mk Try.underlying3 (by decide)) _ [] (frm_mk 1 0) ?_; intro w1 hown1 hgrow1; have HO1 := Lib.hid hown1; have HB1 := Lib.hid (HB.out.grown hgrow1 HB.out.size (fun j hj => by cases hj; exact Nat.le_refl _)); clear hown1 hgrow1)
    | go_in)
  clear HO HB
  go_loopw [14] (fun x wr => ∃ k : Nat, k ≤ n ∧ x = I k ∧ Hid (wr.ownsMap Try.prog 3 frm w.heap.size (k + 1) (Dl n k)) ∧ Hid (Below w.heap.size w wr)) (fun x _ => n - (intOf x).toNat)
  case atStart => exact ⟨0, by omega, rfl, HO1, HB1⟩
  case round =>
    clear HO1 HB1
    obtain ⟨k, hk, rfl, HO, HB⟩ := hrel
    by_cases hkn : k < n
    · have hk0 : (0 : Int) ≤ k := by omega
      go_wp2
      go_loopw [6, 18] (fun x y wc => ∃ j : Nat, j ≤ P ∧ x = I (lf k j) ∧ y = I j ∧ wc = wr) (fun _ y _ => P - (intOf y).toNat)
      case atStart => exact ⟨0, by omega, rfl, rfl, rfl⟩
      case round =>
        obtain ⟨j, hj, rfl, rfl, hwc⟩ := hrel
        rw [hwc]
        clear hwc
        by_cases hjp : j < P
        · have hst := bit_step ⟨k, by omega⟩ ⟨j, by omega⟩
          simp only at hst
          generalize hL : lf k (j + 1) = L1 at *
          generalize lf k j = L0 at *
          go_wp2
          go_roundw
          case rel => exact ⟨j + 1, by omega, by rw [hL], by go_num, by first | rfl | trivial⟩
          case measure => simp [intOf]; omega
        · obtain rfl : j = P := by omega
          have hwf := lf_wf ⟨k, by omega⟩ ⟨n, by omega⟩
          simp only at hwf
          rw [← HPW.out] at hwf
          have hD : Hid (Dl n (k + 1) = (Dl n k).put (.int .i64 (lf k j)) (.agg [.lit (.int .i64 0), .lit (.int .i64 k)])) := Lib.hid (by rw [HPW.out]; rfl)
          have hkey := Lib.hid (keyOf_int_mk Try.underlying3 hwf)
          clear hwf
          generalize lf k j = L0 at *
          go_wp2_with (first
            | (at_mapUpdate; refine wpList_mapUpdate_own _ rfl _ _ _ 83 rfl 3 46 law3 Try.underlying83 _ w.heap.size (k + 1) _ rfl HO.out (by unfold maxLen; omega) _ _ _ rfl rfl hkey.out _ [] (frm_mk 0 k) ?_; intro w2 hown1 hgrow1; have HO2 := Lib.hid hown1; have HB2 := Lib.hid (HB.out.grown hgrow1 HB.out.size (fun j hj => by cases hj; exact Nat.le_refl _)); clear hown1 hgrow1)
            | go_in)
          go_roundw
          case rel => exact ⟨k + 1, by omega, by go_num, Lib.hid (by rw [hD.out]; exact HO2.out), HB2⟩
          case measure => simp [intOf]; omega
    · obtain rfl : k = n := by omega
      go_wp2
      go_ret
      exact ⟨rfl, HO.out, HB.out⟩
end Go.Proofs.Ytpmjpkpaclmpbaa
