/- Plain: the printed functions of the law Nechiporuk: wide, lists, Blocks, Floor; Nechiporuk. -/
import Derived.Test.YtpfbommaddaijaaZfN1
import Derived.Test.YtpfbommaddaijaaZfPBoundNechiporukx0
namespace Go.Proofs.Ytpfbommaddaijaa
open Go.RowKit Go.Proofs.YtpfbommaddaijaaW.PrintWords PBoundNechiporuk
set_option linter.unusedVariables false
set_option linter.unusedSimpArgs false

/-- lists of numbers that fit into memory -/
structure Sm (l : List (List Int)) : Prop where
  len : l.length < 5864062014805
  each : ∀ i, (l.getD i []).length < 17592186044416
theorem take_next (l : List (List Int)) {i : Nat} (h : i < l.length) : l.take (i + 1) = l.take i ++ [l.getD i []] := by
  rw [List.take_add_one, List.getElem?_eq_getElem h]
  simp [List.getD, h]
/-- what is asked of the numbers of one block, behind those that were met -/
def lePrev (p : Option Int) (v : Int) : Bool := match p with
  | none => false
  | some q => decide (v ≤ q)
def rowChk (n : Int) : List Int → Option Int → List Int → Option (List Int)
  | met, _, [] => some met
  | met, p, v :: r => if v < 0 ∨ n ≤ v ∨ v ∈ met ∨ lePrev p v = true then none else rowChk n (v :: met) (some v) r
def blkChk (n : Int) : List Int → List (List Int) → Bool
  | _, [] => true
  | met, l :: r => if l = [] then false else match rowChk n met none l with
    | none => false
    | some m => blkChk n m r
/-- the marks say what was met -/
def Mk (n : Int) (B : List Bool) (met : List Int) : Prop := (B.length : Int) = n ∧ ∀ v, 0 ≤ v → v < n → rdOf false B v = decide (v ∈ met)
def prev (r : List Int) (j : Nat) : Option Int := if j = 0 then none else some (r.getD (j - 1) 0)
theorem drop_next (r : List Int) {j : Nat} (h : j < r.length) : r.drop j = r.getD j 0 :: r.drop (j + 1) := by
  rw [List.drop_eq_getElem_cons h]
  simp [List.getD, h]
theorem drop_nextL (r : List (List Int)) {j : Nat} (h : j < r.length) : r.drop j = r.getD j [] :: r.drop (j + 1) := by
  rw [List.drop_eq_getElem_cons h]
  simp [List.getD, h]
theorem Mk.set {n : Int} {B : List Bool} {met : List Int} (h : Mk n B met) {v : Int} (h0 : 0 ≤ v) (h1 : v < n) : Mk n (B.set v.toNat true) (v :: met) := by
  refine ⟨by rw [List.length_set]; exact h.1, fun u u0 u1 => ?_⟩
  have hl := h.1
  rw [rdOf, List.getD_eq_getElem?_getD, List.getElem?_set]
  by_cases e : v.toNat = u.toNat
  · have : v = u := by omega
    subst this
    rw [if_pos e, if_pos (by omega)]
    simp
  · have : u ≠ v := by omega
    have hh := h.2 u u0 u1
    rw [rdOf, List.getD_eq_getElem?_getD] at hh
    rw [if_neg e, hh]
    simp [this]
end Go.Proofs.Ytpfbommaddaijaa
namespace Go.Proofs.Ytpfbommaddaijaa
open Go.RowKit Go.Proofs.YtpfbommaddaijaaW.PrintWords PBoundNechiporuk
set_option linter.unusedVariables false
set_option linter.unusedSimpArgs false

/-- the places of a block -/
def pl (r : List Int) (i : Nat) : Nat := if i < r.length then (r.getD i 0).toNat else 0
theorem row_ok {n : Int} : ∀ {r : List Int} {met : List Int} {p : Option Int} {m : List Int}, rowChk n met p r = some m →
    (∀ i, i < r.length → 0 ≤ r.getD i 0 ∧ r.getD i 0 < n) ∧ (∀ i, i + 1 < r.length → r.getD i 0 < r.getD (i + 1) 0) ∧ m = r.reverse ++ met
  | [], met, p, m, h => by
    simp [rowChk] at h
    subst h
    exact ⟨fun i hi => by simp at hi, fun i hi => by simp at hi, rfl⟩
  | v :: r, met, p, m, h => by
    rw [rowChk] at h
    by_cases c : v < 0 ∨ n ≤ v ∨ v ∈ met ∨ lePrev p v = true
    · rw [if_pos c] at h; cases h
    · rw [if_neg c] at h
      obtain ⟨h1, h2, h3⟩ := row_ok h
      have c1 : 0 ≤ v := by by_cases e : v < 0; exact absurd (.inl e) c; omega
      have c2 : v < n := by by_cases e : n ≤ v; exact absurd (.inr (.inl e)) c; omega
      refine ⟨fun i hi => ?_, fun i hi => ?_, by rw [h3]; simp⟩
      · cases i with
        | zero => exact ⟨by simpa using c1, by simpa using c2⟩
        | succ i => simpa using h1 i (by simpa using hi)
      · cases i with
        | zero =>
          cases r with
          | nil => simp at hi
          | cons u r' =>
            rw [rowChk] at h
            by_cases e : u < 0 ∨ n ≤ u ∨ u ∈ v :: met ∨ lePrev (some v) u = true
            · rw [if_pos e] at h; cases h
            · have : ¬ u ≤ v := fun hh => e (.inr (.inr (.inr (by simpa [lePrev] using hh))))
              simp
              omega
        | succ i => simpa using h2 i (by simpa using hi)
theorem row_rise {r : List Int} {n : Nat} (h1 : ∀ i, i < r.length → 0 ≤ r.getD i 0 ∧ r.getD i 0 < n) (h2 : ∀ i, i + 1 < r.length → r.getD i 0 < r.getD (i + 1) 0) : ∀ j i, i < j → j < r.length → r.getD i 0 < r.getD j 0
  | 0, i, hij, hj => by omega
  | j + 1, i, hij, hj => by
    have := h2 j hj
    by_cases e : i = j
    · subst e; exact this
    · have := row_rise h1 h2 j i (by omega) (by omega); omega
theorem row_blk {r : List Int} {n : Nat} {met m : List Int} {p : Option Int} (h : rowChk n met p r = some m) (hr : r ≠ []) : Blk (fun i => r.getD i 0) (pl r) r.length n ∧ r.length ≤ n := by
  obtain ⟨h1, h2, _⟩ := row_ok h
  have hl : 0 < r.length := List.length_pos_iff.2 hr
  have hn := h1 0 hl
  have hrise := row_rise h1 h2
  refine ⟨⟨fun i hi => ?_, fun i => ?_, fun i j hij hj => ?_⟩, ?_⟩
  · have := h1 i hi
    simp only [pl, if_pos hi]
    omega
  · unfold pl
    split
    · rename_i hi
      have := h1 i hi
      omega
    · omega
  · have a := h1 i (by omega)
    have b := h1 j hj
    have c := hrise j i hij hj
    rw [pl, pl, if_pos (by omega), if_pos hj]
    omega
  · have low : ∀ i, i < r.length → (i : Int) ≤ r.getD i 0 := fun i => by
      induction i with
      | zero => intro hi; have := h1 0 hi; omega
      | succ i ih => intro hi; have := h2 i hi; have := ih (by omega); omega
    have := low (r.length - 1) (by omega)
    have := h1 (r.length - 1) (by omega)
    omega
/-- how many functions of a block -/
noncomputable def cntR (f : Nat → Bool) (n : Nat) (r : List Int) : Nat := cnt (out (pl r) r.length) (prt f (pl r) r.length) (2 ^ n)
theorem cntR_pos (f : Nat → Bool) (n : Nat) (r : List Int) : 1 ≤ cntR f n r := by
  have h : ∀ k, 1 ≤ cnt (out (pl r) r.length) (prt f (pl r) r.length) (k + 1) := fun k => by
    induction k with
    | zero => rw [cnt, if_pos ⟨by simp [out], fun ⟨j, hj, _⟩ => by omega⟩]; omega
    | succ k ih => rw [cnt]; split <;> omega
  have := h (2 ^ n - 1)
  rwa [Nat.sub_add_cancel (Nat.two_pow_pos n)] at this
theorem cntR_le (f : Nat → Bool) {n : Nat} (hn : n ≤ 12) (r : List Int) : cntR f n r ≤ 4096 := Nat.le_trans (cnt_le _ _ _) (Nat.pow_le_pow_right (n := 2) (by decide) hn)
/-- the numbers, and the sum of their logarithms -/
noncomputable def cnts (f : Nat → Bool) (n : Nat) (l : List (List Int)) : List Int := l.map fun r => (cntR f n r : Int)
noncomputable def sums (f : Nat → Bool) (n : Nat) : List (List Int) → Int
  | [] => 0
  | r :: l => ((bl 13 (cntR f n r) : Nat) : Int) - 1 + sums f n l
theorem blk_row {n : Int} : ∀ {l : List (List Int)} {met : List Int}, blkChk n met l = true → ∀ i, i < l.length → l.getD i [] ≠ [] ∧ ∃ met' m, rowChk n met' none (l.getD i []) = some m
  | [], _, _, i, hi => by simp at hi
  | r :: l, met, h, i, hi => by
    rw [blkChk] at h
    by_cases e : r = []
    · rw [if_pos e] at h; cases h
    · rw [if_neg e] at h
      cases hr : rowChk n met none r with
      | none => rw [hr] at h; cases h
      | some m =>
        rw [hr] at h
        cases i with
        | zero => exact ⟨by simpa using e, met, m, by simpa using hr⟩
        | succ i => simpa using blk_row h i (by simpa using hi)
theorem rowAt {w : World} {A : Option Addr} {k : Nat} {l : List (List Int)} (h : Kd.C (Kd.slice 3 (Kd.int .i64)) w A k l) {i : Nat} (hi : i < k) :
    ∃ ad A0 c0, A = some ad ∧ w.cell? (ad.add i) = some (.slice A0 (l.getD i []).length c0) ∧ Nm w (.slice A0 (l.getD i []).length c0) (l.getD i []).length (fun j => (l.getD i []).getD j 0) := by
  obtain ⟨ad, A0, c0, e1, e2, _, e4⟩ := at_L2 h i (by omega) (by omega)
  refine ⟨ad, A0, c0, e1, ?_, A0, c0, rfl, fun j hj => ?_⟩
  · simpa [rd_L2] using e2
  · obtain ⟨b, h1, h2⟩ := Kd.at_int e4 j (by omega) (by simpa [rd_L2] using hj)
    exact ⟨b, h1, by simpa [rd, rd_L2] using h2⟩
end Go.Proofs.Ytpfbommaddaijaa

