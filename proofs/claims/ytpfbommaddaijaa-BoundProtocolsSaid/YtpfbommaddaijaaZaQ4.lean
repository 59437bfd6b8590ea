/- What made builds, plainly; lists and split. -/
import Derived.Test.YtpfbommaddaijaaZax13
import Derived.Test.YtpfbommaddaijaaPBoundTox9
namespace Go.Proofs.Ytpfbommaddaijaa
open Go.RowKit Go.Proofs.YtpfbommaddaijaaW.PrintWords Go.Proofs.YtpfbommaddaijaaW.PrintLast PBoundTo
set_option linter.unusedVariables false
set_option linter.unusedSimpArgs false

/-- the ones and the zeros of a table, j of them from i on -/
def ons (l : List Bool) : Nat → Nat → List Int
  | _, 0 => []
  | i, j + 1 => if l.getD i false = true then (i : Int) :: ons l (i + 1) j else ons l (i + 1) j
def zrs (l : List Bool) : Nat → Nat → List Int
  | _, 0 => []
  | i, j + 1 => if l.getD i false = true then zrs l (i + 1) j else (i : Int) :: zrs l (i + 1) j
theorem ons_mem (l : List Bool) (x : Int) : ∀ j i, x ∈ ons l i j ↔ ∃ m : Nat, x = m ∧ i ≤ m ∧ m < i + j ∧ l.getD m false = true
  | 0, i => by simp [ons]; intro m _ h1 h2; omega
  | j + 1, i => by
    rw [ons]
    by_cases e : l.getD i false = true
    · rw [if_pos e, List.mem_cons, ons_mem l x j (i + 1)]
      constructor
      · rintro (h | ⟨m, h1, h2, h3, h4⟩)
        · exact ⟨i, h, by omega, by omega, e⟩
        · exact ⟨m, h1, by omega, by omega, h4⟩
      · rintro ⟨m, h1, h2, h3, h4⟩
        by_cases hm : m = i
        · exact .inl (by rw [h1, hm])
        · exact .inr ⟨m, h1, by omega, by omega, h4⟩
    · rw [if_neg e, ons_mem l x j (i + 1)]
      constructor
      · rintro ⟨m, h1, h2, h3, h4⟩; exact ⟨m, h1, by omega, by omega, h4⟩
      · rintro ⟨m, h1, h2, h3, h4⟩
        have hm : m ≠ i := fun h => e (by rw [← h]; exact h4)
        exact ⟨m, h1, by omega, by omega, h4⟩
theorem zrs_mem (l : List Bool) (x : Int) : ∀ j i, x ∈ zrs l i j ↔ ∃ m : Nat, x = m ∧ i ≤ m ∧ m < i + j ∧ l.getD m false = false
  | 0, i => by simp [zrs]; intro m _ h1 h2; omega
  | j + 1, i => by
    rw [zrs]
    by_cases e : l.getD i false = true
    · rw [if_pos e, zrs_mem l x j (i + 1)]
      constructor
      · rintro ⟨m, h1, h2, h3, h4⟩; exact ⟨m, h1, by omega, by omega, h4⟩
      · rintro ⟨m, h1, h2, h3, h4⟩
        have hm : m ≠ i := fun h => by rw [h, e] at h4; cases h4
        exact ⟨m, h1, by omega, by omega, h4⟩
    · rw [if_neg e, List.mem_cons, zrs_mem l x j (i + 1)]
      constructor
      · rintro (h | ⟨m, h1, h2, h3, h4⟩)
        · exact ⟨i, h, by omega, by omega, Bool.eq_false_iff.2 e⟩
        · exact ⟨m, h1, by omega, by omega, h4⟩
      · rintro ⟨m, h1, h2, h3, h4⟩
        by_cases hm : m = i
        · exact .inl (by rw [h1, hm])
        · exact .inr ⟨m, h1, by omega, by omega, h4⟩
theorem lists_ev (l : List Bool) (hl : l.length ≤ 8192) : ∀ (j i : Nat) (p q : List Int), l.length - i = j → i ≤ l.length → p.length + j ≤ 8192 → q.length + j ≤ 8192 → Ev (fun k => bound_lists.l0 k p q l (l.length : Int) i) (p ++ ons l i j, q ++ zrs l i j)
  | 0, i, p, q, hj, hi, hp, hq => by
    rw [ons, zrs, List.append_nil, List.append_nil]
    refine Ev.step (f := fun _ => some (p, q)) (fun k => ?_) (Ev.now _)
    simp only [bound_lists.l0]
    rw [if_neg (by omega)]
  | j + 1, i, p, q, hj, hi, hp, hq => by
    have hil : i < l.length := by omega
    have c1 : (i : Int) < (l.length : Int) := Int.ofNat_lt.2 hil
    have c0 : (0 : Int) ≤ (i : Int) := Int.natCast_nonneg i
    have hr : rdOf false l (i : Int) = l.getD i false := by simp only [rdOf, Int.toNat_natCast]
    have cp : p.length < 17592186044416 := by omega
    have cq : q.length < 17592186044416 := by omega
    have h1 := lists_ev l hl j (i + 1) (p ++ [(i : Int)]) q (by omega) (by omega) (by simp; omega) (by omega)
    have h2 := lists_ev l hl j (i + 1) p (q ++ [(i : Int)]) (by omega) (by omega) (by omega) (by simp; omega)
    have hw : wrap64 ((i : Int) + 1) = ((i + 1 : Nat) : Int) := wr_lt hil (by omega)
    rw [ons, zrs]
    by_cases e : l.getD i false = true
    · rw [if_pos e, if_pos e]
      refine Ev.step (fun k => ?_) (by rw [List.append_assoc] at h1; exact h1)
      simp only [bound_lists.l0]
      rw [if_pos c1, if_pos c0, if_pos c1, hr, if_pos e, if_pos cp, hw]
    · rw [if_neg e, if_neg e]
      refine Ev.step (fun k => ?_) (by rw [List.append_assoc] at h2; exact h2)
      simp only [bound_lists.l0]
      rw [if_pos c1, if_pos c0, if_pos c1, hr, if_neg e, if_pos cq, hw]
/-- a list, split -/
def zs (ask : List Bool) (xs : List Int) : List Int := xs.filter fun x => !ask.getD x.toNat false
def os (ask : List Bool) (xs : List Int) : List Int := xs.filter fun x => ask.getD x.toNat false
theorem split_ev (ask : List Bool) (xs : List Int) (hl : xs.length ≤ 8192) (hx : ∀ x ∈ xs, 0 ≤ x ∧ x < ask.length) : ∀ (j i : Nat) (p q : List Int), xs.length - i = j → i ≤ xs.length → p.length + j ≤ 8192 → q.length + j ≤ 8192 → Ev (fun k => bound_split.l0 k ask p q xs (xs.length : Int) i) (p ++ zs ask (xs.drop i), q ++ os ask (xs.drop i))
  | 0, i, p, q, hj, hi, hp, hq => by
    have : i = xs.length := by omega
    rw [this, List.drop_length]
    simp only [zs, os, List.filter_nil, List.append_nil]
    refine Ev.step (f := fun _ => some (p, q)) (fun k => ?_) (Ev.now _)
    simp only [bound_split.l0]
    rw [if_neg (by omega)]
  | j + 1, i, p, q, hj, hi, hp, hq => by
    have hil : i < xs.length := by omega
    have c1 : (i : Int) < (xs.length : Int) := Int.ofNat_lt.2 hil
    have c0 : (0 : Int) ≤ (i : Int) := Int.natCast_nonneg i
    have hrd : rd xs (i : Int) = xs[i] := by simp [rd, List.getD, hil]
    obtain ⟨x0, x1⟩ := hx xs[i] (List.getElem_mem hil)
    have hr : rdOf false ask xs[i] = ask.getD xs[i].toNat false := rfl
    have cp : p.length < 17592186044416 := by omega
    have cq : q.length < 17592186044416 := by omega
    have h1 := split_ev ask xs hl hx j (i + 1) p (q ++ [xs[i]]) (by omega) (by omega) (by omega) (by simp; omega)
    have h2 := split_ev ask xs hl hx j (i + 1) (p ++ [xs[i]]) q (by omega) (by omega) (by simp; omega) (by omega)
    have hw : wrap64 ((i : Int) + 1) = ((i + 1 : Nat) : Int) := wr_lt hil (by omega)
    have hd : xs.drop i = xs[i] :: xs.drop (i + 1) := List.drop_eq_getElem_cons hil
    rw [hd]
    by_cases e : ask.getD xs[i].toNat false = true
    · have e1 : zs ask (xs[i] :: xs.drop (i + 1)) = zs ask (xs.drop (i + 1)) := by unfold zs; rw [List.filter_cons_of_neg (by rw [e]; decide)]
      have e2 : os ask (xs[i] :: xs.drop (i + 1)) = xs[i] :: os ask (xs.drop (i + 1)) := List.filter_cons_of_pos (p := fun x : Int => ask.getD x.toNat false) e
      rw [e1, e2]
      refine Ev.step (fun k => ?_) (by rw [List.append_assoc] at h1; exact h1)
      simp only [bound_split.l0]
      rw [if_pos c1, if_pos c0, if_pos c1, hrd, if_pos x0, if_pos x1, hr, if_pos e, if_pos cq, hw]
    · have e1 : zs ask (xs[i] :: xs.drop (i + 1)) = xs[i] :: zs ask (xs.drop (i + 1)) := by unfold zs; rw [List.filter_cons_of_pos (by rw [Bool.eq_false_iff.2 e]; rfl)]
      have e2 : os ask (xs[i] :: xs.drop (i + 1)) = os ask (xs.drop (i + 1)) := List.filter_cons_of_neg (p := fun x : Int => ask.getD x.toNat false) e
      rw [e1, e2]
      refine Ev.step (fun k => ?_) (by rw [List.append_assoc] at h2; exact h2)
      simp only [bound_split.l0]
      rw [if_pos c1, if_pos c0, if_pos c1, hrd, if_pos x0, if_pos x1, hr, if_neg e, if_pos cp, hw]
/-- two lists answered -/
def Two (W : World) (p q : List Int) (e : Ending) (w' : World) : Prop := ∃ A B c d, e = .returned (.tuple #[.slice A p.length c, .slice B q.length d]) ∧ Kd.C (Kd.int .i64) w' A p.length p ∧ Kd.C (Kd.int .i64) w' B q.length q ∧ p.length ≤ c ∧ q.length ≤ d ∧ Below W.heap.size W w'
theorem lists_any {W : World} {A : Option Addr} {c : Nat} {l : List Bool} (h : Kd.C Kd.bool W A l.length l) (hc : l.length ≤ c) (hl : l.length ≤ 8192) : Calls Try.prog 134 #[.slice A l.length c] W (Two W (ons l 0 l.length) (zrs l 0 l.length)) := by
  obtain ⟨k, hk⟩ := (lists_ev l hl l.length 0 [] [] (by omega) (by omega) (by simp; omega) (by simp; omega)).rounds
  refine (bound_lists.calls k A c l _ _ W h hc hk).mono fun e W' => ?_
  rintro ⟨v0, v1, rfl, r0, r1, hb⟩
  obtain ⟨A0, d0, rfl, g0, g1⟩ := Kd.R_reads r0
  obtain ⟨A1, d1, rfl, g2, g3⟩ := Kd.R_reads r1
  exact ⟨A0, A1, d0, d1, rfl, g1, g3, g0, g2, hb⟩
theorem split_any {W : World} {A B : Option Addr} {c d : Nat} {ask : List Bool} {xs : List Int} (h : Kd.C (Kd.int .i64) W A xs.length xs) (hc : xs.length ≤ c) (h' : Kd.C Kd.bool W B ask.length ask) (hd : ask.length ≤ d) (hl : xs.length ≤ 8192) (hx : ∀ x ∈ xs, 0 ≤ x ∧ x < ask.length) : Calls Try.prog 150 #[.slice A xs.length c, .slice B ask.length d] W (Two W (zs ask xs) (os ask xs)) := by
  obtain ⟨k, hk⟩ := (split_ev ask xs hl hx xs.length 0 [] [] (by omega) (by omega) (by simp; omega) (by simp; omega)).rounds
  refine (bound_split.calls k A c xs B d ask _ _ W h hc h' hd hk).mono fun e W' => ?_
  rintro ⟨v0, v1, rfl, r0, r1, hb⟩
  obtain ⟨A0, d0, rfl, g0, g1⟩ := Kd.R_reads r0
  obtain ⟨A1, d1, rfl, g2, g3⟩ := Kd.R_reads r1
  exact ⟨A0, A1, d0, d1, rfl, g1, g3, g0, g2, hb⟩
/-- what made answers: a formula, and whether the protocol solves the pairs -/
def comb (k : Int) (x y : Fx × Bool) : Fx × Bool := if (x.2 && y.2) = true then (.bin k x.1 y.1, true) else (.leaf 0 0, false)
def md : Pt → List Int → List Int → Fx × Bool
  | .leaf v, a, b => if a.length = 0 then (.leaf 1 0, true) else if b.length = 0 then (.leaf 1 1, true) else
      (if (a.getD 0 0).toNat.testBit v.toNat = true then .leaf 0 v else .not (.leaf 0 v), !anyb v.toNat ((a.getD 0 0).toNat.testBit v.toNat) a && !anyb v.toNat (!(a.getD 0 0).toNat.testBit v.toNat) b)
  | .node pl ask l r, a, b => if a.length = 0 then (.leaf 1 0, true) else if b.length = 0 then (.leaf 1 1, true) else
      if pl = 1 then comb 3 (md l a (zs ask b)) (md r a (os ask b)) else comb 4 (md l (zs ask a) b) (md r (os ask a) b)
/-- made's answer, in memory -/
def MR (W : World) (q : Fx × Bool) (e : Ending) (w' : World) : Prop := ∃ k n A l c, e = .returned (.tuple #[.agg #[I k, I n, .slice A l c], .bool q.2]) ∧ FmS W.heap.size w'.heap.size w' q.1 [I k, I n, .slice A l c] ∧ Below W.heap.size W w'
end Go.Proofs.Ytpfbommaddaijaa

