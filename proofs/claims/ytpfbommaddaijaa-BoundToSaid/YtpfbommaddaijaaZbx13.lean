/- Plain: made tells whether the protocol solves the pairs, and its formula has the table; what bound.Solves answers; What bound.Solves answers; Formulas of any shape: what they count, and what formula's node and walk answer. -/
import Derived.Test.YtpfbommaddaijaaZbx12
import Derived.Test.YtpfbommaddaijaaZbPa
namespace Go.Proofs.Ytpfbommaddaijaa
open Go.RowKit Go.Proofs.YtpfbommaddaijaaW.PrintWords Go.Proofs.YtpfbommaddaijaaW.PrintLast PBoundTo
set_option linter.unusedVariables false
set_option linter.unusedSimpArgs false

theorem not_anyb {v : Nat} {is : Bool} {xs : List Int} : (!anyb v is xs) = true ↔ ∀ x ∈ xs, x.toNat.testBit v = is := by
  unfold anyb
  rw [Bool.not_eq_true', List.any_eq_false]
  constructor
  · intro h x hx
    have := h x hx
    cases e : x.toNat.testBit v <;> cases is <;> simp_all
  · intro h x hx
    rw [h x hx]
    simp
theorem zs_iff {ask : List Bool} {xs : List Int} {x : Int} : x ∈ zs ask xs ↔ x ∈ xs ∧ ask.getD x.toNat false = false := by
  unfold zs; rw [List.mem_filter]; simp
theorem os_iff {ask : List Bool} {xs : List Int} {x : Int} : x ∈ os ask xs ↔ x ∈ xs ∧ ask.getD x.toNat false = true := by
  unfold os; rw [List.mem_filter]
theorem comb_snd {k : Int} {f g : Fx × Bool} : (comb k f g).2 = true ↔ f.2 = true ∧ g.2 = true := by
  unfold comb
  split
  · rename_i h; simp only [Bool.and_eq_true] at h; simp [h]
  · rename_i h; simp only [Bool.and_eq_true] at h; simp; intro h1; cases e : g.2 with
    | false => rfl
    | true => exact absurd ⟨h1, e⟩ h
theorem md_ok : ∀ (t : Pt) {n : Nat}, t.ok n → ∀ (a b : List Int), (md t a b).2 = true ↔ ∀ x ∈ a, ∀ y ∈ b, apt t x.toNat y.toNat = true
  | .leaf v, n, ho, a, b => by
    rw [md]
    by_cases ea : a.length = 0
    · rw [if_pos ea, List.eq_nil_of_length_eq_zero ea]; simp
    rw [if_neg ea]
    by_cases eb : b.length = 0
    · rw [if_pos eb, List.eq_nil_of_length_eq_zero eb]; simp
    rw [if_neg eb]
    obtain ⟨ho1, ho2⟩ := ho
    have hm : a.getD 0 0 ∈ a := by
      rw [show a.getD 0 0 = a[0]'(by omega) by simp [List.getD, show 0 < a.length by omega]]
      exact List.getElem_mem _
    obtain ⟨b0, hb0⟩ : ∃ y, y ∈ b := ⟨b[0]'(by omega), List.getElem_mem _⟩
    generalize a.getD 0 0 = a0 at hm ⊢
    simp only [Bool.and_eq_true, not_anyb, apt, Pt.run, Nat.testBit_xor]
    constructor
    · rintro ⟨h1, h2⟩ x hx y hy
      rw [h1 x hx, h2 y hy]
      cases a0.toNat.testBit v.toNat <;> rfl
    · intro h
      refine ⟨fun x hx => ?_, fun y hy => ?_⟩
      · have q1 := h x hx b0 hb0
        have q2 := h a0 hm b0 hb0
        cases e1 : x.toNat.testBit v.toNat <;> cases e2 : b0.toNat.testBit v.toNat <;> cases e3 : a0.toNat.testBit v.toNat <;> simp_all
      · have q2 := h a0 hm y hy
        cases e2 : y.toNat.testBit v.toNat <;> cases e3 : a0.toNat.testBit v.toNat <;> simp_all
  | .node pl ask l r, n, ho, a, b => by
    rw [md]
    by_cases ea : a.length = 0
    · rw [if_pos ea, List.eq_nil_of_length_eq_zero ea]; simp
    rw [if_neg ea]
    by_cases eb : b.length = 0
    · rw [if_pos eb, List.eq_nil_of_length_eq_zero eb]; simp
    rw [if_neg eb]
    obtain ⟨ho1, ho2, ho3, ho4⟩ := ho
    rcases ho1 with rfl | rfl
    · rw [if_neg (by decide), comb_snd, md_ok l ho3, md_ok r ho4]
      unfold apt
      simp only [Pt.run0]
      constructor
      · rintro ⟨h1, h2⟩ x hx y hy
        cases e : ask.getD x.toNat false with
        | true => rw [if_pos rfl]; exact h2 x (os_iff.2 ⟨hx, e⟩) y hy
        | false => rw [if_neg (by decide)]; exact h1 x (zs_iff.2 ⟨hx, e⟩) y hy
      · intro h
        refine ⟨fun x hx y hy => ?_, fun x hx y hy => ?_⟩
        · obtain ⟨h1, h2⟩ := zs_iff.1 hx
          have := h x h1 y hy
          rwa [if_neg (by rw [h2]; decide)] at this
        · obtain ⟨h1, h2⟩ := os_iff.1 hx
          have := h x h1 y hy
          rwa [if_pos h2] at this
    · rw [if_pos rfl, comb_snd, md_ok l ho3, md_ok r ho4]
      unfold apt
      simp only [Pt.run1]
      constructor
      · rintro ⟨h1, h2⟩ x hx y hy
        cases e : ask.getD y.toNat false with
        | true => rw [if_pos rfl]; exact h2 x hx y (os_iff.2 ⟨hy, e⟩)
        | false => rw [if_neg (by decide)]; exact h1 x hx y (zs_iff.2 ⟨hy, e⟩)
      · intro h
        refine ⟨fun x hx y hy => ?_, fun x hx y hy => ?_⟩
        · obtain ⟨h1, h2⟩ := zs_iff.1 hy
          have := h x hx y h1
          rwa [if_neg (by rw [h2]; decide)] at this
        · obtain ⟨h1, h2⟩ := os_iff.1 hy
          have := h x hx y h1
          rwa [if_pos h2] at this
/-- on the ones and the zeros of a table: as the reference's Solves -/
theorem md_slv {t : Pt} {n : Nat} (ho : t.ok n) (l : List Bool) : (md t (ons l 0 l.length) (zrs l 0 l.length)).2 = slv t l := by
  rw [Bool.eq_iff_iff, md_ok t ho]
  unfold slv
  rw [allF_iff]
  constructor
  · intro h x _ hx
    cases e : l.getD x false with
    | false => rfl
    | true =>
      simp only [Bool.not_true, Bool.false_or]
      rw [allF_iff]
      intro y _ hy
      cases e2 : l.getD y false with
      | true => rfl
      | false =>
        have := h (x : Int) ((ons_mem l x _ _).2 ⟨x, rfl, by omega, hx, e⟩) (y : Int) ((zrs_mem l y _ _).2 ⟨y, rfl, by omega, hy, e2⟩)
        simpa using this
  · intro h x hx y hy
    obtain ⟨m, rfl, _, h1, h2⟩ := (ons_mem l x _ _).1 hx
    obtain ⟨k, rfl, _, h3, h4⟩ := (zrs_mem l y _ _).1 hy
    have q := h m (by omega) h1
    rw [h2] at q
    simp only [Bool.not_true, Bool.false_or] at q
    have q2 := (allF_iff _ _ _).1 q k (by omega) h3
    rw [h4] at q2
    simpa using q2
/-- its formula has the table -/
theorem md_val : ∀ (t : Pt) {n : Nat}, t.ok n → ∀ (a b : List Int), (md t a b).2 = true → (∀ x ∈ a, (md t a b).1.val x.toNat = true) ∧ (∀ y ∈ b, (md t a b).1.val y.toNat = false)
  | .leaf v, n, ho, a, b => by
    rw [md]
    by_cases ea : a.length = 0
    · rw [if_pos ea, List.eq_nil_of_length_eq_zero ea]
      intro _
      exact ⟨fun x h => by simp at h, fun y _ => by simp [Fx.val]⟩
    rw [if_neg ea]
    by_cases eb : b.length = 0
    · rw [if_pos eb, List.eq_nil_of_length_eq_zero eb]
      intro _
      exact ⟨fun x _ => by simp [Fx.val], fun y h => by simp at h⟩
    rw [if_neg eb]
    generalize a.getD 0 0 = a0
    simp only [Bool.and_eq_true, not_anyb]
    rintro ⟨h1, h2⟩
    cases e : a0.toNat.testBit v.toNat with
    | true =>
      rw [e] at h1 h2
      refine ⟨fun x hx => ?_, fun y hy => ?_⟩
      · simp [Fx.val, h1 x hx]
      · simp [Fx.val, h2 y hy]
    | false =>
      rw [e] at h1 h2
      refine ⟨fun x hx => ?_, fun y hy => ?_⟩
      · simp [Fx.val, h1 x hx]
      · simp [Fx.val, h2 y hy]
  | .node pl ask l r, n, ho, a, b => by
    rw [md]
    by_cases ea : a.length = 0
    · rw [if_pos ea, List.eq_nil_of_length_eq_zero ea]
      intro _
      exact ⟨fun x h => by simp at h, fun y _ => by simp [Fx.val]⟩
    rw [if_neg ea]
    by_cases eb : b.length = 0
    · rw [if_pos eb, List.eq_nil_of_length_eq_zero eb]
      intro _
      exact ⟨fun x _ => by simp [Fx.val], fun y h => by simp at h⟩
    rw [if_neg eb]
    obtain ⟨ho1, ho2, ho3, ho4⟩ := ho
    rcases ho1 with rfl | rfl
    · rw [if_neg (by decide)]
      intro h
      obtain ⟨h1, h2⟩ := comb_snd.1 h
      obtain ⟨p1, p2⟩ := md_val l ho3 _ _ h1
      obtain ⟨r1, r2⟩ := md_val r ho4 _ _ h2
      rw [comb_2 h1 h2]
      refine ⟨fun x hx => ?_, fun y hy => ?_⟩
      · cases e : ask.getD x.toNat false with
        | true => simp [Fx.val, r1 x (os_iff.2 ⟨hx, e⟩)]
        | false => simp [Fx.val, p1 x (zs_iff.2 ⟨hx, e⟩)]
      · simp [Fx.val, p2 y hy, r2 y hy]
    · rw [if_pos rfl]
      intro h
      obtain ⟨h1, h2⟩ := comb_snd.1 h
      obtain ⟨p1, p2⟩ := md_val l ho3 _ _ h1
      obtain ⟨r1, r2⟩ := md_val r ho4 _ _ h2
      rw [comb_2 h1 h2]
      refine ⟨fun x hx => ?_, fun y hy => ?_⟩
      · simp [Fx.val, p1 x hx, r1 x hx]
      · cases e : ask.getD y.toNat false with
        | true => simp [Fx.val, r2 y (os_iff.2 ⟨hy, e⟩)]
        | false => simp [Fx.val, p2 y (zs_iff.2 ⟨hy, e⟩)]
end Go.Proofs.Ytpfbommaddaijaa

namespace Go.Proofs.Ytpfbommaddaijaa
open Go.RowKit Go.Proofs.YtpfbommaddaijaaW.PrintWords Go.Proofs.YtpfbommaddaijaaW.PrintLast PBoundTo
set_option linter.unusedVariables false
set_option linter.unusedSimpArgs false

theorem rinF_pow {k : Nat} : ∀ j x, x ≤ k → k < x + j → rinF (2 ^ k) x j = k
  | 0, x, h1, h2 => by omega
  | j + 1, x, h1, h2 => by
    rw [rinF]
    by_cases e : k = x
    · rw [if_pos (by rw [e]), e]
    · rw [if_neg (fun h => e ((Nat.pow_right_inj (by decide)).1 h)), rinF_pow j (x + 1) (by omega) (by omega)]
theorem rin_pow {k : Nat} (h : k ≤ 12) : rin (2 ^ k) = k := rinF_pow 13 0 (by omega) (by omega)
theorem rinF_le (len : Nat) : ∀ j x, rinF len x j < ((x + j : Nat) : Int)
  | 0, x => by rw [rinF]; omega
  | j + 1, x => by
    rw [rinF]
    split
    · omega
    · have := rinF_le len j (x + 1); omega
theorem rin_le (len : Nat) : rin len ≤ 12 := by have := rinF_le len 13 0; unfold rin; omega
/-- solved, where the table or the protocol does not fit -/
theorem solved_bad {W : World} {x : S32} {A3 A4 ta : Option Addr} {c3 c4 len tc : Nat} (hlen : len < 8192) (hbad : rin len < 1 ∨ vld (rin len) x = false) (h3 : Kd.C Kd.bool W A3 x.f3.length x.f3) (h4 : Kd.C k32 W A4 x.f4.length x.f4) :
    Calls Try.prog 100 #[.agg #[.bool x.f0, I x.f1, I x.f2, .slice A3 x.f3.length c3, .slice A4 x.f4.length c4], .slice ta len tc] W fun e w' => e = .returned (.tuple #[.agg #[I 0, I 0, .slice none 0 0], .bool false, I 1]) ∧ Below W.heap.size W w' := by
  have HIN : ∀ (n : Int) (ok : Bool), Inp len n ok → ∀ w' : World, Calls Try.prog 84 #[.slice ta len tc] w' fun e w'' => e = .returned (.tuple #[I n, .bool ok]) ∧ Below w'.heap.size w' w'' := fun n ok hi w' => (inputs_any (w := w') (a := ta) (cap := tc) hlen hi).mono fun e w'' ⟨h1, m, h2⟩ => ⟨h1, by rw [h2]; exact pw_below_drewN (Below.refl _ _) m⟩
  by_cases hr : rin len < 1
  · obtain ⟨n, ok, hi⟩ : ∃ n ok, Inp len n ok := ⟨(bl 13 len : Int) - 1, decide (0 ≤ (bl 13 len : Int) - 1 ∧ len = 2 ^ ((bl 13 len : Int) - 1).toNat), rfl, by simp⟩
    cases ok with
    | false => exact sol_no (HIN n false hi) rfl
    | true =>
      obtain ⟨h0, h1⟩ := hi.2.1 rfl
      have hn : n < 1 := by
        have h12 : n.toNat ≤ 12 := by
          have : n = (bl 13 len : Int) - 1 := hi.1
          have := bl_le 13 len
          omega
        rw [h1, rin_pow h12] at hr
        omega
      exact sol_low (HIN n true hi) rfl (decide_eq_true hn)
  · obtain ⟨n, hn, hl⟩ := rin_spec (show 1 ≤ rin len by omega)
    have h12 := rin_le len
    have hv : vld (rin len) x = false := by rcases hbad with h | h; exact absurd h hr; exact h
    have hi : Inp len (n : Int) true := by rw [hl]; exact inp_pow (by omega)
    rw [hn] at hv
    exact sol_bad (HIN n true hi) rfl (decide_eq_false (by omega)) (fun w' hW => by have h := bValid_any (W := w') (x := x) (n := (n : Int)) (c3 := c3) (c4 := c4) (Kd.C_below h3 hW) (Kd.C_below h4 hW); rw [hv] at h; exact h)
/-- solved, where both fit -/
theorem solved_ok {W : World} {t : Pt} {n : Nat} {l : List Bool} {A3 A4 ta : Option Addr} {c3 c4 tc : Nat} (hn1 : 1 ≤ n) (hn : n ≤ 12) (ho : t.ok n) (hv : vld n t.toS = true) (hl : l.length = 2 ^ n) (h3 : Kd.C Kd.bool W A3 t.toS.f3.length t.toS.f3) (l3 : t.toS.f3.length ≤ c3) (h4 : Kd.C k32 W A4 t.toS.f4.length t.toS.f4) (hc : Kd.C Kd.bool W ta l.length l) (lc : l.length ≤ tc) :
    Calls Try.prog 100 #[.agg #[.bool t.toS.f0, I t.toS.f1, I t.toS.f2, .slice A3 t.toS.f3.length c3, .slice A4 t.toS.f4.length c4], .slice ta l.length tc] W (SR W (md t (ons l 0 l.length) (zrs l 0 l.length))) := by
  have h4096 : 2 ^ n ≤ 4096 := Nat.pow_le_pow_right (n := 2) (by decide) hn
  have HIN : ∀ w' : World, Calls Try.prog 84 #[.slice ta l.length tc] w' fun e w'' => e = .returned (.tuple #[I (n : Int), .bool true]) ∧ Below w'.heap.size w' w'' := fun w' => (inputs_any (w := w') (a := ta) (cap := tc) (by omega) (by rw [hl]; exact inp_pow hn)).mono fun e w'' ⟨h1, m, h2⟩ => ⟨h1, by rw [h2]; exact pw_below_drewN (Below.refl _ _) m⟩
  have hon : ∀ x ∈ ons l 0 l.length, 0 ≤ x ∧ x < ((2 ^ n : Nat) : Int) := fun x hx => by obtain ⟨m, rfl, _, h, _⟩ := (ons_mem l x _ _).1 hx; omega
  have hzr : ∀ x ∈ zrs l 0 l.length, 0 ≤ x ∧ x < ((2 ^ n : Nat) : Int) := fun x hx => by obtain ⟨m, rfl, _, h, _⟩ := (zrs_mem l x _ _).1 hx; omega
  have lon : (ons l 0 l.length).length ≤ l.length := by
    have : ∀ j i, (ons l i j).length ≤ j := by
      intro j
      induction j with
      | zero => intro i; simp [ons]
      | succ j ih => intro i; rw [ons]; split <;> (have := ih (i + 1); simp; omega)
    exact this _ _
  have lzr : (zrs l 0 l.length).length ≤ l.length := by
    have : ∀ j i, (zrs l i j).length ≤ j := by
      intro j
      induction j with
      | zero => intro i; simp [zrs]
      | succ j ih => intro i; rw [zrs]; split <;> (have := ih (i + 1); simp; omega)
    exact this _ _
  exact sol_ok HIN rfl (decide_eq_false (by omega)) (fun w' hW => by have h := bValid_any (W := w') (x := t.toS) (n := (n : Int)) (c3 := c3) (c4 := c4) (Kd.C_below h3 hW) (Kd.C_below h4 hW); rw [hv] at h; exact h)
    (fun w' hW => lists_any (Kd.C_below hc hW) lc (by omega))
    (fun w' A B c d hW hc1 hc2 hA hB => made_any hn t ho (Kd.C_below h3 hW) l3 (Kd.C_below h4 hW) ⟨hA, hon, by omega⟩ ⟨hB, hzr, by omega⟩ hc1 hc2)
end Go.Proofs.Ytpfbommaddaijaa

namespace Go.Proofs.Ytpfbommaddaijaa
open Go.RowKit Go.Proofs.YtpfbommaddaijaaW.PrintWords Go.Proofs.YtpfbommaddaijaaW.PrintLast PBoundTo
set_option linter.unusedVariables false
set_option linter.unusedSimpArgs false

/-- a node is right by itself -/
def nok (k n len : Int) : Bool :=
  if k = 0 then decide (0 ≤ n) && decide (n < 16) && len == 0
  else if k = 1 then (n == 0 || n == 1) && len == 0
  else if k = 2 then n == 0 && len == 1
  else if k = 3 ∨ k = 4 ∨ k = 5 then n == 0 && len == 2
  else false
def cost (k : Int) : Nat := if k = 3 ∨ k = 4 then 1 else if k = 5 then 2 else 0
mutual
def fnd : S24 → Nat
  | ⟨_, _, kids⟩ => 1 + fndL kids
def fndL : List S24 → Nat
  | [] => 0
  | x :: r => fnd x + fndL r
end
mutual
/-- how deep it is nested -/
def fns : S24 → Nat
  | ⟨_, _, kids⟩ => 1 + fnsL kids
def fnsL : List S24 → Nat
  | [] => 0
  | x :: r => max (fns x) (fnsL r)
end
mutual
def fsz : S24 → Nat
  | ⟨_, _, []⟩ => 1
  | ⟨_, _, x :: r⟩ => fsz x + fszL r
def fszL : List S24 → Nat
  | [] => 0
  | x :: r => fsz x + fszL r
end
mutual
def fdp : S24 → Nat
  | ⟨k, _, kids⟩ => fdpL kids + cost k
def fdpL : List S24 → Nat
  | [] => 0
  | x :: r => max (fdp x) (fdpL r)
end
mutual
def fin : S24 → Int
  | ⟨k, n, kids⟩ => max (if k = 0 then n + 1 else 0) (finL kids)
def finL : List S24 → Int
  | [] => -9223372036854775808
  | x :: r => max (fin x) (finL r)
end
mutual
def fsh : S24 → Bool
  | ⟨k, n, kids⟩ => nok k n kids.length && fshL kids
def fshL : List S24 → Bool
  | [] => true
  | x :: r => fsh x && fshL r
end
theorem fnd_eq (x : S24) : fnd x = 1 + fndL x.f2 := by cases x; rw [fnd]
theorem fns_eq (x : S24) : fns x = 1 + fnsL x.f2 := by cases x; rw [fns]
theorem fdp_eq (x : S24) : fdp x = fdpL x.f2 + cost x.f0 := by cases x; rw [fdp]
theorem fin_eq (x : S24) : fin x = max (if x.f0 = 0 then x.f1 + 1 else 0) (finL x.f2) := by cases x; rw [fin]
theorem fsh_eq (x : S24) : fsh x = (nok x.f0 x.f1 x.f2.length && fshL x.f2) := by cases x; rw [fsh]
theorem fsz_leaf (x : S24) (h : x.f2 = []) : fsz x = 1 := by obtain ⟨k, n, kids⟩ := x; simp only at h; subst h; rw [fsz]
theorem fsz_node (x : S24) (h : 0 < x.f2.length) : fsz x = fszL x.f2 := by
  obtain ⟨k, n, kids⟩ := x
  cases kids with
  | nil => exact absurd h (by simp)
  | cons y r => rw [fsz, fszL]
theorem fL_nil : fndL [] = 0 ∧ fnsL [] = 0 ∧ fszL [] = 0 ∧ fdpL [] = 0 ∧ fshL [] = true := by rw [fndL, fnsL, fszL, fdpL, fshL]; simp
theorem fL_cons (x : S24) (r : List S24) : fndL (x :: r) = fnd x + fndL r ∧ fnsL (x :: r) = max (fns x) (fnsL r) ∧ fszL (x :: r) = fsz x + fszL r ∧ fdpL (x :: r) = max (fdp x) (fdpL r) ∧ finL (x :: r) = max (fin x) (finL r) ∧ fshL (x :: r) = (fsh x && fshL r) := by
  rw [fndL, fnsL, fszL, fdpL, finL, fshL]; simp
theorem fdrop (l : List S24) (i : Nat) (h : i < l.length) : l.drop i = rd_T24 l i :: l.drop (i + 1) := by
  rw [List.drop_eq_getElem_cons h]
  congr 1
  simp [rd_T24, List.getD, h]
/-- a child is less nested -/
theorem fns_kid (l : List S24) (i : Nat) (h : i < l.length) : fns (rd_T24 l i) ≤ fnsL l := by
  have key : ∀ (l : List S24) (i : Nat), fnsL (l.drop i) ≤ fnsL l := by
    intro l
    induction l with
    | nil => intro i; simp
    | cons x r ih =>
      intro i
      cases i with
      | zero => simp
      | succ i => have := ih i; rw [List.drop_succ_cons, (fL_cons x r).2.1]; omega
  have := key l i
  rw [fdrop l i h, (fL_cons _ _).2.1] at this
  omega
set_option maxHeartbeats 4000000 in
theorem node_any {W : World} (k n : Int) (A : Option Addr) (len c : Nat) : Calls Try.prog 152 #[.agg #[I k, I n, .slice A len c]] W fun e W' => e = .returned (.bool (nok k n len)) ∧ Below W.heap.size W W' := by
  unfold nok
  have hb : Below W.heap.size W (W.alloc (.cells #[I k, I n, .slice A len c] 24)) := (Below.refl _ _).alloc (Nat.le_refl _) _
  have HB := Lib.hid hb
  clear hb
  by_cases h0 : k = 0
  · subst h0
    rw [if_pos rfl]
    cases e1 : decide (0 ≤ n) <;> cases e2 : decide (n < 16) <;> cases e3 : ((len : Int) == 0)
    all_goals
      go_enter Try.func152, Try.ntmps152
      go_wp2
      go_ret
      exact ⟨rfl, HB.out⟩
  by_cases h1 : k = 1
  · subst h1
    rw [if_neg (by decide), if_pos rfl]
    cases e1 : (n == 0) <;> cases e2 : (n == 1) <;> cases e3 : ((len : Int) == 0)
    all_goals
      go_enter Try.func152, Try.ntmps152
      go_wp2
      go_ret
      exact ⟨rfl, HB.out⟩
  by_cases h2 : k = 2
  · subst h2
    rw [if_neg (by decide), if_neg (by decide), if_pos rfl]
    cases e1 : (n == 0) <;> cases e3 : ((len : Int) == 1)
    all_goals
      go_enter Try.func152, Try.ntmps152
      go_wp2
      go_ret
      exact ⟨rfl, HB.out⟩
  by_cases h3 : k = 3 ∨ k = 4 ∨ k = 5
  · rw [if_neg h0, if_neg h1, if_neg h2, if_pos h3]
    cases e1 : (n == 0) <;> cases e3 : ((len : Int) == 2)
    all_goals
      rcases h3 with rfl | rfl | rfl
      all_goals
        go_enter Try.func152, Try.ntmps152
        go_wp2
        go_ret
        exact ⟨rfl, HB.out⟩
  · rw [if_neg h0, if_neg h1, if_neg h2, if_neg h3]
    have d0 : (k == 0) = false := beq_eq_false_iff_ne.2 h0
    have d1 : (k == 1) = false := beq_eq_false_iff_ne.2 h1
    have d2 : (k == 2) = false := beq_eq_false_iff_ne.2 h2
    have d3 : (k == 3) = false := beq_eq_false_iff_ne.2 (fun e => h3 (.inl e))
    have d4 : (k == 4) = false := beq_eq_false_iff_ne.2 (fun e => h3 (.inr (.inl e)))
    have d5 : (k == 5) = false := beq_eq_false_iff_ne.2 (fun e => h3 (.inr (.inr e)))
    clear h0 h1 h2 h3
    go_enter Try.func152, Try.ntmps152
    go_wp2
    go_ret
    exact ⟨rfl, HB.out⟩
end Go.Proofs.Ytpfbommaddaijaa

