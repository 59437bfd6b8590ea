/- Plain: made tells whether the protocol solves the pairs, and its formula has the table; what bound.Solves answers. -/
import Derived.Test.YtpfbommaddaijaaZeQ7
namespace Go.Proofs.Ytpfbommaddaijaa
open Go.RowKit Go.Proofs.YtpfbommaddaijaaW.PrintWords Go.Proofs.YtpfbommaddaijaaW.PrintLast PBoundTo
set_option linter.unusedVariables false
set_option linter.unusedSimpArgs false

theorem not_anyb {v : Nat} {is : Bool} {xs : List Int} : (!anyb v is xs) = true ↔ ∀ x ∈ xs, x.toNat.testBit v = is := by
  unfold anyb
  rw [Bool.not_eq_true', List.any_eq_false]
  constructor
  · intro h x hx
    have := h x hx
    cases e : x.toNat.testBit v <;> cases is <;> simp_all
  · intro h x hx
    rw [h x hx]
    simp
theorem zs_iff {ask : List Bool} {xs : List Int} {x : Int} : x ∈ zs ask xs ↔ x ∈ xs ∧ ask.getD x.toNat false = false := by
  unfold zs; rw [List.mem_filter]; simp
theorem os_iff {ask : List Bool} {xs : List Int} {x : Int} : x ∈ os ask xs ↔ x ∈ xs ∧ ask.getD x.toNat false = true := by
  unfold os; rw [List.mem_filter]
theorem comb_snd {k : Int} {f g : Fx × Bool} : (comb k f g).2 = true ↔ f.2 = true ∧ g.2 = true := by
  unfold comb
  split
  · rename_i h; simp only [Bool.and_eq_true] at h; simp [h]
  · rename_i h; simp only [Bool.and_eq_true] at h; simp; intro h1; cases e : g.2 with
    | false => rfl
    | true => exact absurd ⟨h1, e⟩ h
theorem md_ok : ∀ (t : Pt) {n : Nat}, t.ok n → ∀ (a b : List Int), (md t a b).2 = true ↔ ∀ x ∈ a, ∀ y ∈ b, apt t x.toNat y.toNat = true
  | .leaf v, n, ho, a, b => by
    rw [md]
    by_cases ea : a.length = 0
    · rw [if_pos ea, List.eq_nil_of_length_eq_zero ea]; simp
    rw [if_neg ea]
    by_cases eb : b.length = 0
    · rw [if_pos eb, List.eq_nil_of_length_eq_zero eb]; simp
    rw [if_neg eb]
    obtain ⟨ho1, ho2⟩ := ho
    have hm : a.getD 0 0 ∈ a := by
      rw [show a.getD 0 0 = a[0]'(by omega) by simp [List.getD, show 0 < a.length by omega]]
      exact List.getElem_mem _
    obtain ⟨b0, hb0⟩ : ∃ y, y ∈ b := ⟨b[0]'(by omega), List.getElem_mem _⟩
    generalize a.getD 0 0 = a0 at hm ⊢
    simp only [Bool.and_eq_true, not_anyb, apt, Pt.run, Nat.testBit_xor]
    constructor
    · rintro ⟨h1, h2⟩ x hx y hy
      rw [h1 x hx, h2 y hy]
      cases a0.toNat.testBit v.toNat <;> rfl
    · intro h
      refine ⟨fun x hx => ?_, fun y hy => ?_⟩
      · have q1 := h x hx b0 hb0
        have q2 := h a0 hm b0 hb0
        cases e1 : x.toNat.testBit v.toNat <;> cases e2 : b0.toNat.testBit v.toNat <;> cases e3 : a0.toNat.testBit v.toNat <;> simp_all
      · have q2 := h a0 hm y hy
        cases e2 : y.toNat.testBit v.toNat <;> cases e3 : a0.toNat.testBit v.toNat <;> simp_all
  | .node pl ask l r, n, ho, a, b => by
    rw [md]
    by_cases ea : a.length = 0
    · rw [if_pos ea, List.eq_nil_of_length_eq_zero ea]; simp
    rw [if_neg ea]
    by_cases eb : b.length = 0
    · rw [if_pos eb, List.eq_nil_of_length_eq_zero eb]; simp
    rw [if_neg eb]
    obtain ⟨ho1, ho2, ho3, ho4⟩ := ho
    rcases ho1 with rfl | rfl
    · rw [if_neg (by decide), comb_snd, md_ok l ho3, md_ok r ho4]
      unfold apt
      simp only [Pt.run0]
      constructor
      · rintro ⟨h1, h2⟩ x hx y hy
        cases e : ask.getD x.toNat false with
        | true => rw [if_pos rfl]; exact h2 x (os_iff.2 ⟨hx, e⟩) y hy
        | false => rw [if_neg (by decide)]; exact h1 x (zs_iff.2 ⟨hx, e⟩) y hy
      · intro h
        refine ⟨fun x hx y hy => ?_, fun x hx y hy => ?_⟩
        · obtain ⟨h1, h2⟩ := zs_iff.1 hx
          have := h x h1 y hy
          rwa [if_neg (by rw [h2]; decide)] at this
        · obtain ⟨h1, h2⟩ := os_iff.1 hx
          have := h x h1 y hy
          rwa [if_pos h2] at this
    · rw [if_pos rfl, comb_snd, md_ok l ho3, md_ok r ho4]
      unfold apt
      simp only [Pt.run1]
      constructor
      · rintro ⟨h1, h2⟩ x hx y hy
        cases e : ask.getD y.toNat false with
        | true => rw [if_pos rfl]; exact h2 x hx y (os_iff.2 ⟨hy, e⟩)
        | false => rw [if_neg (by decide)]; exact h1 x hx y (zs_iff.2 ⟨hy, e⟩)
      · intro h
        refine ⟨fun x hx y hy => ?_, fun x hx y hy => ?_⟩
        · obtain ⟨h1, h2⟩ := zs_iff.1 hy
          have := h x hx y h1
          rwa [if_neg (by rw [h2]; decide)] at this
        · obtain ⟨h1, h2⟩ := os_iff.1 hy
          have := h x hx y h1
          rwa [if_pos h2] at this
/-- on the ones and the zeros of a table: as the reference's Solves -/
theorem md_slv {t : Pt} {n : Nat} (ho : t.ok n) (l : List Bool) : (md t (ons l 0 l.length) (zrs l 0 l.length)).2 = slv t l := by
  rw [Bool.eq_iff_iff, md_ok t ho]
  unfold slv
  rw [allF_iff]
  constructor
  · intro h x _ hx
    cases e : l.getD x false with
    | false => rfl
    | true =>
      simp only [Bool.not_true, Bool.false_or]
      rw [allF_iff]
      intro y _ hy
      cases e2 : l.getD y false with
      | true => rfl
      | false =>
        have := h (x : Int) ((ons_mem l x _ _).2 ⟨x, rfl, by omega, hx, e⟩) (y : Int) ((zrs_mem l y _ _).2 ⟨y, rfl, by omega, hy, e2⟩)
        simpa using this
  · intro h x hx y hy
    obtain ⟨m, rfl, _, h1, h2⟩ := (ons_mem l x _ _).1 hx
    obtain ⟨k, rfl, _, h3, h4⟩ := (zrs_mem l y _ _).1 hy
    have q := h m (by omega) h1
    rw [h2] at q
    simp only [Bool.not_true, Bool.false_or] at q
    have q2 := (allF_iff _ _ _).1 q k (by omega) h3
    rw [h4] at q2
    simpa using q2
/-- its formula has the table -/
theorem md_val : ∀ (t : Pt) {n : Nat}, t.ok n → ∀ (a b : List Int), (md t a b).2 = true → (∀ x ∈ a, (md t a b).1.val x.toNat = true) ∧ (∀ y ∈ b, (md t a b).1.val y.toNat = false)
  | .leaf v, n, ho, a, b => by
    rw [md]
    by_cases ea : a.length = 0
    · rw [if_pos ea, List.eq_nil_of_length_eq_zero ea]
      intro _
      exact ⟨fun x h => by simp at h, fun y _ => by simp [Fx.val]⟩
    rw [if_neg ea]
    by_cases eb : b.length = 0
    · rw [if_pos eb, List.eq_nil_of_length_eq_zero eb]
      intro _
      exact ⟨fun x _ => by simp [Fx.val], fun y h => by simp at h⟩
    rw [if_neg eb]
    generalize a.getD 0 0 = a0
    simp only [Bool.and_eq_true, not_anyb]
    rintro ⟨h1, h2⟩
    cases e : a0.toNat.testBit v.toNat with
    | true =>
      rw [e] at h1 h2
      refine ⟨fun x hx => ?_, fun y hy => ?_⟩
      · simp [Fx.val, h1 x hx]
      · simp [Fx.val, h2 y hy]
    | false =>
      rw [e] at h1 h2
      refine ⟨fun x hx => ?_, fun y hy => ?_⟩
      · simp [Fx.val, h1 x hx]
      · simp [Fx.val, h2 y hy]
  | .node pl ask l r, n, ho, a, b => by
    rw [md]
    by_cases ea : a.length = 0
    · rw [if_pos ea, List.eq_nil_of_length_eq_zero ea]
      intro _
      exact ⟨fun x h => by simp at h, fun y _ => by simp [Fx.val]⟩
    rw [if_neg ea]
    by_cases eb : b.length = 0
    · rw [if_pos eb, List.eq_nil_of_length_eq_zero eb]
      intro _
      exact ⟨fun x _ => by simp [Fx.val], fun y h => by simp at h⟩
    rw [if_neg eb]
    obtain ⟨ho1, ho2, ho3, ho4⟩ := ho
    rcases ho1 with rfl | rfl
    · rw [if_neg (by decide)]
      intro h
      obtain ⟨h1, h2⟩ := comb_snd.1 h
      obtain ⟨p1, p2⟩ := md_val l ho3 _ _ h1
      obtain ⟨r1, r2⟩ := md_val r ho4 _ _ h2
      rw [comb_2 h1 h2]
      refine ⟨fun x hx => ?_, fun y hy => ?_⟩
      · cases e : ask.getD x.toNat false with
        | true => simp [Fx.val, r1 x (os_iff.2 ⟨hx, e⟩)]
        | false => simp [Fx.val, p1 x (zs_iff.2 ⟨hx, e⟩)]
      · simp [Fx.val, p2 y hy, r2 y hy]
    · rw [if_pos rfl]
      intro h
      obtain ⟨h1, h2⟩ := comb_snd.1 h
      obtain ⟨p1, p2⟩ := md_val l ho3 _ _ h1
      obtain ⟨r1, r2⟩ := md_val r ho4 _ _ h2
      rw [comb_2 h1 h2]
      refine ⟨fun x hx => ?_, fun y hy => ?_⟩
      · simp [Fx.val, p1 x hx, r1 x hx]
      · cases e : ask.getD y.toNat false with
        | true => simp [Fx.val, r2 y (os_iff.2 ⟨hy, e⟩)]
        | false => simp [Fx.val, p2 y (zs_iff.2 ⟨hy, e⟩)]
end Go.Proofs.Ytpfbommaddaijaa

