/- Khrapchenko's bound for formulas, in plain mathematics. -/
import Derived.Test.YtpfbommaddaijaaZfFm
import Derived.Test.YtpfbommaddaijaaZfKb
namespace Go.Proofs.Ytpfbommaddaijaa
open Go.RowKit
set_option linter.unusedVariables false
set_option linter.unusedSimpArgs false

/-- two inputs that differ in one bit -/
def adj (x y : Nat) : Bool := ob (x ^^^ y)
def ed (A B : List Nat) : Nat := match A with
  | [] => 0
  | a :: A => B.countP (adj a) + ed A B
theorem ed_nil : ∀ A, ed A [] = 0
  | [] => rfl
  | a :: A => by rw [ed, ed_nil A]; rfl
theorem ed_cons (b : Nat) (B : List Nat) : ∀ A, ed A (b :: B) = A.countP (adj b) + ed A B
  | [] => rfl
  | a :: A => by
    rw [ed, ed, ed_cons b B A, List.countP_cons, List.countP_cons]
    have : adj a b = adj b a := by unfold adj; rw [Nat.xor_comm]
    rw [this]; omega
theorem ed_swap : ∀ A B, ed A B = ed B A
  | [], B => (ed_nil B).symm
  | a :: A, B => by rw [ed_cons, ed, ed_swap A B]
theorem ed_split (p : Nat → Bool) (B : List Nat) : ∀ A, ed A B = ed (A.filter p) B + ed (A.filter fun x => !p x) B
  | [] => rfl
  | a :: A => by
    rw [ed, ed_split p B A, List.filter_cons, List.filter_cons]
    cases p a <;> simp [ed] <;> omega
theorem len_split (p : Nat → Bool) : ∀ A : List Nat, A.length = (A.filter p).length + (A.filter fun x => !p x).length
  | [] => rfl
  | a :: A => by
    rw [List.length_cons, len_split p A, List.filter_cons, List.filter_cons]
    cases p a <;> simp <;> omega
theorem sq_le {a b : Nat} (h : a * a ≤ b * b) : a ≤ b := Nat.not_lt.1 fun c => Nat.not_lt.2 h (Nat.mul_self_lt_mul_self c)
/-- the step of a gate -/
theorem gate {e1 e2 s1 s2 a1 a2 b : Nat} (h1 : e1 * e1 ≤ s1 * (a1 * b)) (h2 : e2 * e2 ≤ s2 * (a2 * b)) : (e1 + e2) * (e1 + e2) ≤ (s1 + s2) * ((a1 + a2) * b) := by
  have hm := Nat.mul_le_mul h1 h2
  have e : s1 * (a1 * b) * (s2 * (a2 * b)) = (s1 * (a2 * b)) * (s2 * (a1 * b)) := by simp only [Nat.mul_comm, Nat.mul_assoc, Nat.mul_left_comm]
  rw [e] at hm
  generalize hp : s1 * (a2 * b) = p at hm
  generalize hq : s2 * (a1 * b) = q at hm
  have hpq : (2 * (e1 * e2)) * (2 * (e1 * e2)) ≤ (p + q) * (p + q) := by
    have h3 : (2 * (e1 * e2)) * (2 * (e1 * e2)) = 4 * (e1 * e1 * (e2 * e2)) := by
      simp only [Nat.mul_comm, Nat.mul_assoc, Nat.mul_left_comm]
    have h4 : 4 * (p * q) ≤ (p + q) * (p + q) := by
      rcases Nat.le_total p q with h | h
      · obtain ⟨d, rfl⟩ := Nat.exists_eq_add_of_le h
        have : (p + (p + d)) * (p + (p + d)) = 4 * (p * (p + d)) + d * d := by
          simp only [Nat.mul_add, Nat.add_mul, Nat.mul_comm d p]; omega
        omega
      · obtain ⟨d, rfl⟩ := Nat.exists_eq_add_of_le h
        have : (q + d + q) * (q + d + q) = 4 * ((q + d) * q) + d * d := by
          simp only [Nat.mul_add, Nat.add_mul, Nat.mul_comm d q]; omega
        omega
    rw [h3]; omega
  have h5 := sq_le hpq
  have h6 : (e1 + e2) * (e1 + e2) = e1 * e1 + 2 * (e1 * e2) + e2 * e2 := by
    simp only [Nat.mul_add, Nat.add_mul, Nat.mul_comm e2 e1]; omega
  have h7 : (s1 + s2) * ((a1 + a2) * b) = s1 * (a1 * b) + p + (q + s2 * (a2 * b)) := by
    rw [← hp, ← hq]; simp only [Nat.mul_add, Nat.add_mul]; omega
  omega
theorem ob_pow : ∀ d : Fin 256, ob d.val = true → ∃ j : Fin 8, d.val = 2 ^ j.val := by decide +kernel
theorem adj_bit {x y v : Nat} (hx : x < 256) (hy : y < 256) (h : adj x y = true) (hv : x.testBit v ≠ y.testBit v) : y = x ^^^ 2 ^ v := by
  have hlt : x ^^^ y < 2 ^ 8 := Nat.xor_lt_two_pow (by omega) (by omega)
  obtain ⟨j, hj⟩ := ob_pow ⟨x ^^^ y, hlt⟩ h
  simp only at hj
  have hb : (x ^^^ y).testBit v = true := by rw [Nat.testBit_xor]; cases a : x.testBit v <;> cases b : y.testBit v <;> simp_all
  rw [hj, Nat.testBit_two_pow] at hb
  have : j.val = v := by simpa using hb
  rw [← this, ← hj, ← Nat.xor_assoc, Nat.xor_self, Nat.zero_xor]
theorem ed_var {v : Nat} : ∀ {A B : List Nat}, (∀ a, a ∈ A → a < 256 ∧ a.testBit v = false) → (∀ b, b ∈ B → b < 256 ∧ b.testBit v = true) → B.Nodup → ed A B ≤ A.length
  | [], B, _, _, _ => Nat.zero_le _
  | a :: A, B, hA, hB, hN => by
    have ih := ed_var (v := v) (A := A) (B := B) (fun a' h => hA a' (by simp [h])) hB hN
    have hc : B.countP (adj a) ≤ B.count (a ^^^ 2 ^ v) := by
      rw [List.count]
      refine List.countP_mono_left fun b hb hab => ?_
      obtain ⟨h1, h2⟩ := hA a (by simp)
      obtain ⟨h3, h4⟩ := hB b hb
      rw [adj_bit h1 h3 hab (by rw [h2, h4]; decide)]
      simp
    have := List.nodup_iff_count.1 hN (a ^^^ 2 ^ v)
    rw [ed, List.length_cons]; omega
/-- KHRAPCHENKO -/
theorem khr_size : ∀ {t : Fx} {A B : List Nat}, t.has 5 = false → t.ok 16 → A.Nodup → B.Nodup → (∀ a, a ∈ A → a < 256 ∧ t.val a = false) → (∀ b, b ∈ B → b < 256 ∧ t.val b = true) → ed A B * ed A B ≤ t.size * (A.length * B.length)
  | .leaf k n, A, B, hp, ho, nA, nB, hA, hB => by
    by_cases hk : k = 0
    · subst hk
      simp only [Fx.val, if_true] at hA hB
      have h1 := ed_var hA hB nB
      have h2 : ed B A ≤ B.length := by
        have : ∀ {A B : List Nat}, (∀ a, a ∈ A → a < 256 ∧ a.testBit n.toNat = true) → (∀ b, b ∈ B → b < 256 ∧ b.testBit n.toNat = false) → B.Nodup → ed A B ≤ A.length := fun {A B} => by
          intro hA hB hN
          induction A with
          | nil => exact Nat.zero_le _
          | cons a A ih =>
            have ih := ih fun a' h => hA a' (by simp [h])
            have hc : B.countP (adj a) ≤ B.count (a ^^^ 2 ^ n.toNat) := by
              rw [List.count]
              refine List.countP_mono_left fun b hb hab => ?_
              obtain ⟨h1, h2⟩ := hA a (by simp)
              obtain ⟨h3, h4⟩ := hB b hb
              rw [adj_bit h1 h3 hab (by rw [h2, h4]; decide)]
              simp
            have := List.nodup_iff_count.1 hN (a ^^^ 2 ^ n.toNat)
            rw [ed, List.length_cons]; omega
        exact this hB hA nA
      rw [Fx.size, Nat.one_mul]
      have h3 := ed_swap A B
      exact Nat.mul_le_mul h1 (by omega)
    · have : A = [] ∨ B = [] := by
        cases A with
        | nil => exact .inl rfl
        | cons a A =>
          cases B with
          | nil => exact .inr rfl
          | cons b B =>
            have h1 := (hA a (by simp)).2
            have h2 := (hB b (by simp)).2
            simp only [Fx.val, if_neg hk] at h1 h2
            rw [h1] at h2; cases h2
      rcases this with rfl | rfl
      · exact Nat.zero_le _
      · rw [ed_nil]; exact Nat.zero_le _
  | .not a, A, B, hp, ho, nA, nB, hA, hB => by
    have := khr_size (t := a) (A := B) (B := A) (by simp [Fx.has] at hp; exact hp) ho nB nA (fun b hb => ⟨(hB b hb).1, by have := (hB b hb).2; simp only [Fx.val] at this; simpa using this⟩) (fun b hb => ⟨(hA b hb).1, by have := (hA b hb).2; simp only [Fx.val] at this; simpa using this⟩)
    rw [ed_swap A B, Fx.size, Nat.mul_comm A.length]
    exact this
  | .bin k a b, A, B, hp, ho, nA, nB, hA, hB => by
    obtain ⟨hk, oa, ob'⟩ := ho
    simp only [Fx.has, Bool.or_eq_false_iff] at hp
    obtain ⟨⟨hk5, pa⟩, pb⟩ := hp
    have hk5' : k ≠ 5 := by simpa using hk5
    rcases hk with rfl | rfl | rfl
    · simp only [Fx.val, if_true] at hA hB
      rw [ed_split (fun x => !a.val x) B A, len_split (fun x => !a.val x) A, Fx.size]
      refine gate (khr_size (t := a) pa oa (nA.sublist List.filter_sublist) nB (fun x hx => ?_) (fun x hx => ⟨(hB x hx).1, by have := (hB x hx).2; simp at this; exact this.1⟩)) (khr_size (t := b) pb ob' (nA.sublist List.filter_sublist) nB (fun x hx => ?_) (fun x hx => ⟨(hB x hx).1, by have := (hB x hx).2; simp at this; exact this.2⟩))
      · obtain ⟨h1, h2⟩ := List.mem_filter.1 hx
        exact ⟨(hA x h1).1, by simpa using h2⟩
      · obtain ⟨h1, h2⟩ := List.mem_filter.1 hx
        have h3 := (hA x h1).2
        refine ⟨(hA x h1).1, ?_⟩
        simp at h2 h3
        exact h3 h2
    · simp only [Fx.val, show ¬ (4 : Int) = 3 by decide, if_false, if_true] at hA hB
      have e1 : ed A B = ed (B.filter a.val) A + ed (B.filter fun x => !a.val x) A := by rw [ed_swap, ed_split a.val]
      rw [e1, Nat.mul_comm A.length, len_split a.val B, Fx.size]
      refine gate ?_ ?_
      · rw [ed_swap, Nat.mul_comm (List.length _)]
        refine khr_size (t := a) pa oa nA (nB.sublist List.filter_sublist) (fun x hx => ⟨(hA x hx).1, by have := (hA x hx).2; simp at this; exact this.1⟩) (fun x hx => ?_)
        obtain ⟨h1, h2⟩ := List.mem_filter.1 hx
        exact ⟨(hB x h1).1, h2⟩
      · rw [ed_swap, Nat.mul_comm (List.length _)]
        refine khr_size (t := b) pb ob' nA (nB.sublist List.filter_sublist) (fun x hx => ⟨(hA x hx).1, by have := (hA x hx).2; simp at this; exact this.2⟩) (fun x hx => ?_)
        obtain ⟨h1, h2⟩ := List.mem_filter.1 hx
        have h3 := (hB x h1).2
        refine ⟨(hB x h1).1, ?_⟩
        simp at h2 h3
        rcases h3 with h3 | h3
        · rw [h2] at h3; cases h3
        · exact h3
    · exact absurd rfl hk5'
end Go.Proofs.Ytpfbommaddaijaa

