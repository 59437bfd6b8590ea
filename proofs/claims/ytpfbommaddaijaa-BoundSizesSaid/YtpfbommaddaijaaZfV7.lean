/- Formula trees and formulas as arguments: one for the other. -/
import Derived.Test.YtpfbommaddaijaaZfV6
import Derived.Test.YtpfbommaddaijaaZfFm
namespace Go.Proofs.Ytpfbommaddaijaa
open Go.RowKit Go.Proofs.YtpfbommaddaijaaW.PrintWords Go.Proofs.YtpfbommaddaijaaW.PrintLast PBoundTo
set_option linter.unusedVariables false
set_option linter.unusedSimpArgs false

def toS : Fx → S24
  | .leaf k n => ⟨k, n, []⟩
  | .not a => ⟨2, 0, [toS a]⟩
  | .bin k a b => ⟨k, 0, [toS a, toS b]⟩
def Fx.dep : Fx → Nat
  | .leaf k _ => cost k
  | .not a => a.dep
  | .bin k a b => max a.dep b.dep + cost k
theorem toS_nd : ∀ t : Fx, fnd (toS t) = t.nodes
  | .leaf k n => by rw [toS, fnd, fndL, Fx.nodes]
  | .not a => by rw [toS, fnd, fndL, fndL, Fx.nodes, toS_nd a]; rfl
  | .bin k a b => by rw [toS, fnd, fndL, fndL, fndL, Fx.nodes, toS_nd a, toS_nd b]; omega
theorem toS_sz : ∀ t : Fx, fsz (toS t) = t.size
  | .leaf k n => by rw [toS, fsz, Fx.size]
  | .not a => by rw [toS, fsz, fszL, Fx.size, toS_sz a]; rfl
  | .bin k a b => by rw [toS, fsz, fszL, fszL, Fx.size, toS_sz a, toS_sz b]; rfl
theorem toS_dp : ∀ t : Fx, fdp (toS t) = t.dep
  | .leaf k n => by rw [toS, fdp, fdpL, Fx.dep]; omega
  | .not a => by rw [toS, fdp, fdpL, fdpL, Fx.dep, toS_dp a]; unfold cost; simp
  | .bin k a b => by rw [toS, fdp, fdpL, fdpL, fdpL, Fx.dep, toS_dp a, toS_dp b]; omega
theorem toS_has (q : Int) : ∀ t : Fx, fhas q (toS t) = t.has q
  | .leaf k n => by rw [toS, fhas, fhasL, Fx.has]; simp
  | .not a => by rw [toS, fhas, fhasL, fhasL, Fx.has, toS_has q a, Bool.or_false, show ((2 : Int) == q) = (q == 2) by rw [Bool.eq_iff_iff, beq_iff_eq, beq_iff_eq]; exact eq_comm]
  | .bin k a b => by rw [toS, fhas, fhasL, fhasL, fhasL, Fx.has, toS_has q a, toS_has q b, Bool.or_false, Bool.or_assoc]
theorem toS_in : ∀ t : Fx, t.ok 16 → fin (toS t) = max 0 t.inp
  | .leaf k n, h => by
    rw [toS, fin, finL, Fx.inp]
    rcases h with ⟨rfl, h1, h2⟩ | ⟨rfl, _⟩
    · simp; omega
    · simp only [if_neg (show ¬ (1 : Int) = 0 by decide)]; omega
  | .not a, h => by rw [toS, fin, finL, finL, Fx.inp, toS_in a h]; simp; omega
  | .bin k a b, h => by
    obtain ⟨hk, h1, h2⟩ := h
    rw [toS, fin, finL, finL, finL, Fx.inp, toS_in a h1, toS_in b h2]
    rcases hk with rfl | rfl | rfl <;> simp <;> omega
/-- a valid formula that is read is a tree in memory -/
theorem fm_of {w : World} : ∀ (m : Nat) (x : S24) {cs : List Value}, fns x ≤ m → fsh x = true → k24.K w x cs → ∃ t : Fx, toS t = x ∧ t.ok 16 ∧ Fm w t cs := by
  intro m
  induction m with
  | zero => intro x cs h; exact absurd h (by have := fns_pos x; omega)
  | succ m ih =>
    intro x cs hm hs hK
    obtain ⟨A2, c2, rfl, l2, g2⟩ := k24_open hK
    have hs' := fsh_eq x
    rw [hs] at hs'
    have hs2 := hs'.symm
    rw [Bool.and_eq_true] at hs2
    obtain ⟨s1, s2⟩ := hs2
    have hkid : ∀ j p, x.f2[j]? = some p → fns p ≤ m ∧ fsh p = true := fun j p hj => by
      obtain ⟨hlt, he⟩ := List.getElem?_eq_some_iff.1 hj
      have hr : rd_T24 x.f2 (j : Int) = p := by simp [rd_T24, List.getD, hj]
      have h1 := fns_kid x.f2 j hlt
      have h2 := fsh_kid x.f2 j hlt s2
      rw [hr] at h1 h2
      have := fns_eq x
      exact ⟨by omega, h2⟩
    obtain ⟨k, n, kids⟩ := x
    simp only at s1 l2 g2 hkid ⊢
    unfold nok at s1
    by_cases h0 : k = 0
    · rw [if_pos h0] at s1
      simp only [Bool.and_eq_true, decide_eq_true_eq, beq_iff_eq] at s1
      have : kids = [] := List.eq_nil_of_length_eq_zero (by omega)
      subst this h0
      exact ⟨.leaf 0 n, rfl, .inl ⟨rfl, s1.1⟩, A2, c2, rfl⟩
    rw [if_neg h0] at s1
    by_cases h1 : k = 1
    · rw [if_pos h1] at s1
      simp only [Bool.and_eq_true, Bool.or_eq_true, beq_iff_eq] at s1
      have : kids = [] := List.eq_nil_of_length_eq_zero (by omega)
      subst this h1
      exact ⟨.leaf 1 n, rfl, .inr ⟨rfl, s1.1⟩, A2, c2, rfl⟩
    rw [if_neg h1] at s1
    by_cases h2 : k = 2
    · rw [if_pos h2] at s1
      simp only [Bool.and_eq_true, beq_iff_eq] at s1
      obtain ⟨rfl, hl⟩ := s1
      subst h2
      match kids, hl with
      | [a], _ =>
        obtain ⟨ad, e, hc⟩ := g2.2.2 (by simp)
        obtain ⟨ca, q1, q2, q3⟩ := hc 0 a rfl
        obtain ⟨t, ht, hok, hf⟩ := ih a (hkid 0 a rfl).1 (hkid 0 a rfl).2 q2
        subst e
        exact ⟨.not t, by rw [toS, ht], hok, ad, c2, ca, rfl, l2, q1, fun i u hu => by have := q3 i u hu; rwa [Nat.zero_mul, Nat.zero_add] at this, hf⟩
    rw [if_neg h2] at s1
    by_cases h3 : k = 3 ∨ k = 4 ∨ k = 5
    · rw [if_pos h3] at s1
      simp only [Bool.and_eq_true, beq_iff_eq] at s1
      obtain ⟨rfl, hl⟩ := s1
      match kids, hl with
      | [a, b], _ =>
        obtain ⟨ad, e, hc⟩ := g2.2.2 (by simp)
        obtain ⟨ca, q1, q2, q3⟩ := hc 0 a rfl
        obtain ⟨cb, r1, r2, r3⟩ := hc 1 b rfl
        obtain ⟨t, ht, hok, hf⟩ := ih a (hkid 0 a rfl).1 (hkid 0 a rfl).2 q2
        obtain ⟨t', ht', hok', hf'⟩ := ih b (hkid 1 b rfl).1 (hkid 1 b rfl).2 r2
        subst e
        exact ⟨.bin k t t', by rw [toS, ht, ht'], ⟨h3, hok, hok'⟩, ad, c2, ca, cb, rfl, l2, q1, r1, fun i u hu => by have := q3 i u hu; rwa [Nat.zero_mul, Nat.zero_add] at this, fun i u hu => by have := r3 i u hu; rwa [Nat.one_mul] at this, hf, hf'⟩
    · rw [if_neg h3] at s1; cases s1
end Go.Proofs.Ytpfbommaddaijaa

