/- Plain: the parity of two inputs costs 4 leaves, depth 2, and 2 leaves with xor. -/
import Derived.Test.YtpmjpkpaclmpbaaTh
namespace Go.Proofs.Ytpmjpkpaclmpbaa
set_option linter.unusedVariables false
set_option linter.unusedSimpArgs false

def Ts : Fin 16 → Nat := fun f => [1, 2, 2, 1, 2, 1, 4, 2, 2, 4, 1, 2, 1, 2, 2, 1].getD f.val 0
def Td : Fin 16 → Nat := fun f => [0, 1, 1, 0, 1, 0, 2, 1, 1, 2, 0, 1, 0, 1, 1, 0].getD f.val 0
def Tx : Fin 16 → Nat := fun f => [1, 2, 2, 1, 2, 1, 2, 2, 2, 2, 1, 2, 1, 2, 2, 1].getD f.val 0
theorem LS2 {l : Nat} (h : LS 2 l) : l = 0 ∨ l = 10 ∨ l = 12 := by
  rcases h with h | ⟨v, h1, h2⟩
  · exact .inl h
  · have : v = 0 ∨ v = 1 := by omega
    rcases this with rfl | rfl
    · exact .inr (.inl (by rw [h2]; decide))
    · exact .inr (.inr (by rw [h2]; decide))
theorem and16 (x y : Fin 16) : x.val &&& y.val < 16 := by revert x y; decide
theorem xor16 (x y : Fin 16) : x.val ^^^ y.val < 16 := by revert x y; decide
/-- a table of lower bounds -/
theorem low {leaf : Int} {xor : Bool} {J : Int → Int → Int} (T : Fin 16 → Nat) (hJ : Join J) (h0 : (T 0 : Int) ≤ leaf ∧ (T 10 : Int) ≤ leaf ∧ (T 12 : Int) ≤ leaf) (hn : ∀ f : Fin 16, T ⟨15 - f.val, by omega⟩ = T f)
    (ha : ∀ x y : Fin 16, (T ⟨x.val &&& y.val, and16 x y⟩ : Int) ≤ J (T x) (T y)) (hx : xor = true → ∀ x y : Fin 16, (T ⟨x.val ^^^ y.val, xor16 x y⟩ : Int) ≤ J (T x) (T y)) :
    ∀ {f : Nat} {c : Int}, Der 2 15 leaf xor J f c → ∃ h : f < 16, (T ⟨f, h⟩ : Int) ≤ c := by
  intro f c hd
  induction hd with
  | leaf hl =>
    rcases LS2 hl with rfl | rfl | rfl
    · exact ⟨by decide, h0.1⟩
    · exact ⟨by decide, h0.2.1⟩
    · exact ⟨by decide, h0.2.2⟩
  | @neg f c hf _ ih =>
    obtain ⟨h1, h2⟩ := ih
    exact ⟨by omega, by rw [hn ⟨f, h1⟩]; exact h2⟩
  | @and x y a b hx hy _ _ i1 i2 =>
    obtain ⟨h1, h2⟩ := i1
    obtain ⟨h3, h4⟩ := i2
    exact ⟨and16 ⟨x, h1⟩ ⟨y, h3⟩, Int.le_trans (ha ⟨x, h1⟩ ⟨y, h3⟩) (hJ.mono _ _ _ _ (by omega) (by omega) h2 h4)⟩
  | @xor x y a b hxo hx' hy _ _ i1 i2 =>
    obtain ⟨h1, h2⟩ := i1
    obtain ⟨h3, h4⟩ := i2
    exact ⟨xor16 ⟨x, h1⟩ ⟨y, h3⟩, Int.le_trans (hx hxo ⟨x, h1⟩ ⟨y, h3⟩) (hJ.mono _ _ _ _ (by omega) (by omega) h2 h4)⟩
theorem ls10 : LS 2 10 := .inr ⟨0, by decide, by decide⟩
theorem ls12 : LS 2 12 := .inr ⟨1, by decide, by decide⟩
theorem par_der {leaf : Int} {xor : Bool} {J : Int → Int → Int} : Der 2 15 leaf xor J 6 (J (J leaf leaf) (J leaf leaf)) := by
  have d10 : Der 2 15 leaf xor J 10 leaf := .leaf ls10
  have d12 : Der 2 15 leaf xor J 12 leaf := .leaf ls12
  have d5 : Der 2 15 leaf xor J (15 - 10) leaf := .neg (by decide) d10
  have d3 : Der 2 15 leaf xor J (15 - 12) leaf := .neg (by decide) d12
  have a1 : Der 2 15 leaf xor J (10 &&& (15 - 12)) (J leaf leaf) := .and (by decide) (by decide) d10 d3
  have a2 : Der 2 15 leaf xor J ((15 - 10) &&& 12) (J leaf leaf) := .and (by decide) (by decide) d5 d12
  have b1 : Der 2 15 leaf xor J (15 - (10 &&& (15 - 12))) (J leaf leaf) := .neg (by decide) a1
  have b2 : Der 2 15 leaf xor J (15 - ((15 - 10) &&& 12)) (J leaf leaf) := .neg (by decide) a2
  have c1 : Der 2 15 leaf xor J ((15 - (10 &&& (15 - 12))) &&& (15 - ((15 - 10) &&& 12))) (J (J leaf leaf) (J leaf leaf)) := .and (by decide) (by decide) b1 b2
  exact .neg (f := ((15 - (10 &&& (15 - 12))) &&& (15 - ((15 - 10) &&& 12)))) (by decide) c1
theorem par_xor {leaf : Int} {J : Int → Int → Int} : Der 2 15 leaf true J 6 (J leaf leaf) :=
  .xor (x := 10) (y := 12) rfl (by decide) (by decide) (.leaf ls10) (.leaf ls12)
theorem par_at {leaf : Int} {xor : Bool} {J : Int → Int → Int} (T : Fin 16 → Nat) (hJ : Join J) {E : Nat → Ent} (hi : Inv 2 15 leaf xor J E) (hc : Clo 2 15 leaf xor J E) (hlow : ∀ {f : Nat} {c : Int}, Der 2 15 leaf xor J f c → ∃ h : f < 16, (T ⟨f, h⟩ : Int) ≤ c) {c : Int} (hd : Der 2 15 leaf xor J 6 c) (hcB : c < BIG) (hT : (T 6 : Int) = c) : cs E 6 = c := by
  have h1 := (hc.least hi hJ ⟨4, by decide⟩ (fun l hl => by rcases LS2 hl with h | h | h <;> omega) hd).2 hcB
  obtain ⟨_, h2⟩ := hlow (hi.hd 6 (by decide) (by omega))
  have h3 : (T ⟨6, by decide⟩ : Int) = c := hT
  omega
theorem par_size {E : Nat → Ent} (hi : Inv 2 15 1 false Js E) (hc : Clo 2 15 1 false Js E) : cs E 6 = 4 :=
  par_at Ts join_sum hi hc (low Ts join_sum (by decide) (by decide) (by decide) (fun h => by cases h)) (par_der (leaf := 1) (J := Js)) (by decide) (by decide)
theorem par_depth {E : Nat → Ent} (hi : Inv 2 15 0 false Jm E) (hc : Clo 2 15 0 false Jm E) : cs E 6 = 2 :=
  par_at Td join_max hi hc (low Td join_max (by decide) (by decide) (by decide) (fun h => by cases h)) (par_der (leaf := 0) (J := Jm)) (by decide) (by decide)
theorem par_bin {E : Nat → Ent} (hi : Inv 2 15 1 true Js E) (hc : Clo 2 15 1 true Js E) : cs E 6 = 2 :=
  par_at Tx join_sum hi hc (low Tx join_sum (by decide) (by decide) (by decide) (fun _ => by decide)) (par_xor (leaf := 1) (J := Js)) (by decide) (by decide)
end Go.Proofs.Ytpmjpkpaclmpbaa
