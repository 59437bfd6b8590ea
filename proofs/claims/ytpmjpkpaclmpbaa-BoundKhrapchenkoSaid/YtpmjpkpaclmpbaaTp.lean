/- Awake: the first example of the chapter. -/
import Derived.Test.YtpmjpkpaclmpbaaTo
import Derived.Test.YtpmjpkpaclmpbaaFc
namespace Go.Proofs.Ytpmjpkpaclmpbaa
open Go.RowKit
set_option linter.unusedVariables false
set_option linter.unusedSimpArgs false

def pf (i : Nat) : Bool := i == 1 || i == 2
def za (i : Nat) : Int := if i = 0 then 0 else 3
def zb (i : Nat) : Int := if i = 0 then 1 else 2
theorem par_bs (w : World) : Bs (w.alloc (.cells #[.bool false, .bool true, .bool true, .bool false] 4)) (.slice (some ⟨w.heap.size, 0, none⟩) 4 4) 4 pf :=
  ⟨some ⟨w.heap.size, 0, none⟩, 4, rfl, Nat.le_refl _, by decide, fun _ => ⟨_, rfl⟩, fun b hb i hi => by
    cases hb
    have : i = 0 ∨ i = 1 ∨ i = 2 ∨ i = 3 := by omega
    rcases this with rfl | rfl | rfl | rfl <;> simp [go_sem, Addr.add, pf]⟩
theorem two_is (w : World) (x y : Int) (Z : Nat → Int) (h0 : Z 0 = x) (h1 : Z 1 = y) : Is (w.alloc (.cells #[I x, I y] 3)) (.slice (some ⟨w.heap.size, 0, none⟩) 2 2) 2 Z :=
  ⟨some ⟨w.heap.size, 0, none⟩, 2, rfl, Nat.le_refl _, by decide, fun _ => ⟨_, rfl⟩, fun b hb i hi => by
    cases hb
    have : i = 0 ∨ i = 1 := by omega
    rcases this with rfl | rfl <;> simp [go_sem, Addr.add, h0, h1]⟩
theorem inp4 : Inp 4 2 true := inp_pow (k := 2) (by decide)
theorem al_a : Al 4 pf za false 2 := ⟨by decide, fun j hj => by
  have : j = 0 ∨ j = 1 := by omega
  rcases this with rfl | rfl
  · exact ⟨by decide, by decide, by decide, fun h => by omega⟩
  · exact ⟨by decide, by decide, by decide, fun _ => by decide⟩⟩
theorem al_b : Al 4 pf zb true 2 := ⟨by decide, fun j hj => by
  have : j = 0 ∨ j = 1 := by omega
  rcases this with rfl | rfl
  · exact ⟨by decide, by decide, by decide, fun h => by omega⟩
  · exact ⟨by decide, by decide, by decide, fun _ => by decide⟩⟩
theorem es4 : es za zb 2 2 = 4 := by decide
theorem tn6 : tn pf (2 ^ 2) = 6 := by decide
theorem three_worlds (w : World) : ∃ W3, W3 = ((w.alloc (.cells #[.bool false, .bool true, .bool true, .bool false] 4)).alloc (.cells #[.int .i64 0, .int .i64 3] 3)).alloc (.cells #[.int .i64 1, .int .i64 2] 3) ∧ Bs W3 (.slice (some ⟨w.heap.size, 0, none⟩) 4 4) 4 pf ∧ Is W3 (.slice (some ⟨w.heap.size + 1, 0, none⟩) 2 2) 2 za ∧ Is W3 (.slice (some ⟨w.heap.size + 1 + 1, 0, none⟩) 2 2) 2 zb ∧ Below w.heap.size w W3 := by
  have hs1 : (w.alloc (.cells #[.bool false, .bool true, .bool true, .bool false] 4)).heap.size = w.heap.size + 1 := World.size_alloc _ _
  have hs2 : ((w.alloc (.cells #[.bool false, .bool true, .bool true, .bool false] 4)).alloc (.cells #[.int .i64 0, .int .i64 3] 3)).heap.size = w.heap.size + 1 + 1 := by rw [World.size_alloc, hs1]
  refine ⟨_, rfl, ?_, ?_, ?_, ?_⟩
  · refine (par_bs w).keep ?_
    exact ((Below.refl _ _).alloc (Nat.le_refl _) _).alloc (by rw [hs2]; omega) _
  · have h := two_is (w.alloc (.cells #[.bool false, .bool true, .bool true, .bool false] 4)) 0 3 za rfl rfl
    rw [hs1] at h
    exact h.keep ((Below.refl _ _).alloc (Nat.le_refl _) _)
  · have h := two_is ((w.alloc (.cells #[.bool false, .bool true, .bool true, .bool false] 4)).alloc (.cells #[.int .i64 0, .int .i64 3] 3)) 1 2 zb rfl rfl
    rw [hs2] at h
    exact h
  · exact (((Below.refl _ _).alloc (Nat.le_refl _) _).alloc (by rw [hs1]; omega) _).alloc (by rw [hs2]; omega) _
end Go.Proofs.Ytpmjpkpaclmpbaa
