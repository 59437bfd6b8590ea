/- A region's lexical order, checked pair by pair: cheaper for the kernel than the walk over the listed operations. -/
import Derived.Test.YtbddhccbmieokaaT6
namespace Go.Proofs.Ytbddhccbmieokaa
open Go.RowKit
set_option linter.unusedVariables false

/-- what the check needs of an operation: on which it waits, what it writes, at what it looks -/
def opRow (ops : Array Oper) (o : Oper) : List Nat × Option Tmp × List Tmp := ((o.after.toList.filter fun e => Region.binds .any e).map fun e => e.on, o.dst, o.looksAt ops)
def apartRow (x y : List Nat × Option Tmp × List Tmp) : Bool :=
  (match x.2.1 with
   | some d => !y.2.2.contains d && y.2.1 != some d
   | none => true) &&
  (match y.2.1 with
   | some d => !x.2.2.contains d
   | none => true)
def lexRows : List (List Nat × Option Tmp × List Tmp) → Nat → Bool
  | [], _ => true
  | x :: r, k => x.1.all (fun j => decide (j < k)) && r.all (fun y => y.1.contains k || apartRow x y) && lexRows r (k + 1)

theorem apartRow_eq (ops : Array Oper) (x y : Oper) : apartRow (opRow ops x) (opRow ops y) = x.apart ops y := rfl
theorem lexFrom_of (ops : Array Oper) : ∀ (l : List Oper) (k : Nat) (listed : Array Bool), (∀ j, l[j]? = ops[k + j]?) → k + l.length = ops.size →
    (∀ j, j < k → listed.getD j true = true ∧ listed.getD j false = true) → (∀ j, k ≤ j → j < ops.size → listed.getD j true = false) → listed.size = ops.size →
    lexRows (l.map (opRow ops)) k = true → Region.lexFrom .any ops l.length k listed = true
  | [], k, listed, hl, hn, h1, h2, hs, _ => by
    have : Region.ready .any ops listed = [] := by
      apply List.eq_nil_iff_forall_not_mem.2
      intro j hj
      obtain ⟨h0, o, ho, _⟩ := mem_ready.1 hj
      have hlt := (Array.getElem?_eq_some_iff.1 ho).1
      rw [(h1 j (by simp at hn; omega)).1] at h0
      cases h0
    simp [Region.lexFrom, this]
  | o :: l, k, listed, hl, hn, h1, h2, hs, h => by
    have h0 : ops[k]? = some o := by simpa using (hl 0).symm
    have hk : k < ops.size := (Array.getElem?_eq_some_iff.1 h0).1
    simp only [List.map_cons, lexRows, Bool.and_eq_true] at h
    obtain ⟨⟨ha, hb⟩, hc⟩ := h
    rw [List.all_eq_true] at ha hb
    have hset : ∀ j b, (listed.setIfInBounds k true).getD j b = if j = k then true else listed.getD j b := fun j b => by
      by_cases hjk : j = k
      · subst hjk
        rw [if_pos rfl, Array.getD_eq_getD_getElem?, Array.getElem?_setIfInBounds_self_of_lt (by omega)]
        rfl
      · rw [if_neg hjk, Array.getD_eq_getD_getElem?, Array.getElem?_setIfInBounds_ne (by omega), Array.getD_eq_getD_getElem?]
    simp only [List.length_cons, Region.lexFrom, Bool.and_eq_true]
    refine ⟨⟨?_, ?_⟩, ?_⟩
    · rw [List.contains_iff_mem]
      refine mem_ready.2 ⟨h2 k (Nat.le_refl _) hk, o, h0, fun e he hbd => ?_⟩
      have := ha e.on (by
        refine List.mem_map.2 ⟨e, List.mem_filter.2 ⟨by simpa using he, hbd⟩, rfl⟩)
      exact (h1 e.on (of_decide_eq_true this)).2
    · unfold Region.free
      rw [h0]
      simp only [List.all_eq_true, List.mem_range]
      intro j hj
      rcases Nat.lt_trichotomy j k with hlt | heq | hgt
      · rw [(h1 j hlt).1]; simp
      · simp [heq]
      · obtain ⟨oj, hoj⟩ : ∃ oj, ops[j]? = some oj := ⟨ops[j], Array.getElem?_eq_getElem hj⟩
        rw [hoj]
        have hmem : oj ∈ l := by
          have e1 := hl (j - k)
          rw [show k + (j - k) = j by omega, hoj] at e1
          obtain ⟨m, hm⟩ : ∃ m, j - k = m + 1 := ⟨j - k - 1, by omega⟩
          rw [hm, List.getElem?_cons_succ] at e1
          exact List.mem_of_getElem? e1
        have h3 := hb _ (List.mem_map.2 ⟨oj, hmem, rfl⟩)
        rw [Bool.or_eq_true] at h3
        have h4 : (oj.after.any (fun e => Region.binds .any e && e.on == k) || o.apart ops oj) = true := by
          rw [Bool.or_eq_true]
          rcases h3 with h3 | h3
          · left
            rw [List.contains_iff_mem] at h3
            obtain ⟨e, he, hek⟩ := List.mem_map.1 h3
            obtain ⟨he1, he2⟩ := List.mem_filter.1 he
            rw [Array.any_eq_true']
            exact ⟨e, by simpa using he1, by simp [he2, hek]⟩
          · right
            rw [← apartRow_eq]; exact h3
        simp only [h4, Bool.or_true]
    · refine lexFrom_of ops l (k + 1) _ (fun j => ?_) (by simp at hn; omega) (fun j hj => ?_) (fun j hj1 hj2 => ?_) (by simpa using hs) hc
      · have := hl (j + 1)
        rw [List.getElem?_cons_succ] at this
        rw [this]; congr 1; omega
      · rw [hset, hset]
        by_cases hjk : j = k
        · simp [hjk]
        · rw [if_neg hjk, if_neg hjk]; exact h1 j (by omega)
      · rw [hset, if_neg (by omega)]; exact h2 j (by omega) hj2
theorem lexB_of {l : List Oper} (h1 : Region.noSelect l.toArray = true) (h2 : lexRows (l.map (opRow l.toArray)) 0 = true) : Region.lexB .any l.toArray = true := by
  unfold Region.lexB
  rw [h1, Bool.true_and]
  refine lexFrom_of l.toArray l 0 _ (fun j => by simp) (by simp) (fun j hj => by omega) (fun j _ hj => ?_) (by simp) h2
  rw [Array.getD_eq_getD_getElem?, Array.getElem?_replicate, if_pos hj]
  rfl

end Go.Proofs.Ytbddhccbmieokaa
