/- A law for a region that draws its order: what each operation leaves is told by a fact that the other operations keep. -/
import Derived.Test.YtjahkdomofhfgaaTh
namespace Go.Proofs.Ytjahkdomofhfgaa
open Go.RowKit
set_option linter.unusedVariables false
set_option linter.unusedSimpArgs false

/-- what an operation waits for -/
def depsOf (ops : Array Oper) (i : Nat) : List Nat := match ops[i]? with
  | some o => (o.after.toList.filter (Region.binds .any)).map (·.on)
  | none => []
def dstOf (ops : Array Oper) (i : Nat) : Option Tmp := (ops[i]?).bind (·.dst)
def spread (ops : Array Oper) : Nat → List Nat → List Nat
  | 0, l => l
  | n + 1, l => spread ops n ((List.range ops.size).filter fun j => l.contains j || l.any fun k => (depsOf ops k).contains j)

/-- the checks that the kernel makes -/
def invB (ops : Array Oper) (l0 : Array Bool) (free : List Nat) : Bool :=
  decide free.Nodup && decide (l0.size = ops.size) &&
  free.all (fun i => (l0.getD i true == false) && (match ops[i]? with | some o => o.guard.isNone && o.dst.isSome | none => false) && (depsOf ops i).all (fun j => decide (j < i) && (free.contains j || l0.getD j false))) &&
  free.all (fun i => free.all (fun j => i == j || dstOf ops i != dstOf ops j)) &&
  (List.range ops.size).all (fun t => free.contains t || l0.getD t true || (let s := spread ops 6 (depsOf ops t); free.all (fun i => s.contains i))) &&
  (List.range ops.size).all (fun t => !l0.getD t false || (depsOf ops t).all (fun j => l0.getD j false))

def setAll (l : Array Bool) (S : List Nat) : Array Bool := S.foldl (fun l i => l.setIfInBounds i true) l
def putAll (ops : Array Oper) (v : Nat → Value) (a : Act) (S : List Nat) : Act := S.foldl (fun a i => a.put (dstOf ops i) (v i)) a

theorem setAll_size (S : List Nat) : ∀ l, (setAll l S).size = l.size := by
  induction S with
  | nil => intro l; rfl
  | cons i S ih => intro l; show (setAll (l.setIfInBounds i true) S).size = _; rw [ih]; simp
theorem setAll_get (S : List Nat) (d : Bool) : ∀ (l : Array Bool) (j : Nat), j < l.size → (setAll l S).getD j d = (decide (j ∈ S) || l.getD j d) := by
  induction S with
  | nil => intro l j hj; simp [setAll]
  | cons i S ih =>
    intro l j hj
    show (setAll (l.setIfInBounds i true) S).getD j d = _
    rw [ih _ _ (by simpa using hj)]
    by_cases e : j = i
    · subst e
      simp [hj]
    · have : (l.setIfInBounds i true).getD j d = l.getD j d := by
        simp [Array.getD_eq_getD_getElem?, Array.getElem?_setIfInBounds, Ne.symm e]
      rw [this]
      simp [e]
theorem setAll_perm {S T : List Nat} (h : S.Perm T) (l : Array Bool) : setAll l S = setAll l T :=
  h.foldl_eq' (fun x _ y _ z => by
    by_cases e : x = y
    · rw [e]
    · exact (Array.setIfInBounds_comm _ _ e).symm ▸ rfl) l

theorem spread_listed {ops : Array Oper} {T : Nat → Prop} (hT : ∀ i, T i → ∀ j ∈ depsOf ops i, T j) : ∀ n l, (∀ j ∈ l, T j) → ∀ j ∈ spread ops n l, T j
  | 0, l, h => h
  | n + 1, l, h => spread_listed hT n _ fun j hj => by
    simp only [List.mem_filter, Bool.or_eq_true, List.contains_iff_mem, List.any_eq_true] at hj
    rcases hj.2 with h1 | ⟨k, hk, h2⟩
    · exact h j h1
    · exact hT k (h k hk) j h2

variable {ops : Array Oper} {free : List Nat}
def Apt (ops : Array Oper) (free : List Nat) : Prop := ∀ i ∈ free, ∀ j ∈ free, i ≠ j → dstOf ops i ≠ dstOf ops j
theorem putAll_perm (hd : Apt ops free) (v : Nat → Value) {S T : List Nat} (hS : ∀ i ∈ S, i ∈ free) (h : S.Perm T) (a : Act) : putAll ops v a S = putAll ops v a T :=
  h.foldl_eq' (fun x hx y hy z => by
    by_cases e : x = y
    · rw [e]
    · exact (Act.put_comm z (v x) (v y) (fun d h1 h2 => hd x (hS x hx) y (hS y hy) e (h1.trans h2.symm)))) a
theorem putAll_congr {v v' : Nat → Value} {S : List Nat} (h : ∀ i ∈ S, v i = v' i) : ∀ a, putAll ops v a S = putAll ops v' a S := by
  induction S with
  | nil => intro a; rfl
  | cons i S ih =>
    intro a
    show putAll ops v (a.put (dstOf ops i) (v i)) S = putAll ops v' (a.put (dstOf ops i) (v' i)) S
    rw [h i (by simp), ih (fun j hj => h j (by simp [hj]))]
theorem put_size (a : Act) (d : Option Tmp) (v : Value) : (a.put d v).tmps.size = a.tmps.size := by
  cases d <;> simp [Act.put]
theorem putAll_size (v : Nat → Value) (S : List Nat) : ∀ a, (putAll ops v a S).tmps.size = a.tmps.size := by
  induction S with
  | nil => intro a; rfl
  | cons i S ih => intro a; exact (ih _).trans (put_size _ _ _)
theorem put_eval_ne (a : Act) {d : Option Tmp} (v : Value) {k : Tmp} (h : d ≠ some k) : (a.put d v).eval (.tmp k) = a.eval (.tmp k) := by
  cases d with
  | none => rfl
  | some d =>
    have : d ≠ k := fun e => h (by rw [e])
    simp [Act.put, Act.eval, Array.getD_eq_getD_getElem?, Array.getElem?_setIfInBounds, this]
theorem put_eval_same (a : Act) {k : Tmp} (v : Value) (h : k < a.tmps.size) : (a.put (some k) v).eval (.tmp k) = v := by
  simp [Act.put, Act.eval, Array.getD_eq_getD_getElem?, h]
theorem putAll_eval_ne (v : Nat → Value) {k : Tmp} {S : List Nat} (h : ∀ i ∈ S, dstOf ops i ≠ some k) : ∀ a, (putAll ops v a S).eval (.tmp k) = a.eval (.tmp k) := by
  induction S with
  | nil => intro a; rfl
  | cons i S ih => intro a; exact (ih (fun j hj => h j (by simp [hj])) _).trans (put_eval_ne _ _ (h i (by simp)))
theorem putAll_eval (hd : Apt ops free) (v : Nat → Value) {S : List Nat} (hS : ∀ i ∈ S, i ∈ free) (hn : S.Nodup) {j : Nat} (hj : j ∈ S) {k : Tmp} (hk : dstOf ops j = some k) : ∀ a : Act, k < a.tmps.size → (putAll ops v a S).eval (.tmp k) = v j := by
  induction S with
  | nil => simp at hj
  | cons i S ih =>
    intro a ha
    show (putAll ops v (a.put (dstOf ops i) (v i)) S).eval (.tmp k) = v j
    rw [List.nodup_cons] at hn
    by_cases e : j = i
    · subst e
      rw [putAll_eval_ne v (fun x hx hxk => hd x (hS x (by simp [hx])) j (hS j (by simp)) (fun e => hn.1 (e ▸ hx)) (hxk.trans hk.symm)), hk]
      exact put_eval_same _ _ ha
    · have hj' : j ∈ S := by simpa [e] using hj
      exact ih (fun x hx => hS x (by simp [hx])) hn.2 hj' _ (by rw [put_size]; exact ha)

theorem len_sub : ∀ {S T : List Nat}, S.Nodup → (∀ i ∈ S, i ∈ T) → S.length ≤ T.length
  | [], T, _, _ => Nat.zero_le _
  | x :: S, T, hn, h => by
    rw [List.nodup_cons] at hn
    have hx := h x (by simp)
    have := len_sub (S := S) (T := T.erase x) hn.2 (fun i hi => (List.mem_erase_of_ne (fun (e : i = x) => hn.1 (e ▸ hi))).2 (h i (by simp [hi])))
    rw [List.length_erase_of_mem hx] at this
    have := List.length_pos_of_mem hx
    simp only [List.length_cons]
    omega
theorem all_in {S T : List Nat} (hn : S.Nodup) (h : ∀ i ∈ S, i ∈ T) (hl : T.length ≤ S.length) : ∀ i ∈ T, i ∈ S := by
  intro i hi
  apply Classical.byContradiction
  intro hc
  have := len_sub (S := i :: S) (T := T) (List.nodup_cons.2 ⟨hc, hn⟩) (by simp; exact ⟨hi, h⟩)
  simp only [List.length_cons] at this
  omega

variable {P : Program} {Q : Exit → Act → World → Prop}
/-- THE LAW. 'free': the operations that are told by facts; F i: what is known of operation i's value; C: what is known of the world. -/
theorem wpAny_inv (free : List Nat) {l0 : Array Bool} {a0 : Act} {w0 : World} (C : World → Prop) (F : Nat → Value → World → Prop) (hB : invB ops l0 free = true) (hA : free.all (fun i => match dstOf ops i with | some d => decide (d < a0.tmps.size) | none => true) = true) (hC : C w0)
    (hstep : ∀ i ∈ free, ∀ o, ops[i]? = some o → ∀ a w, C w → (∀ j ∈ depsOf ops i, j ∈ free → ∀ d, dstOf ops j = some d → F j (a.eval (.tmp d)) w) → (∀ d, (∀ j ∈ free, dstOf ops j ≠ some d) → a.eval (.tmp d) = a0.eval (.tmp d)) →
      o.wp P a w (fun a' w' => ∃ v, a' = a.put o.dst v ∧ F i v w' ∧ C w' ∧ ∀ j ∈ free, ∀ u, F j u w → F j u w') Q)
    (fuel : Nat) (hend : ∀ (v : Nat → Value) w, C w → (∀ i ∈ free, F i (v i) w) → wpAny P .any ops Q fuel (setAll l0 free) (putAll ops v a0 free) w) :
    wpAny P .any ops Q (fuel + free.length) l0 a0 w0 := by
  simp only [invB, Bool.and_eq_true, decide_eq_true_eq, List.all_eq_true, beq_iff_eq, Bool.or_eq_true, List.mem_range, bne_iff_ne, ne_eq, Bool.not_eq_true'] at hB
  obtain ⟨⟨⟨⟨⟨hnd, hsz⟩, h1⟩, h2⟩, h3⟩, h4⟩ := hB
  have hapt : Apt ops free := fun i hi j hj e => (h2 i hi j hj).resolve_left e
  have hop : ∀ i ∈ free, ∃ o d, ops[i]? = some o ∧ o.guard = none ∧ o.dst = some d := fun i hi => by
    have := (h1 i hi).1.2
    cases ho : ops[i]? with
    | none => rw [ho] at this; simp at this
    | some o =>
      rw [ho] at this
      simp only [Bool.and_eq_true, Option.isNone_iff_eq_none, Option.isSome_iff_exists] at this
      obtain ⟨hg, d, hd⟩ := this
      exact ⟨o, d, rfl, hg, hd⟩
  suffices H : ∀ n (S : List Nat) (v : Nat → Value) (w : World), S.Nodup → (∀ i ∈ S, i ∈ free) → S.length + n = free.length → C w → (∀ i ∈ S, F i (v i) w) → (∀ i ∈ S, ∀ j ∈ depsOf ops i, j ∈ S ∨ l0.getD j false = true) →
      wpAny P .any ops Q (fuel + n) (setAll l0 S) (putAll ops v a0 S) w by
    have := H free.length [] (fun _ => undef) w0 (by simp) (by simp) (by simp) hC (by simp) (by simp)
    exact this
  intro n
  induction n with
  | zero =>
    intro S v w hn hS hlen hw hF _
    have hp : S.Perm free := (List.perm_ext_iff_of_nodup hn hnd).2 fun i => ⟨hS i, all_in hn hS (by omega) i⟩
    rw [setAll_perm hp, putAll_perm hapt v hS hp]
    exact hend v w hw fun i hi => hF i (all_in hn hS (by omega) i hi)
  | succ n ih =>
    intro S v w hn hS hlen hw hF hcl
    have hget : ∀ j, j < ops.size → (setAll l0 S).getD j false = (decide (j ∈ S) || l0.getD j false) := fun j hj => setAll_get S false l0 j (by rw [hsz]; exact hj)
    have hgett : ∀ j, j < ops.size → (setAll l0 S).getD j true = (decide (j ∈ S) || l0.getD j true) := fun j hj => setAll_get S true l0 j (by rw [hsz]; exact hj)
    -- what is listed is closed
    have hT : ∀ i, (i ∈ S ∨ l0.getD i false = true) → ∀ j ∈ depsOf ops i, (j ∈ S ∨ l0.getD j false = true) := fun i hi j hj => by
      rcases hi with hi | hi
      · exact hcl i hi j hj
      · have hlt : i < ops.size := by
          apply Classical.byContradiction
          intro hc
          rw [Array.getD_eq_getD_getElem?, Array.getElem?_eq_none (by omega)] at hi
          simp at hi
        exact .inr ((h4 i hlt).resolve_left (by rw [hi]; decide) j hj)
    have hready : ∀ i ∈ Region.ready .any ops (setAll l0 S), i ∈ free ∧ i ∉ S ∧ ∀ j ∈ depsOf ops i, (j ∈ S ∨ l0.getD j false = true) := fun i hi => by
      obtain ⟨hu, o, ho, hall⟩ := mem_ready.1 hi
      have hlt : i < ops.size := (Array.getElem?_eq_some_iff.1 ho).1
      rw [hgett i hlt] at hu
      simp only [Bool.or_eq_false_iff, decide_eq_false_iff_not] at hu
      have hdeps : ∀ j ∈ depsOf ops i, (j ∈ S ∨ l0.getD j false = true) := fun j hj => by
        simp only [depsOf, ho, List.mem_map, List.mem_filter] at hj
        obtain ⟨e, ⟨he, hb⟩, rfl⟩ := hj
        have hl := hall e (by simpa using he) hb
        have hlt' : e.on < ops.size := by
          apply Classical.byContradiction
          intro hc
          rw [Array.getD_eq_getD_getElem?, Array.getElem?_eq_none (by rw [setAll_size, hsz]; omega)] at hl
          simp at hl
        rw [hget _ hlt'] at hl
        simpa using hl
      refine ⟨?_, hu.1, hdeps⟩
      rcases h3 i hlt with (hf | hf) | hf
      · simpa using hf
      · rw [hu.2] at hf; cases hf
      · exfalso
        have hsp := spread_listed (T := fun j => j ∈ S ∨ l0.getD j false = true) hT 6 _ hdeps
        have : ∀ x ∈ free, x ∈ S := fun x hx => by
          rcases hsp x (by simpa using hf x hx) with h | h
          · exact h
          · have h0 := (h1 x hx).1.1
            have hlx : x < l0.size := by
              obtain ⟨o', d', ho', _⟩ := hop x hx
              rw [hsz]; exact (Array.getElem?_eq_some_iff.1 ho').1
            rw [Array.getD_eq_getD_getElem?, Array.getElem?_eq_getElem hlx] at h h0
            simp at h h0
            rw [h] at h0; cases h0
        have := len_sub hnd this
        omega
    have hsome : Region.ready .any ops (setAll l0 S) ≠ [] := by
      -- the least that is not yet listed
      have hex : ∃ i, i ∈ free ∧ i ∉ S := by
        apply Classical.byContradiction
        intro hc
        have : ∀ x ∈ free, x ∈ S := fun x hx => Classical.byContradiction fun h => hc ⟨x, hx, h⟩
        have := len_sub hnd this
        omega
      have hmin : ∃ i, i ∈ free ∧ i ∉ S ∧ ∀ j, j < i → j ∈ free → j ∈ S := by
        obtain ⟨i, hi⟩ := hex
        induction i using Nat.strongRecOn with
        | _ i IH =>
          by_cases hc : ∀ j, j < i → j ∈ free → j ∈ S
          · exact ⟨i, hi.1, hi.2, hc⟩
          · have : ∃ j, j < i ∧ j ∈ free ∧ j ∉ S := Classical.byContradiction fun h => hc fun j h1 h2 => Classical.byContradiction fun h3 => h ⟨j, h1, h2, h3⟩
            obtain ⟨j, hj, hj2⟩ := this
            exact IH j hj hj2
      obtain ⟨i, hi, hiS, hless⟩ := hmin
      obtain ⟨o, d, ho, hg, hd⟩ := hop i hi
      have hlt : i < ops.size := (Array.getElem?_eq_some_iff.1 ho).1
      intro h0
      have : i ∈ Region.ready .any ops (setAll l0 S) := mem_ready.2 ⟨by rw [hgett i hlt]; simp [hiS, (h1 i hi).1.1], o, ho, fun e he hb => by
        have hj : e.on ∈ depsOf ops i := by
          simp only [depsOf, ho, List.mem_map, List.mem_filter]
          exact ⟨e, ⟨by simpa using he, hb⟩, rfl⟩
        obtain ⟨hji, hjf⟩ := (h1 i hi).2 e.on hj
        rw [hget _ (by omega)]
        simp only [Bool.or_eq_true, decide_eq_true_eq]
        rcases hjf with hjf | hjf
        · exact .inl (hless _ hji (by simpa using hjf))
        · exact .inr hjf⟩
      rw [h0] at this
      cases this
    refine ⟨fun h0 => absurd h0 hsome, fun i hi => ?_⟩
    obtain ⟨hif, hiS, hdeps⟩ := hready i hi
    obtain ⟨o, d, ho, hg, hd⟩ := hop i hif
    have hdi : dstOf ops i = some d := by simp [dstOf, ho, hd]
    have hstp := hstep i hif o ho (putAll ops v a0 S) w hw
      (fun j hj hjf k hk => by
        have hjS : j ∈ S := by
          rcases hdeps j hj with h | h
          · exact h
          · have h0 := (h1 j hjf).1.1
            have hlx : j < l0.size := by
              obtain ⟨o', d', ho', _⟩ := hop j hjf
              rw [hsz]; exact (Array.getElem?_eq_some_iff.1 ho').1
            rw [Array.getD_eq_getD_getElem?, Array.getElem?_eq_getElem hlx] at h h0
            simp at h h0
            rw [h] at h0; cases h0
        have hkl : k < a0.tmps.size := by
          have := List.all_eq_true.1 hA j hjf
          rw [hk] at this
          simpa using this
        rw [putAll_eval hapt v hS hn hjS hk a0 hkl]
        exact hF j hjS)
      (fun k hk => putAll_eval_ne v (fun x hx => hk x (hS x hx)) a0)
    unfold wpOp
    rw [ho]
    have hwant : Region.wanted o (yielded ops (putAll ops v a0 S).tmps) = true := by simp [Region.wanted, hg]
    simp only [hwant, if_true]
    left
    refine Oper.wp_mono ?_ hstp
    rintro a' w' ⟨x, rfl, hFx, hCx, hkeep⟩
    have key := ih (S ++ [i]) (fun j => if j = i then x else v j) w' (by
        rw [List.nodup_append]
        exact ⟨hn, by simp, fun a ha b hb => by simp at hb; rw [hb]; intro e; exact hiS (e ▸ ha)⟩)
      (fun j hj => by
        rcases List.mem_append.1 hj with h | h
        · exact hS j h
        · simp at h; rw [h]; exact hif)
      (by simp; omega) hCx
      (fun j hj => by
        rcases List.mem_append.1 hj with h | h
        · have : j ≠ i := fun e => hiS (e ▸ h)
          simp only [if_neg this]
          exact hkeep j (hS j h) _ (hF j h)
        · simp at h; subst h; simp only [if_pos rfl]; exact hFx)
      (fun j hj k hk => by
        rcases List.mem_append.1 hj with h | h
        · rcases hcl j h k hk with h' | h'
          · exact .inl (by simp [h'])
          · exact .inr h'
        · simp at h; subst h
          rcases hdeps k hk with h' | h'
          · exact .inl (by simp [h'])
          · exact .inr h')
    have e1 : setAll l0 (S ++ [i]) = (setAll l0 S).setIfInBounds i true := by simp [setAll, List.foldl_append]
    have e2 : putAll ops (fun j => if j = i then x else v j) a0 (S ++ [i]) = (putAll ops v a0 S).put o.dst x := by
      simp only [putAll, List.foldl_append, List.foldl_cons, List.foldl_nil, if_pos rfl, hdi, hd]
      congr 1
      exact putAll_congr (ops := ops) (fun j hj => by
        have : j ≠ i := fun e => hiS (e ▸ hj)
        simp only [if_neg this]) a0
    rw [e1, e2] at key
    exact key

end Go.Proofs.Ytjahkdomofhfgaa
