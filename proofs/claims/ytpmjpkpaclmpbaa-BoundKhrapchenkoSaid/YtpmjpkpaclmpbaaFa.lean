/- Plain: the entries of best: what a step keeps, and what holds at the end. -/
import Derived.Test.YtpmjpkpaclmpbaaTb
namespace Go.Proofs.Ytpmjpkpaclmpbaa
set_option linter.unusedVariables false
set_option linter.unusedSimpArgs false

abbrev BIG : Int := 1048576
/-- the functions of leaves -/
def LS (n l : Nat) : Prop := l = 0 ∨ ∃ v, v < n ∧ l = lf v (2 ^ n)
structure Join (J : Int → Int → Int) : Prop where
  mono : ∀ a b c d, 0 ≤ a → 0 ≤ b → a ≤ c → b ≤ d → J a b ≤ J c d
  comm : ∀ a b, J a b = J b a
  pos : ∀ a b, 0 ≤ a → 0 ≤ b → a ≤ J a b ∧ b ≤ J a b
  top : ∀ a b, 0 ≤ a → 0 ≤ b → a ≤ BIG → b ≤ BIG → J a b ≤ 2 * BIG + 1
theorem join_sum : Join (fun a b => a + b) := ⟨fun _ _ _ _ _ _ _ _ => by omega, fun _ _ => by omega, fun _ _ _ _ => by omega, fun _ _ _ _ _ _ => by omega⟩
theorem join_max : Join (fun a b => 1 + max a b) := ⟨fun _ _ _ _ _ _ _ _ => by omega, fun _ _ => by omega, fun _ _ _ _ => by omega, fun _ _ _ _ _ _ => by omega⟩
inductive Der (n M : Nat) (leaf : Int) (xor : Bool) (J : Int → Int → Int) : Nat → Int → Prop
  | leaf {l : Nat} : LS n l → Der n M leaf xor J l leaf
  | neg {f : Nat} {c : Int} : f ≤ M → Der n M leaf xor J f c → Der n M leaf xor J (M - f) c
  | and {x y : Nat} {a b : Int} : x ≤ M → y ≤ M → Der n M leaf xor J x a → Der n M leaf xor J y b → Der n M leaf xor J (x &&& y) (J a b)
  | xor {x y : Nat} {a b : Int} : xor = true → x ≤ M → y ≤ M → Der n M leaf xor J x a → Der n M leaf xor J y b → Der n M leaf xor J (x ^^^ y) (J a b)
/-- how an entry is made -/
def Shp (n M : Nat) (leaf : Int) (xor : Bool) (J : Int → Int → Int) (C : Nat → Int) (f : Nat) (e : Ent) : Prop :=
  (e.k = -1 ∧ ∃ l : Nat, LS n l ∧ e.a = l ∧ e.c = leaf ∧ f = if e.nt then M - l else l) ∨
  (∃ x y : Nat, y ≤ x ∧ x ≤ M ∧ e.a = x ∧ e.b = y ∧ J (C x) (C y) ≤ e.c ∧ C x < BIG ∧ C y < BIG ∧ ((e.k = 3 ∧ f = if e.nt then M - (x &&& y) else x &&& y) ∨ (xor = true ∧ e.k = 5 ∧ f = if e.nt then M - (x ^^^ y) else x ^^^ y)))
def cs (E : Nat → Ent) (f : Nat) : Int := (E f).c
structure Inv (n M : Nat) (leaf : Int) (xor : Bool) (J : Int → Int → Int) (E : Nat → Ent) : Prop where
  hb : ∀ f, f ≤ M → 0 ≤ cs E f ∧ cs E f ≤ BIG
  hd : ∀ f, f ≤ M → cs E f < BIG → Der n M leaf xor J f (cs E f)
  hs : ∀ f, f ≤ M → cs E (M - f) = cs E f
  hk : ∀ f, f ≤ M → cs E f < BIG → Shp n M leaf xor J (cs E) f (E f)
theorem cs_set (M : Nat) (E : Nat → Ent) (f : Nat) (e : Ent) (u : Nat) : cs (setE M E f e) u = if u = M - f ∨ u = f then e.c else cs E u := by
  unfold cs setE updE
  by_cases h1 : u = M - f
  · simp [h1]
  · by_cases h2 : u = f
    · simp only [h2, or_true, if_true]
      split <;> rfl
    · simp [h1, h2]
theorem Shp.less {n M : Nat} {leaf : Int} {xor : Bool} {J : Int → Int → Int} {C C' : Nat → Int} {f : Nat} {e : Ent} (h : Shp n M leaf xor J C f e) (hJ : Join J) (h0 : ∀ u, u ≤ M → 0 ≤ C' u) (hle : ∀ u, u ≤ M → C' u ≤ C u) : Shp n M leaf xor J C' f e := by
  rcases h with h | ⟨x, y, h1, h2, h3, h4, h5, h6, h7, h8⟩
  · exact .inl h
  · refine .inr ⟨x, y, h1, h2, h3, h4, ?_, ?_, ?_, h8⟩
    · exact Int.le_trans (hJ.mono _ _ _ _ (h0 x h2) (h0 y (by omega)) (hle x h2) (hle y (by omega))) h5
    · have := hle x h2; omega
    · have := hle y (by omega); omega
theorem Shp.neg {n M : Nat} {leaf : Int} {xor : Bool} {J : Int → Int → Int} {C : Nat → Int} {f : Nat} {e : Ent} (h : Shp n M leaf xor J C f e) (hn : e.nt = false) : Shp n M leaf xor J C (M - f) { e with nt := true } := by
  rcases h with ⟨h1, l, h2, h3, h4, h5⟩ | ⟨x, y, h1, h2, h3, h4, h5, h6, h7, h8⟩
  · refine .inl ⟨h1, l, h2, h3, h4, ?_⟩
    rw [hn] at h5
    simp at h5
    simp [h5]
  · refine .inr ⟨x, y, h1, h2, h3, h4, h5, h6, h7, ?_⟩
    rw [hn] at h8
    simp at h8
    rcases h8 with ⟨e1, e2⟩ | ⟨e0, e1, e2⟩
    · exact .inl ⟨e1, by simp [e2]⟩
    · exact .inr ⟨e0, e1, by simp [e2]⟩
theorem Inv.step {n M : Nat} {leaf : Int} {xor : Bool} {J : Int → Int → Int} {E : Nat → Ent} (h : Inv n M leaf xor J E) (hJ : Join J) {f : Nat} {e : Ent} (hf : f ≤ M) (hodd : M % 2 = 1) (hc : e.c < cs E f) (h0 : 0 ≤ e.c) (hn : e.nt = false) (hder : Der n M leaf xor J f e.c) (hshp : Shp n M leaf xor J (cs E) f e) : Inv n M leaf xor J (setE M E f e) := by
  have hle : ∀ u, u ≤ M → cs (setE M E f e) u ≤ cs E u := fun u hu => by
    rw [cs_set]
    by_cases h1 : u = M - f
    · rw [if_pos (.inl h1), h1, h.hs f hf]; omega
    · by_cases h2 : u = f
      · rw [if_pos (.inr h2), h2]; omega
      · rw [if_neg (by simp [h1, h2])]; omega
  have hge : ∀ u, u ≤ M → 0 ≤ cs (setE M E f e) u := fun u hu => by
    rw [cs_set]
    split
    · exact h0
    · exact (h.hb u hu).1
  have hne : M - f ≠ f := by omega
  refine ⟨fun u hu => ⟨hge u hu, Int.le_trans (hle u hu) (h.hb u hu).2⟩, fun u hu hlt => ?_, fun u hu => ?_, fun u hu hlt => ?_⟩
  · rw [cs_set] at hlt ⊢
    by_cases h1 : u = M - f
    · rw [if_pos (.inl h1), h1]; exact .neg hf hder
    · by_cases h2 : u = f
      · rw [if_pos (.inr h2), h2]; exact hder
      · rw [if_neg (by simp [h1, h2])] at hlt ⊢
        exact h.hd u hu hlt
  · rw [cs_set, cs_set]
    have e1 : (M - u = M - f ∨ M - u = f) ↔ (u = M - f ∨ u = f) := by omega
    by_cases h3 : u = M - f ∨ u = f
    · rw [if_pos h3, if_pos (e1.2 h3)]
    · rw [if_neg h3, if_neg (fun h4 => h3 (e1.1 h4))]
      exact h.hs u hu
  · have key : Shp n M leaf xor J (cs E) u (setE M E f e u) := by
      by_cases h1 : u = M - f
      · have : setE M E f e u = { e with nt := true } := by simp [setE, updE, h1, hn]
        rw [this, h1]
        exact hshp.neg hn
      · by_cases h2 : u = f
        · have : setE M E f e u = e := by simp only [setE, updE]; rw [if_neg h1, if_pos h2]
          rw [this, h2]
          exact hshp
        · have : setE M E f e u = E u := by simp only [setE, updE]; rw [if_neg h1, if_neg h2]
          rw [this]
          refine h.hk u hu ?_
          rw [cs_set, if_neg (by simp [h1, h2])] at hlt
          exact hlt
    exact key.less hJ hge hle
/-- the sum of the costs -/
def phi (E : Nat → Ent) : Nat → Nat
  | 0 => 0
  | i + 1 => phi E i + (cs E i).toNat
theorem phi_le {E E' : Nat → Ent} : ∀ N, (∀ u, u < N → cs E' u ≤ cs E u) → phi E' N ≤ phi E N
  | 0, h => Nat.le_refl _
  | N + 1, h => by
    have := phi_le N (fun u hu => h u (by omega))
    have := h N (by omega)
    simp only [phi]
    omega
theorem phi_lt {E E' : Nat → Ent} : ∀ N, (∀ u, u < N → cs E' u ≤ cs E u) → ∀ f, f < N → 0 ≤ cs E' f → cs E' f < cs E f → phi E' N < phi E N
  | 0, h, f, hf, h0, hlt => by omega
  | N + 1, h, f, hf, h0, hlt => by
    simp only [phi]
    by_cases e : f = N
    · have := phi_le N (fun u hu => h u (by omega))
      subst e
      omega
    · have := phi_lt N (fun u hu => h u (by omega)) f (by omega) h0 hlt
      have := h N (by omega)
      omega
/-- closed under leaves and joins -/
structure Clo (n M : Nat) (leaf : Int) (xor : Bool) (J : Int → Int → Int) (E : Nat → Ent) : Prop where
  lv : ∀ l, LS n l → cs E l ≤ leaf
  nd : ∀ x y, y ≤ x → x ≤ M → J (cs E x) (cs E y) < BIG → cs E (x &&& y) ≤ J (cs E x) (cs E y) ∧ (xor = true → cs E (x ^^^ y) ≤ J (cs E x) (cs E y))
theorem Clo.least {n M : Nat} {leaf : Int} {xor : Bool} {J : Int → Int → Int} {E : Nat → Ent} (h : Clo n M leaf xor J E) (hi : Inv n M leaf xor J E) (hJ : Join J) (hpow : ∃ k, M + 1 = 2 ^ k) (hls : ∀ l, LS n l → l ≤ M) : ∀ {f : Nat} {c : Int}, Der n M leaf xor J f c → f ≤ M ∧ (c < BIG → cs E f ≤ c) := by
  have hand : ∀ x y, x ≤ M → x &&& y ≤ M := fun x y hx => Nat.le_trans Nat.and_le_left hx
  have hxor : ∀ x y, x ≤ M → y ≤ M → x ^^^ y ≤ M := fun x y hx hy => by
    obtain ⟨k, hk⟩ := hpow
    have := Nat.xor_lt_two_pow (n := k) (x := x) (y := y) (by omega) (by omega)
    omega
  have hBIG : BIG = 1048576 := rfl
  intro f c hd
  induction hd with
  | leaf hl => exact ⟨hls _ hl, fun _ => h.lv _ hl⟩
  | neg hf _ ih => exact ⟨by omega, fun hc => by rw [hi.hs _ hf]; exact ih.2 hc⟩
  | @and x y a b hx hy _ _ i1 i2 =>
    refine ⟨hand _ _ hx, fun hc => ?_⟩
    have p0 := (hi.hb x hx).1
    have p1 := (hi.hb y hy).1
    by_cases ha : a < BIG
    · by_cases hb : b < BIG
      · have m1 := hJ.mono _ _ _ _ p0 p1 (i1.2 ha) (i2.2 hb)
        rcases Nat.le_total y x with hyx | hxy
        · have := (h.nd x y hyx hx (by omega)).1
          omega
        · have := (h.nd y x hxy hy (by rw [hJ.comm]; omega)).1
          rw [Nat.and_comm, hJ.comm] at this
          omega
      · have a0 : 0 ≤ a := Int.le_trans p0 (i1.2 ha)
        have := (hJ.pos a b a0 (by omega)).2
        omega
    · by_cases hb : 0 ≤ b
      · have := (hJ.pos a b (by omega) hb).1
        omega
      · have := i2.2 (by omega)
        omega
  | @xor x y a b hxo hx hy _ _ i1 i2 =>
    refine ⟨hxor _ _ hx hy, fun hc => ?_⟩
    have p0 := (hi.hb x hx).1
    have p1 := (hi.hb y hy).1
    by_cases ha : a < BIG
    · by_cases hb : b < BIG
      · have m1 := hJ.mono _ _ _ _ p0 p1 (i1.2 ha) (i2.2 hb)
        rcases Nat.le_total y x with hyx | hxy
        · have := (h.nd x y hyx hx (by omega)).2 hxo
          omega
        · have := (h.nd y x hxy hy (by rw [hJ.comm]; omega)).2 hxo
          rw [Nat.xor_comm, hJ.comm] at this
          omega
      · have a0 : 0 ≤ a := Int.le_trans p0 (i1.2 ha)
        have := (hJ.pos a b a0 (by omega)).2
        omega
    · by_cases hb : 0 ≤ b
      · have := (hJ.pos a b (by omega) hb).1
        omega
      · have := i2.2 (by omega)
        omega
end Go.Proofs.Ytpmjpkpaclmpbaa
