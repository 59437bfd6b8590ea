/- Plain: numbers of different functions; the submasks of a mask in rising order; The reference's Functions; The reference's Functions; subfunctions: how many different functions a block has. -/
import Derived.Test.YtpfbommaddaijaaZfKa
import Derived.Test.YtpfbommaddaijaaZfKc
import Derived.Laws.BytesArg
import Derived.StringKeys
import Derived.Laws.ShiftsVarLaws
import Derived.Test.YtpfbommaddaijaaZfWWords
namespace Go.Proofs.Ytpfbommaddaijaa
open Go.Maps
set_option linter.unusedVariables false
set_option linter.unusedSimpArgs false

/-- the bits of y laid at the places l -/
def spr (l : Nat → Nat) (y : Nat) : Nat → Nat
  | 0 => 0
  | i + 1 => spr l y i ||| (if y.testBit i = true then 2 ^ l i else 0)
def msk (l : Nat → Nat) : Nat → Nat
  | 0 => 0
  | i + 1 => msk l i ||| 2 ^ l i
/-- the places that y leaves empty -/
def gap (l : Nat → Nat) (y : Nat) : Nat → Nat
  | 0 => 0
  | i + 1 => gap l y i + (if y.testBit i = true then 0 else 2 ^ l i)
/-- rising -/
def Rise (l : Nat → Nat) (k : Nat) : Prop := ∀ i j, i < j → j < k → l i < l j
theorem Rise.less {l : Nat → Nat} {k j : Nat} (h : Rise l k) (hj : j ≤ k) : Rise l j := fun a b hab hb => h a b hab (by omega)
theorem or_top {b v : Nat} (h : b < 2 ^ v) : b ||| 2 ^ v = b + 2 ^ v := by
  have := Nat.two_pow_add_eq_or_of_lt h 1
  rw [Nat.or_comm]
  simp at this
  omega
theorem msk_lt {l : Nat → Nat} : ∀ {k v : Nat}, Rise l k → (∀ i, i < k → l i < v) → msk l k < 2 ^ v
  | 0, v, _, _ => Nat.two_pow_pos v
  | k + 1, v, h, hv => Nat.or_lt_two_pow (msk_lt (h.less (by omega)) fun i hi => hv i (by omega)) (Nat.pow_lt_pow_right (by decide) (hv k (by omega)))
theorem msk_top {l : Nat → Nat} {k : Nat} (h : Rise l (k + 1)) : msk l k < 2 ^ l k := msk_lt (h.less (by omega)) fun i hi => h i k hi (by omega)
theorem msk_add {l : Nat → Nat} {k : Nat} (h : Rise l (k + 1)) : msk l (k + 1) = msk l k + 2 ^ l k := or_top (msk_top h)
theorem spr_gap {l : Nat → Nat} (y : Nat) : ∀ {k : Nat}, Rise l k → spr l y k + gap l y k = msk l k
  | 0, _ => rfl
  | k + 1, h => by
    have ih := spr_gap (l := l) y (h.less (j := k) (by omega))
    have ht := msk_top h
    rw [msk_add h, spr, gap]
    by_cases hb : y.testBit k = true
    · rw [if_pos hb, if_pos hb, or_top (by omega)]; omega
    · rw [if_neg hb, if_neg hb, Nat.or_zero]; omega
theorem gap_zero {l : Nat → Nat} (y : Nat) : ∀ {k : Nat}, gap l y k = 0 ↔ ∀ i, i < k → y.testBit i = true
  | 0 => ⟨fun _ i hi => by omega, fun _ => rfl⟩
  | k + 1 => by
    rw [gap]
    have hp := Nat.two_pow_pos (l k)
    constructor
    · intro h i hi
      have h1 : gap l y k = 0 := by omega
      by_cases e : i = k
      · subst e
        refine Decidable.byContradiction fun hn => ?_
        rw [if_neg hn] at h
        omega
      · exact (gap_zero y).1 h1 i (by omega)
    · intro h
      rw [(gap_zero y).2 (fun i hi => h i (by omega)), if_pos (h k (by omega))]
/-- the next number's bit -/
theorem mod_full (y : Nat) : ∀ k, (∀ i, i < k → y.testBit i = true) ↔ y % 2 ^ k = 2 ^ k - 1
  | 0 => by simp [Nat.mod_one]
  | k + 1 => by
    have hp := Nat.two_pow_pos k
    have e : y % 2 ^ (k + 1) = y % 2 ^ k + 2 ^ k * (y / 2 ^ k % 2) := by rw [Nat.pow_succ, Nat.mod_mul]
    have hl := Nat.mod_lt y hp
    have h2 : y / 2 ^ k % 2 = 0 ∨ y / 2 ^ k % 2 = 1 := by omega
    have ht : y.testBit k = true ↔ y / 2 ^ k % 2 = 1 := by rw [Nat.testBit_eq_decide_div_mod_eq, decide_eq_true_iff]
    have ih := mod_full y k
    have hs : (2 : Nat) ^ (k + 1) = 2 * 2 ^ k := by rw [Nat.pow_succ]; omega
    constructor
    · intro h
      have h1 := ih.1 fun i hi => h i (by omega)
      have h3 := ht.1 (h k (by omega))
      rw [e, h1, h3, hs]
      omega
    · intro h i hi
      rw [e, hs] at h
      rcases h2 with h2 | h2
      · rw [h2] at h; omega
      · rw [h2] at h
        by_cases ei : i = k
        · subst ei; exact ht.2 h2
        · exact ih.2 (by omega) i (by omega)
theorem testBit_next (y k : Nat) : (y + 1).testBit k = (y.testBit k != decide (∀ i, i < k → y.testBit i = true)) := by
  have hp := Nat.two_pow_pos k
  rw [Nat.testBit_eq_decide_div_mod_eq, Nat.testBit_eq_decide_div_mod_eq]
  have hd := Nat.div_add_mod y (2 ^ k)
  have hl := Nat.mod_lt y hp
  have hm := mod_full y k
  generalize y / 2 ^ k = q at *
  generalize y % 2 ^ k = r at *
  by_cases h : ∀ i, i < k → y.testBit i = true
  · have hr := hm.1 h
    rw [decide_eq_true h]
    have : (y + 1) / 2 ^ k = q + 1 := by
      have : y + 1 = (q + 1) * 2 ^ k := by rw [Nat.add_mul, Nat.one_mul, Nat.mul_comm q]; omega
      rw [this, Nat.mul_div_cancel _ hp]
    rw [this]
    by_cases e : q % 2 = 1
    · rw [decide_eq_true e, decide_eq_false (by omega)]; rfl
    · rw [decide_eq_false e, decide_eq_true (by omega)]; rfl
  · have hr : r ≠ 2 ^ k - 1 := fun e => h (hm.2 e)
    rw [decide_eq_false h]
    have : (y + 1) / 2 ^ k = q := by
      have e1 : y + 1 = r + 1 + 2 ^ k * q := by omega
      rw [e1, Nat.add_mul_div_left _ _ hp, Nat.div_eq_of_lt (by omega), Nat.zero_add]
    rw [this]
    simp
/-- the submasks in rising order -/
theorem next_sub {l : Nat → Nat} (y : Nat) : ∀ {k : Nat}, Rise l k → (∀ i, i < k → l i < 63) → ((2 ^ 64 - gap l y k) % 2 ^ 64) &&& msk l k = spr l (y + 1) k
  | 0, _, _ => by simp [msk, spr]
  | k + 1, h, hv => by
    have ih := next_sub (l := l) y (h.less (j := k) (by omega)) fun i hi => hv i (by omega)
    have hg := spr_gap (l := l) y (h.less (j := k) (by omega))
    have ht := msk_top h
    have hz := gap_zero (l := l) y (k := k)
    have hv63 := hv k (by omega)
    have htb := testBit_next y k
    rw [msk, Nat.and_or_distrib_left, spr]
    have hp63 : 2 ^ l k ≤ 2 ^ 62 := Nat.pow_le_pow_right (by decide) (by omega)
    obtain ⟨G, hG⟩ : ∃ G, G = gap l y k := ⟨_, rfl⟩
    rw [← hG] at ih hg hz
    have hGl : G < 2 ^ l k := by omega
    -- the low bits
    have low : ∀ N N' : Nat, N % 2 ^ l k = N' % 2 ^ l k → N &&& msk l k = N' &&& msk l k := fun N N' hN => by
      apply Nat.eq_of_testBit_eq
      intro j
      rw [Nat.testBit_and, Nat.testBit_and]
      by_cases hj : j < l k
      · have e : (N % 2 ^ l k).testBit j = (N' % 2 ^ l k).testBit j := by rw [hN]
        rw [Nat.testBit_mod_two_pow, Nat.testBit_mod_two_pow] at e
        simpa [hj] using congrArg (· && (msk l k).testBit j) e
      · have : (msk l k).testBit j = false := Nat.testBit_lt_two_pow (Nat.lt_of_lt_of_le ht (Nat.pow_le_pow_right (by decide) (by omega)))
        simp [this]
    have hdvd : (2 : Nat) ^ 64 = 2 ^ l k * 2 ^ (64 - l k) := by rw [← Nat.pow_add]; congr 1; omega
    have hD2 : ∃ q, 2 ^ (64 - l k) = 4 * q ∧ 1 ≤ q := ⟨2 ^ (62 - l k), by rw [show 64 - l k = (62 - l k) + 2 by omega, Nat.pow_add]; omega, Nat.two_pow_pos _⟩
    obtain ⟨q, hq, hq1⟩ := hD2
    rw [hq] at hdvd
    generalize hV : 2 ^ l k = V at *
    have hVp : 0 < V := by rw [← hV]; exact Nat.two_pow_pos _
    -- bit at the top place
    have top : ∀ N : Nat, N &&& V = if N / V % 2 = 1 then V else 0 := fun N => by
      rw [← hV]
      apply Nat.eq_of_testBit_eq
      intro j
      rw [Nat.testBit_and, Nat.testBit_two_pow]
      have hN : N.testBit (l k) = decide (N / 2 ^ l k % 2 = 1) := Nat.testBit_eq_decide_div_mod_eq
      by_cases ej : l k = j
      · subst ej
        rw [hN]
        by_cases e : N / 2 ^ l k % 2 = 1
        · rw [if_pos e, Nat.testBit_two_pow]; simp [e]
        · rw [if_neg e]; simp [e]
      · by_cases e : N / 2 ^ l k % 2 = 1
        · rw [if_pos e, Nat.testBit_two_pow]; simp [ej]
        · rw [if_neg e]; simp [ej]
    have hzd : decide (∀ i, i < k → y.testBit i = true) = decide (G = 0) := decide_eq_decide.2 hz.symm
    rw [hzd] at htb
    have e64 : (2 : Nat) ^ 64 = 4 * (V * q) := by rw [hdvd]; rw [Nat.mul_left_comm]
    have hVq : V ≤ V * q := Nat.le_mul_of_pos_right _ hq1
    have dv : ∀ a b : Nat, b < V → (V * a + b) / V = a := fun a b hb => by rw [Nat.mul_add_div hVp, Nat.div_eq_of_lt hb]; omega
    have dm : ∀ a b : Nat, b < V → (V * a + b) % V = b := fun a b hb => by rw [Nat.mul_add_mod, Nat.mod_eq_of_lt hb]
    have key : ∀ N : Nat, (2 ^ 64 - gap l y (k + 1)) % 2 ^ 64 = N → N % V = ((2 ^ 64 - G) % 2 ^ 64) % V → (N / V % 2 = 1 ↔ (y + 1).testBit k = true) →
        (2 ^ 64 - gap l y (k + 1)) % 2 ^ 64 &&& msk l k ||| (2 ^ 64 - gap l y (k + 1)) % 2 ^ 64 &&& V = spr l (y + 1) k ||| (if (y + 1).testBit k = true then V else 0) := fun N hN h1 h2 => by
      rw [hN, low _ _ h1, ih, top]
      congr 1
      by_cases e : (y + 1).testBit k = true
      · rw [if_pos (h2.2 e), if_pos e]
      · rw [if_neg (fun c => e (h2.1 c)), if_neg e]
    by_cases hb : y.testBit k = true
    · have hgap : gap l y (k + 1) = G := by rw [gap, if_pos hb, ← hG]; rfl
      refine key _ rfl (by rw [hgap]) ?_
      rw [hgap, htb, hb]
      by_cases hG0 : G = 0
      · rw [hG0]; simp
      · have : (2 ^ 64 - G) % 2 ^ 64 = V * (4 * q - 1) + (V - G) := by
          rw [Nat.mod_eq_of_lt (by omega), e64]
          have : V * (4 * q - 1) = 4 * (V * q) - V := by rw [Nat.mul_sub, Nat.mul_one, Nat.mul_left_comm]
          omega
        rw [this, dv _ _ (by omega)]
        simp [hG0]
        omega
    · have hgap : gap l y (k + 1) = G + V := by rw [gap, if_neg hb, ← hG, hV]
      have hbf : y.testBit k = false := by simpa using hb
      rw [hgap] at key ⊢
      rw [hbf] at htb
      by_cases hG0 : G = 0
      · have e1 : (2 ^ 64 - (G + V)) % 2 ^ 64 = V * (4 * q - 1) + 0 := by
          rw [Nat.mod_eq_of_lt (by omega), e64]
          have : V * (4 * q - 1) = 4 * (V * q) - V := by rw [Nat.mul_sub, Nat.mul_one, Nat.mul_left_comm]
          omega
        refine key _ e1 ?_ ?_
        · rw [dm _ _ hVp, hG0]; simp
        · rw [dv _ _ hVp, htb, hG0]
          simp
          omega
      · have e1 : (2 ^ 64 - (G + V)) % 2 ^ 64 = V * (4 * q - 2) + (V - G) := by
          rw [Nat.mod_eq_of_lt (by omega), e64]
          have : V * (4 * q - 2) = 4 * (V * q) - 2 * V := by rw [Nat.mul_sub, Nat.mul_left_comm]; omega
          omega
        have e2 : (2 ^ 64 - G) % 2 ^ 64 = V * (4 * q - 1) + (V - G) := by
          rw [Nat.mod_eq_of_lt (by omega), e64]
          have : V * (4 * q - 1) = 4 * (V * q) - V := by rw [Nat.mul_sub, Nat.mul_one, Nat.mul_left_comm]
          omega
        refine key _ e1 ?_ ?_
        · rw [dm _ _ (by omega), e2, dm _ _ (by omega)]
        · rw [dv _ _ (by omega), htb]
          simp [hG0]
          omega
/-- the machine's own word for it -/
theorem next_bits {l : Nat → Nat} (y : Nat) {k : Nat} (h : Rise l k) (hv : ∀ i, i < k → l i < 12) : bits BinOp.and .i64 ((spr l y k : Int) - (msk l k : Int)) (msk l k : Int) = ((spr l (y + 1) k : Nat) : Int) := by
  have hg := spr_gap (l := l) y h
  have hm : msk l k < 2 ^ 12 := msk_lt h hv
  have hx : spr l (y + 1) k < 2 ^ 12 := by have := spr_gap (l := l) (y + 1) h; omega
  have hn := next_sub (l := l) y h fun i hi => by have := hv i hi; omega
  generalize msk l k = M at *
  generalize spr l (y + 1) k = X' at *
  generalize spr l y k = X at *
  generalize gap l y k = G at *
  have h1 : (BitVec.ofInt 64 ((X : Int) - (M : Int))).toNat = (2 ^ 64 - G) % 2 ^ 64 := by
    rw [BitVec.toNat_ofInt]
    have e : ((X : Int) - (M : Int)) = -(G : Int) := by omega
    rw [e]
    omega
  have h2 : (BitVec.ofInt 64 (M : Int)).toNat = M := by
    rw [BitVec.ofInt_natCast, BitVec.toNat_ofNat]; exact Nat.mod_eq_of_lt (by omega)
  show IntKind.i64.wrap ((BitVec.ofInt 64 ((X : Int) - (M : Int)) &&& BitVec.ofInt 64 (M : Int)).toNat : Int) = _
  rw [BitVec.toNat_and, h1, h2, hn, IntKind.wrap_i64]
  omega
/-- the last one -/
theorem spr_last {l : Nat → Nat} {y k : Nat} (h : Rise l k) (hy : y < 2 ^ k) : spr l y k = msk l k ↔ y + 1 = 2 ^ k := by
  have hg := spr_gap (l := l) y h
  have hz := gap_zero (l := l) y (k := k)
  rw [mod_full, Nat.mod_eq_of_lt hy] at hz
  have := Nat.two_pow_pos k
  constructor
  · intro e
    have := hz.1 (by omega)
    omega
  · intro e
    have := hz.2 (by omega)
    omega
open Classical in
/-- how many different functions there are among those at the places P below i -/
noncomputable def cnt (P : Nat → Bool) (key : Nat → List Bool) : Nat → Nat
  | 0 => 0
  | i + 1 => if P i = true ∧ ¬ ∃ j, j < i ∧ P j = true ∧ key j = key i then cnt P key i + 1 else cnt P key i
theorem cnt_le (P : Nat → Bool) (key : Nat → List Bool) : ∀ i, cnt P key i ≤ i
  | 0 => Nat.le_refl _
  | i + 1 => by rw [cnt]; have := cnt_le P key i; split <;> omega
/-- a map whose keys are what has been seen -/
structure Sn (enc : List Bool → List UInt8) (P : Nat → Bool) (key : Nat → List Bool) (i : Nat) (D : DataW Unit) : Prop where
  tidy : Tidy D
  has : ∀ s, has D (.string s) = true ↔ ∃ j, j < i ∧ P j = true ∧ enc (key j) = s
  size : size D = cnt P key i
theorem Sn.start (enc : List Bool → List UInt8) (P : Nat → Bool) (key : Nat → List Bool) : Sn enc P key 0 (.map []) := ⟨tidy_empty, fun s => by simp [Maps.has], rfl⟩
theorem Sn.skip {enc : List Bool → List UInt8} {P : Nat → Bool} {key : Nat → List Bool} {i : Nat} {D : DataW Unit} (h : Sn enc P key i D) (hP : P i = false) : Sn enc P key (i + 1) D where
  tidy := h.tidy
  has s := by
    rw [h.has]
    refine ⟨fun ⟨j, h1, h2⟩ => ⟨j, by omega, h2⟩, fun ⟨j, h1, h2, h3⟩ => ⟨j, ?_, h2, h3⟩⟩
    by_cases e : j = i
    · subst e; rw [hP] at h2; cases h2
    · omega
  size := by rw [h.size, cnt, if_neg (by simp [hP])]
theorem Sn.put {enc : List Bool → List UInt8} (hinj : ∀ a b, enc a = enc b → a = b) {P : Nat → Bool} {key : Nat → List Bool} {i : Nat} {D : DataW Unit} (h : Sn enc P key i D) (hP : P i = true) (d : DataW Unit) : Sn enc P key (i + 1) (D.put (.string (enc (key i))) d) where
  tidy := h.tidy.put (k := .string (enc (key i))) trivial d
  has s := by
    by_cases e : s = enc (key i)
    · subst e
      rw [has_put_same (k := .string (enc (key i))) h.tidy.isMap trivial]
      exact ⟨fun _ => ⟨i, by omega, hP, rfl⟩, fun _ => rfl⟩
    · rw [has_put_other (by intro c; cases c; exact e rfl), h.has]
      refine ⟨fun ⟨j, h1, h2⟩ => ⟨j, by omega, h2⟩, fun ⟨j, h1, h2, h3⟩ => ⟨j, ?_, h2, h3⟩⟩
      by_cases ej : j = i
      · subst ej; exact absurd h3.symm e
      · omega
  size := by
    rw [size_put h.tidy, h.size, cnt]
    by_cases e : Maps.has D (.string (enc (key i))) = true
    · obtain ⟨j, h1, h2, h3⟩ := (h.has _).1 e
      rw [if_pos e, if_neg (fun c => c.2 ⟨j, h1, h2, hinj _ _ h3⟩)]
    · rw [if_neg e, if_pos ⟨hP, fun ⟨j, h1, h2, h3⟩ => e ((h.has _).2 ⟨j, h1, h2, by rw [h3]⟩)⟩]
/-- the part of the table at x -/
def prt (f : Nat → Bool) (l : Nat → Nat) (k x : Nat) : List Bool := (List.range (2 ^ k)).map fun y => f (x ||| spr l y k)
end Go.Proofs.Ytpfbommaddaijaa
namespace Go.Proofs.Ytpfbommaddaijaa
open Go.RowKit Go.Maps Go.ChangeMaps Go.MapKept
set_option linter.unusedVariables false
set_option linter.unusedSimpArgs false

theorem lawS : Keyed Try.prog 9 := string_keyed Try.underlying9
/-- a part of the table, written as bytes -/
def encB (c0 c1 : Nat) (l : List Bool) : List UInt8 := l.map fun b => if b = true then UInt8.ofNat c1 else UInt8.ofNat c0
theorem encB_inj {c0 c1 : Nat} (h : UInt8.ofNat c0 ≠ UInt8.ofNat c1) : ∀ a b, encB c0 c1 a = encB c0 c1 b → a = b
  | [], [], _ => rfl
  | [], _ :: _, e => by simp [encB] at e
  | _ :: _, [], e => by simp [encB] at e
  | x :: a, y :: b, e => by
    simp only [encB, List.map_cons, List.cons.injEq] at e
    rw [encB_inj h a b e.2]
    cases x <;> cases y <;> simp at e
    · rfl
    · exact absurd e.1 h
    · exact absurd e.1.symm h
    · rfl
theorem strOfNums_enc (c0 c1 : Nat) (l : List Bool) : (strOfNums (l.map fun b => if b = true then (c1 : Int) else (c0 : Int))).data.toList = encB c0 c1 l := by
  rw [strOfNums_data, List.map_map, encB]
  apply List.map_congr_left
  intro b _
  cases b <;> simp
theorem owns_of_block {w w' : World} {k : TypeId} {R : Value → Option (DataW Unit × List MemPlace)} {b n : Nat} {D : DataW Unit} (h : w.ownsMap Try.prog k R b n D) (e : w'.heap[b]? = w.heap[b]?) : w'.ownsMap Try.prog k R b n D := by
  obtain ⟨es, c, h1, h2⟩ := h
  exact ⟨es, c, e.trans h1, h2⟩
theorem owns_lt {w : World} {k : TypeId} {R : Value → Option (DataW Unit × List MemPlace)} {b n : Nat} {D : DataW Unit} (h : w.ownsMap Try.prog k R b n D) : b < w.heap.size := by
  obtain ⟨es, c, h1, h2⟩ := h
  exact (Array.getElem?_eq_some_iff.1 h1).1
theorem spr_lt {l : Nat → Nat} {n : Nat} (hl : ∀ i, l i < n) (y : Nat) : ∀ k, spr l y k < 2 ^ n
  | 0 => Nat.two_pow_pos n
  | k + 1 => Nat.or_lt_two_pow (spr_lt hl y k) (by split <;> first | exact Nat.pow_lt_pow_right (by decide) (hl k) | exact Nat.two_pow_pos n)
theorem msk_lt' {l : Nat → Nat} {n : Nat} (hl : ∀ i, l i < n) : ∀ k, msk l k < 2 ^ n
  | 0 => Nat.two_pow_pos n
  | k + 1 => Nat.or_lt_two_pow (msk_lt' hl k) (Nat.pow_lt_pow_right (by decide) (hl k))
theorem or_k {a b : Nat} (ha : a < 8192) (hb : b < 8192) : bits BinOp.or .i64 (a : Int) (b : Int) = ((a ||| b : Nat) : Int) := by
  have hx : a ||| b < 2 ^ 13 := Nat.or_lt_two_pow (by omega) (by omega)
  have h1 : (BitVec.ofInt 64 (a : Int)).toNat = a := by
    rw [BitVec.ofInt_natCast, BitVec.toNat_ofNat]; exact Nat.mod_eq_of_lt (by omega)
  have h2 : (BitVec.ofInt 64 (b : Int)).toNat = b := by
    rw [BitVec.ofInt_natCast, BitVec.toNat_ofNat]; exact Nat.mod_eq_of_lt (by omega)
  show IntKind.i64.wrap ((BitVec.ofInt 64 (a : Int) ||| BitVec.ofInt 64 (b : Int)).toNat : Int) = _
  rw [BitVec.toNat_or, h1, h2, IntKind.wrap_i64]
  omega
theorem and_k {a b : Nat} (ha : a < 8192) (hb : b < 8192) : bits BinOp.and .i64 (a : Int) (b : Int) = ((a &&& b : Nat) : Int) := by
  have hx : a &&& b < 2 ^ 13 := Nat.and_lt_two_pow _ (by omega)
  have h1 : (BitVec.ofInt 64 (a : Int)).toNat = a := by
    rw [BitVec.ofInt_natCast, BitVec.toNat_ofNat]; exact Nat.mod_eq_of_lt (by omega)
  have h2 : (BitVec.ofInt 64 (b : Int)).toNat = b := by
    rw [BitVec.ofInt_natCast, BitVec.toNat_ofNat]; exact Nat.mod_eq_of_lt (by omega)
  show IntKind.i64.wrap ((BitVec.ofInt 64 (a : Int) &&& BitVec.ofInt 64 (b : Int)).toNat : Int) = _
  rw [BitVec.toNat_and, h1, h2, IntKind.wrap_i64]
  omega
/-- numbers that are read -/
structure Nm (w : World) (v : Value) (n : Nat) (Z : Nat → Int) : Prop where
  ex : ∃ (a : Option Addr) (cap : Nat), v = .slice a n cap ∧ ∀ i, i < n → ∃ b, a = some b ∧ w.cell? (b.add i) = some (I (Z i))
theorem Nm.shape {w : World} {v : Value} {n : Nat} {Z : Nat → Int} (h : Nm w v n Z) : ∃ a c, v = .slice a n c := by
  obtain ⟨a, c, h1, _⟩ := h.ex
  exact ⟨a, c, h1⟩
theorem Nm.at' {w : World} {a : Option Addr} {n k c : Nat} {Z : Nat → Int} (h : Nm w (.slice a k c) n Z) {i : Nat} (hi : i < n) : ∃ b, a = some b ∧ w.cell? (b.add i) = some (I (Z i)) := by
  obtain ⟨a', c', h1, h2⟩ := h.ex
  cases h1
  exact h2 i hi
theorem Nm.keep {w w' : World} {v : Value} {n : Nat} {Z : Nat → Int} (h : Nm w v n Z) (hb : Below w.heap.size w w') : Nm w' v n Z := by
  obtain ⟨a, c, h1, h2⟩ := h.ex
  exact ⟨a, c, h1, fun i hi => by obtain ⟨b, e, hc⟩ := h2 i hi; exact ⟨b, e, (hb.cell (World.block_lt_of_cell? _ _ hc)).trans hc⟩⟩
/-- a block of numbers: the places -/
structure Blk (Z : Nat → Int) (l : Nat → Nat) (k n : Nat) : Prop where
  eq : ∀ i, i < k → Z i = l i
  lt : ∀ i, l i < n
  rise : Rise l k
/-- is x outside the mask -/
def out (l : Nat → Nat) (k : Nat) (x : Nat) : Bool := x &&& msk l k == 0
theorem shr_one {y i : Nat} : (y / 2 ^ i % 2 = 1) ↔ y.testBit i = true := by rw [Nat.testBit_eq_decide_div_mod_eq, decide_eq_true_iff]
end Go.Proofs.Ytpfbommaddaijaa
namespace Go.Proofs.Ytpfbommaddaijaa
open Go.RowKit Go.Maps Go.ChangeMaps Go.MapKept
set_option linter.unusedVariables false
set_option linter.unusedSimpArgs false

theorem shr_and {y i : Nat} (hy : y < 8192) : bits BinOp.and .i64 ((y : Int) / 2 ^ i) 1 = ((if y.testBit i = true then 1 else 0 : Nat) : Int) := by
  have e : ((y : Int) / 2 ^ i) = ((y / 2 ^ i : Nat) : Int) := by push_cast; rfl
  rw [e, show (1 : Int) = ((1 : Nat) : Int) from rfl, and_k (by have := Nat.div_le_self y (2 ^ i); omega) (by decide), Nat.and_one_is_mod]
  have h2 : y / 2 ^ i % 2 = 0 ∨ y / 2 ^ i % 2 = 1 := by omega
  by_cases h : y.testBit i = true
  · rw [if_pos h, shr_one.2 h]
  · rw [if_neg h]
    rcases h2 with h2 | h2
    · rw [h2]
    · exact absurd (shr_one.1 h2) h
def RF (w : World) (r : Nat) (e : Ending) (w' : World) : Prop := e = .returned (I r) ∧ Below w.heap.size w w'
theorem Try.info5 : (Try.prog.info? 5).map (fun i => (i.zero, i.size, i.bytes)) = some (some (.int .u8 0), 1, 1) := by kernel_rfl
end Go.Proofs.Ytpfbommaddaijaa
namespace Go.Proofs.Ytpfbommaddaijaa
open Go.RowKit Go.Maps Go.ChangeMaps Go.MapKept Go.Proofs.YtpfbommaddaijaaW.PrintWords
set_option linter.unusedVariables false
set_option linter.unusedSimpArgs false

theorem spr_zero (l : Nat → Nat) : ∀ k, spr l 0 k = 0
  | 0 => rfl
  | k + 1 => by rw [spr, spr_zero l k]; simp
/-- the bytes written so far -/
def byt (f : Nat → Bool) (l : Nat → Nat) (k x y : Nat) : List Value := (List.range y).map fun u => .int .u8 (if f (x ||| spr l u k) = true then 49 else 48)
theorem byt_succ (f : Nat → Bool) (l : Nat → Nat) (k x y : Nat) : byt f l k x (y + 1) = byt f l k x y ++ [.int .u8 (if f (x ||| spr l y k) = true then 49 else 48)] := by simp [byt, List.range_succ]
theorem byt_len (f : Nat → Bool) (l : Nat → Nat) (k x y : Nat) : (byt f l k x y).length = y := by simp [byt]
theorem byt_nums {f : Nat → Bool} {l : Nat → Nat} {k j K : Nat} (hK : K = 2 ^ k) : byt f l k j K = nums .u8 ((prt f l k j).map fun b => if b = true then ((49 : Nat) : Int) else ((48 : Nat) : Int)) := by
  rw [hK]
  simp [byt, nums, prt]
set_option maxHeartbeats 8000000 in
set_option maxRecDepth 100000 in
theorem subfunctions_any {w : World} {tv : Value} {n k : Nat} {f : Nat → Bool} {l : Nat → Nat} (ht : Bs w tv (2 ^ n) f) (hlt : ∀ i, l i < n) (hrise : Rise l k) (hn : n ≤ 12) (hk : k ≤ 12) :
    Calls Try.prog 85 #[tv, I (msk l k)] w (RF w (cnt (out l k) (prt f l k) (2 ^ n))) := by
  obtain ⟨ta, tc, rfl⟩ := ht.shape
  have HT := Lib.hid ht
  have hp12 : 2 ^ n ≤ 4096 := Nat.pow_le_pow_right (n := 2) (by decide) hn
  have HN := Lib.hid (show ∃ N, N = 2 ^ n from ⟨_, rfl⟩)
  obtain ⟨N, hN⟩ := HN.out
  rw [← hN] at HT hp12 ⊢
  have HN2 := Lib.hid hN
  have hm1 : msk l k < N := by rw [hN]; exact msk_lt' hlt k
  have HS := Lib.hid (fun y => (show spr l y k < N by rw [hN]; exact spr_lt hlt y k))
  have HNX := Lib.hid (fun y => next_bits (l := l) y hrise (fun i hi => by have := hlt i; omega))
  have HLA := Lib.hid (fun y (hy : y < 2 ^ k) => spr_last (y := y) hrise hy)
  have HMK : Hid (∀ x, x < N → (bits BinOp.and .i64 (x : Int) (msk l k : Int) = ((x &&& msk l k : Nat) : Int))) := Lib.hid (fun x hx => and_k (by omega) (by omega))
  have HOU : Hid (∀ x, out l k x = (x &&& msk l k == 0)) := Lib.hid (fun x => rfl)
  have hk0 : (0 : Int) ≤ k := by omega
  have hown0 : Hid ((w.alloc (.map #[] 0)).ownsMap Try.prog 9 (plainElem (H := Unit) Try.prog 4) w.heap.size 0 (.map [])) := Lib.hid (World.ownsMap_made w Try.prog 9 _)
  have hb0 : Hid (Below w.heap.size w (w.alloc (.map #[] 0))) := Lib.hid ((Below.refl _ _).alloc (Nat.le_refl _) _)
  obtain ⟨K, hK⟩ : ∃ K, K = 2 ^ k := ⟨_, rfl⟩
  have hK12 : K ≤ 4096 := by rw [hK]; exact Nat.pow_le_pow_right (n := 2) (by decide) hk
  have hK1 : 1 ≤ K := by rw [hK]; exact Nat.two_pow_pos k
  rw [← hK] at HLA
  have HK := Lib.hid hK
  obtain ⟨i0, hi, hz0, hz1, hz2⟩ := info_parts Try.info5
  clear ht hN HN hK
  generalize msk l k = M at *
  have hmm := @run_makeMap Try.prog
  go_enter Try.func85, Try.ntmps85
  go_wp2
  go_loopw [6, 13] (fun _ x wr => ∃ (j : Nat) (D : DataW Unit), j ≤ N ∧ x = I j ∧ Hid (Sn (encB 48 49) (out l k) (prt f l k) j D) ∧ Hid (wr.ownsMap Try.prog 9 (plainElem (H := Unit) Try.prog 4) w.heap.size j D) ∧ Hid (Below w.heap.size w wr)) (fun _ x _ => N - (intOf x).toNat)
  case atStart => exact ⟨0, .map [], by omega, rfl, Lib.hid (Sn.start _ _ _), hown0, hb0⟩
  case round =>
    clear hown0 hb0
    obtain ⟨j, D, hj, rfl, HSN, HOW, HBL⟩ := hrel
    by_cases hjn : j < N
    · have hand := HMK.out j hjn
      have hj0 : (0 : Int) ≤ j := by omega
      have hj1 : (j : Int) < N := by omega
      have hou := HOU.out j
      obtain ⟨q, hq⟩ : ∃ q, q = j &&& M := ⟨_, rfl⟩
      rw [← hq] at hand hou
      by_cases ho : q = 0
      · subst ho
        have HO : Hid (out l k j = true) := Lib.hid (by rw [hou]; rfl)
        clear hou hq
        have HSZ : Hid (w.heap.size + 1 ≤ wr.heap.size) := Lib.hid (owns_lt HOW.out)
        obtain ⟨W1, hW1⟩ : ∃ W1, W1 = wr := ⟨_, rfl⟩
        subst hW1
        go_wp2
        obtain ⟨s, hs⟩ : ∃ s, s = strOfNums ((prt f l k j).map fun b => if b = true then ((49 : Nat) : Int) else ((48 : Nat) : Int)) := ⟨_, rfl⟩
        have hlen : ((prt f l k j).map fun b => if b = true then ((49 : Nat) : Int) else ((48 : Nat) : Int)).length = K := by simp [prt, HK.out]
        have HDA : Hid (s.data.toList = encB 48 49 (prt f l k j)) := Lib.hid (by rw [hs]; exact strOfNums_enc 48 49 _)
        have hsz : s.size ≤ maxLen := by rw [hs, strOfNums_size, hlen]; unfold maxLen; omega
        have HKY : Hid (keyOf Try.prog 9 (.string s) = some (.string (encB 48 49 (prt f l k j)))) := Lib.hid (by rw [WideMaps.keyOf_string_mk Try.underlying9 hsz, HDA.out])
        have HSE := Lib.hid hs
        clear hs hlen hsz HDA
        go_loopg [7, 8] K (fun g b s wr => ∃ y : Nat, y < K ∧ y + g = K ∧ s = I (spr l y k) ∧ Hid (wr.ownsRow W1.heap.size 5 1 b (byt f l k j y).length (byt f l k j y)) ∧ Hid (Below W1.heap.size W1 wr))
        case atStart => exact ⟨0, by omega, by omega, by rw [spr_zero]; rfl, Lib.hid (World.ownsRow_nil _ _ _ _), Lib.hid (Below.refl _ _)⟩
        case round =>
          obtain ⟨y, hy, hyg, rfl, HRW, HBW⟩ := hrel
          have HBL2 : Hid (Below w.heap.size w wr) := Lib.hid (HBL.out.trans (HBW.out.mono (by have := HSZ.out; omega)))
          have hat : j ||| spr l y k < N := by rw [HN2.out] at hj1 ⊢; exact Nat.or_lt_two_pow (n := n) (by omega) (by have := HS.out y; rw [HN2.out] at this; exact this)
          have hor := or_k (a := j) (b := spr l y k) (by omega) (by have := HS.out y; omega)
          obtain ⟨tb, rfl, ct⟩ := (HT.out.keep HBL2.out).at' hat
          have HNXY := HNX.out y
          have HLY := HLA.out y hy
          obtain ⟨fv, hfv⟩ : ∃ fv, fv = f (j ||| spr l y k) := ⟨_, rfl⟩
          have HFV : Hid (byt f l k j (y + 1) = byt f l k j y ++ [.int .u8 (if fv = true then 49 else 48)]) := Lib.hid (by rw [byt_succ, hfv])
          rw [← hfv] at ct
          clear hfv
          have hsN := HS.out y
          have HSPR : Hid (spr l y k = M ↔ y + 1 = K) := Lib.hid HLY
          have hat0 : (0 : Int) ≤ ((j ||| spr l y k : Nat) : Int) := by omega
          have hat1 : ((j ||| spr l y k : Nat) : Int) < N := by omega
          have HBLEN := Lib.hid (byt_len f l k j y)
          generalize byt f l k j y = XS at *
          generalize j ||| spr l y k = AT at *
          generalize spr l y k = S at *
          clear HLY
          obtain ⟨va, vc, rfl⟩ := own_slice HRW.out
          have hle : (XS.length + 1) * 1 ≤ 140737488355328 := by have := HBLEN.out; omega
          cases fv with
          | true =>
            have HFV2 : Hid (byt f l k j (y + 1) = XS ++ [.int .u8 49]) := Lib.hid HFV.out
            clear HFV
            by_cases e : y + 1 = K
            · have hte : ((S : Int) == (M : Int)) = true := by have := HSPR.out.2 e; simp; omega
              have HCV : Hid (∀ (v2 : Value) (w2 : World), w2.ownsRow W1.heap.size 5 1 v2 (XS ++ [Value.int .u8 49]).length (XS ++ [Value.int .u8 49]) → (Go.convert 103 9 v2).run Try.prog w2 = .ok (.string s) w2) := Lib.hid (fun v2 w2 ho => by
                rw [HSE.out]
                rw [← HFV2.out, e, byt_nums (k := k) HK.out] at ho
                exact own_string Try.underlying103 Try.underlying5 Try.underlying9 ho)
              clear HSPR
              go_wp2_with (first
                | (at_builtin; refine print_append (P := Try.prog) W1.heap.size rfl (.tmp 31) (.tmp 33) 103 5 (.int .u8 0) 1 rfl Try.underlying103 Try.info5 rfl (by decide) _ XS (.int .u8 49) rfl rfl rfl HRW.out HBW.out HBW.out.size hle ?_; intro v2 w2 ho hb hg hat2; have hconv := HCV.out _ _ ho; obtain ⟨v2a, v2c, rfl⟩ := own_slice ho; rw [List.length_append, List.length_singleton] at hconv; have HOW2 : Hid (w2.ownsMap Try.prog 9 (plainElem (H := Unit) Try.prog 4) w.heap.size j D) := Lib.hid (owns_of_block HOW.out (hb.block w.heap.size (by have := HSZ.out; omega))); have HBL3 : Hid (Below w.heap.size w w2) := Lib.hid (HBL.out.trans (hb.mono (by have := HSZ.out; omega))); have HO2 := Lib.hid ho; have HB2 := Lib.hid hb; clear ho hb hg hat2)
                | (at_mapUpdate; refine wpList_mapUpdate_own _ rfl _ _ _ 102 rfl 9 4 lawS Try.underlying102 _ w.heap.size j _ rfl HOW2.out (by unfold maxLen; omega) _ _ _ rfl rfl HKY.out _ [] (plainElem_bool Try.underlying4 true) ?_; intro w3 hown1 hgrow1; have HO3 := Lib.hid hown1; have HB3 := Lib.hid (HBL3.out.grown hgrow1 HBL3.out.size (fun j hj => by cases hj; exact Nat.le_refl _)); clear hown1 hgrow1))
              go_roundw
              case rel => exact ⟨j + 1, _, by omega, by go_num, Lib.hid (HSN.out.put (encB_inj (by decide)) HO.out (.lit (.bool true))), HO3, HB3⟩
              case measure => simp [intOf]; omega
            · have hte : ((S : Int) == (M : Int)) = false := by have := mt HSPR.out.1 e; simp; omega
              clear HSPR
              go_wp2_with (at_builtin; refine print_append (P := Try.prog) W1.heap.size rfl (.tmp 31) (.tmp 33) 103 5 (.int .u8 0) 1 rfl Try.underlying103 Try.info5 rfl (by decide) _ XS (.int .u8 49) rfl rfl rfl HRW.out HBW.out HBW.out.size hle ?_; intro v2 w2 ho hb hg hat2; have HO2 := Lib.hid ho; have HB2 := Lib.hid hb; clear ho hb hg hat2)
              go_roundg (gk - 1)
              case measure => omega
              case rel => exact ⟨y + 1, by omega, by omega, rfl, Lib.hid (by rw [HFV2.out]; exact HO2.out), HB2⟩
          | false =>
            have HFV2 : Hid (byt f l k j (y + 1) = XS ++ [.int .u8 48]) := Lib.hid HFV.out
            clear HFV
            by_cases e : y + 1 = K
            · have hte : ((S : Int) == (M : Int)) = true := by have := HSPR.out.2 e; simp; omega
              have HCV : Hid (∀ (v2 : Value) (w2 : World), w2.ownsRow W1.heap.size 5 1 v2 (XS ++ [Value.int .u8 48]).length (XS ++ [Value.int .u8 48]) → (Go.convert 103 9 v2).run Try.prog w2 = .ok (.string s) w2) := Lib.hid (fun v2 w2 ho => by
                rw [HSE.out]
                rw [← HFV2.out, e, byt_nums (k := k) HK.out] at ho
                exact own_string Try.underlying103 Try.underlying5 Try.underlying9 ho)
              clear HSPR
              go_wp2_with (first
                | (at_builtin; refine print_append (P := Try.prog) W1.heap.size rfl (.tmp 31) (.tmp 33) 103 5 (.int .u8 0) 1 rfl Try.underlying103 Try.info5 rfl (by decide) _ XS (.int .u8 48) rfl rfl rfl HRW.out HBW.out HBW.out.size hle ?_; intro v2 w2 ho hb hg hat2; have hconv := HCV.out _ _ ho; obtain ⟨v2a, v2c, rfl⟩ := own_slice ho; rw [List.length_append, List.length_singleton] at hconv; have HOW2 : Hid (w2.ownsMap Try.prog 9 (plainElem (H := Unit) Try.prog 4) w.heap.size j D) := Lib.hid (owns_of_block HOW.out (hb.block w.heap.size (by have := HSZ.out; omega))); have HBL3 : Hid (Below w.heap.size w w2) := Lib.hid (HBL.out.trans (hb.mono (by have := HSZ.out; omega))); have HO2 := Lib.hid ho; have HB2 := Lib.hid hb; clear ho hb hg hat2)
                | (at_mapUpdate; refine wpList_mapUpdate_own _ rfl _ _ _ 102 rfl 9 4 lawS Try.underlying102 _ w.heap.size j _ rfl HOW2.out (by unfold maxLen; omega) _ _ _ rfl rfl HKY.out _ [] (plainElem_bool Try.underlying4 true) ?_; intro w3 hown1 hgrow1; have HO3 := Lib.hid hown1; have HB3 := Lib.hid (HBL3.out.grown hgrow1 HBL3.out.size (fun j hj => by cases hj; exact Nat.le_refl _)); clear hown1 hgrow1))
              go_roundw
              case rel => exact ⟨j + 1, _, by omega, by go_num, Lib.hid (HSN.out.put (encB_inj (by decide)) HO.out (.lit (.bool true))), HO3, HB3⟩
              case measure => simp [intOf]; omega
            · have hte : ((S : Int) == (M : Int)) = false := by have := mt HSPR.out.1 e; simp; omega
              clear HSPR
              go_wp2_with (at_builtin; refine print_append (P := Try.prog) W1.heap.size rfl (.tmp 31) (.tmp 33) 103 5 (.int .u8 0) 1 rfl Try.underlying103 Try.info5 rfl (by decide) _ XS (.int .u8 48) rfl rfl rfl HRW.out HBW.out HBW.out.size hle ?_; intro v2 w2 ho hb hg hat2; have HO2 := Lib.hid ho; have HB2 := Lib.hid hb; clear ho hb hg hat2)
              go_roundg (gk - 1)
              case measure => omega
              case rel => exact ⟨y + 1, by omega, by omega, rfl, Lib.hid (by rw [HFV2.out]; exact HO2.out), HB2⟩
      · have ht1 : ((q : Int) != 0) = true := by simp; omega
        have HO : Hid (out l k j = false) := Lib.hid (by rw [hou]; simp; exact ho)
        clear hou hq
        go_wp2
        go_roundw
        case rel => exact ⟨j + 1, D, by omega, by go_num, Lib.hid (HSN.out.skip HO.out), Lib.hid (HOW.out.mono (by omega)), HBL⟩
        case measure => simp [intOf]; omega
    · obtain rfl : j = N := by omega
      have hcn := cnt_le (out l k) (prt f l k) j
      go_wp2_with (at_len; refine wpList_len_own _ rfl _ 102 rfl 9 4 Try.underlying102 _ w.heap.size j D rfl HOW.out ?_)
      go_ret
      exact ⟨ri (by rw [HSN.out.size]), HBL.out⟩
end Go.Proofs.Ytpfbommaddaijaa

