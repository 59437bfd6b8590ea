/- Finite fields: the order of the elements, and the roots of unity. Plain mathematics; no program here. -/
import Derived.Test.YtbddhccbmieokaaFc
namespace FieldMath
set_option linter.unusedVariables false

/-- a finite field whose elements are the numbers below q -/
structure FF (q : Nat) (add mul : Nat → Nat → Nat) (neg : Nat → Nat) : Prop where
  two : 2 ≤ q
  addC : ∀ {a b}, a < q → b < q → add a b < q
  mulC : ∀ {a b}, a < q → b < q → mul a b < q
  negC : ∀ {a}, a < q → neg a < q
  add_comm : ∀ {a b}, a < q → b < q → add a b = add b a
  add_assoc : ∀ {a b c}, a < q → b < q → c < q → add (add a b) c = add a (add b c)
  add_zero : ∀ {a}, a < q → add a 0 = a
  add_neg : ∀ {a}, a < q → add a (neg a) = 0
  mul_comm : ∀ {a b}, a < q → b < q → mul a b = mul b a
  mul_assoc : ∀ {a b c}, a < q → b < q → c < q → mul (mul a b) c = mul a (mul b c)
  mul_one : ∀ {a}, a < q → mul a 1 = a
  mul_zero : ∀ {a}, a < q → mul a 0 = 0
  distrib : ∀ {a b c}, a < q → b < q → c < q → mul a (add b c) = add (mul a b) (mul a c)
  noz : ∀ {a b}, a < q → b < q → mul a b = 0 → a = 0 ∨ b = 0

/-- powers, one factor at a time -/
def pw (mul : Nat → Nat → Nat) (a : Nat) : Nat → Nat
  | 0 => 1
  | n + 1 => mul (pw mul a n) a

section
variable {q : Nat} {add mul : Nat → Nat → Nat} {neg : Nat → Nat} (F : FF q add mul neg)
include F

theorem FF.one : 1 < q := F.two
theorem FF.zero : 0 < q := by have := F.two; omega
theorem FF.one_mul {a : Nat} (ha : a < q) : mul 1 a = a := by rw [F.mul_comm F.one ha, F.mul_one ha]
theorem FF.zero_mul {a : Nat} (ha : a < q) : mul 0 a = 0 := by rw [F.mul_comm F.zero ha, F.mul_zero ha]
theorem FF.zero_add {a : Nat} (ha : a < q) : add 0 a = a := by rw [F.add_comm F.zero ha, F.add_zero ha]
theorem FF.neg_add {a : Nat} (ha : a < q) : add (neg a) a = 0 := by rw [F.add_comm (F.negC ha) ha, F.add_neg ha]
theorem FF.add_cancel {a b c : Nat} (ha : a < q) (hb : b < q) (hc : c < q) (h : add a b = add a c) : b = c := by
  have h1 : add (neg a) (add a b) = add (neg a) (add a c) := by rw [h]
  rwa [← F.add_assoc (F.negC ha) ha hb, ← F.add_assoc (F.negC ha) ha hc, F.neg_add ha, F.zero_add hb, F.zero_add hc] at h1
theorem FF.mul_neg {a b : Nat} (ha : a < q) (hb : b < q) : mul a (neg b) = neg (mul a b) := by
  refine F.add_cancel (F.mulC ha hb) (F.mulC ha (F.negC hb)) (F.negC (F.mulC ha hb)) ?_
  rw [← F.distrib ha hb (F.negC hb), F.add_neg hb, F.mul_zero ha, F.add_neg (F.mulC ha hb)]
theorem FF.sub_zero {a b : Nat} (ha : a < q) (hb : b < q) (h : add a (neg b) = 0) : a = b := by
  refine F.add_cancel (F.negC hb) ha hb ?_
  rw [F.add_comm (F.negC hb) ha, h, F.neg_add hb]
theorem FF.mul_cancel {a b c : Nat} (ha : a < q) (h0 : a ≠ 0) (hb : b < q) (hc : c < q) (h : mul a b = mul a c) : b = c := by
  have h1 : mul a (add b (neg c)) = 0 := by rw [F.distrib ha hb (F.negC hc), F.mul_neg ha hc, h, F.add_neg (F.mulC ha hc)]
  rcases F.noz ha (F.addC hb (F.negC hc)) h1 with h2 | h2
  · exact absurd h2 h0
  · exact F.sub_zero hb hc h2

theorem FF.pwC {a : Nat} (ha : a < q) : ∀ n, pw mul a n < q
  | 0 => F.one
  | n + 1 => F.mulC (FF.pwC ha n) ha
theorem FF.pw_add {a : Nat} (ha : a < q) (m : Nat) : ∀ n, pw mul a (m + n) = mul (pw mul a m) (pw mul a n)
  | 0 => (F.mul_one (F.pwC ha m)).symm
  | n + 1 => by
    rw [← Nat.add_assoc, pw, pw, FF.pw_add ha m n, F.mul_assoc (F.pwC ha m) (F.pwC ha n) ha]
theorem FF.pw_mul {a : Nat} (ha : a < q) (m : Nat) : ∀ n, pw mul a (m * n) = pw mul (pw mul a m) n
  | 0 => rfl
  | n + 1 => by rw [Nat.mul_succ, F.pw_add ha, pw, FF.pw_mul ha m n]
theorem FF.pw_prod {a b : Nat} (ha : a < q) (hb : b < q) : ∀ n, pw mul (mul a b) n = mul (pw mul a n) (pw mul b n)
  | 0 => (F.mul_one F.one).symm
  | n + 1 => by
    have h1 := F.pwC ha n
    have h2 := F.pwC hb n
    rw [pw, pw, pw, FF.pw_prod ha hb n, F.mul_assoc h1 h2 (F.mulC ha hb), ← F.mul_assoc h2 ha hb, F.mul_comm h2 ha, F.mul_assoc ha h2 hb, ← F.mul_assoc h1 ha (F.mulC h2 hb)]
theorem FF.pw_one : ∀ n, pw mul 1 n = 1
  | 0 => rfl
  | n + 1 => by rw [pw, FF.pw_one n, F.mul_one F.one]
theorem FF.pw_ne {a : Nat} (ha : a < q) (h0 : a ≠ 0) : ∀ n, pw mul a n ≠ 0
  | 0 => by simp [pw]
  | n + 1 => fun h => by
    rcases F.noz (F.pwC ha n) ha h with h1 | h1
    · exact FF.pw_ne ha h0 n h1
    · exact h0 h1
theorem FF.pw_zero {n : Nat} (hn : 0 < n) : pw mul 0 n = 0 := by
  obtain ⟨m, rfl⟩ : ∃ m, n = m + 1 := ⟨n - 1, by omega⟩
  exact F.mul_zero (F.pwC F.zero m)

/-- square and multiply is the power -/
theorem FF.powL_pw (k : Nat) : ∀ out a, out < q → a < q → powL mul out a k = mul out (pw mul a k) := by
  induction k using Nat.strongRecOn with
  | ind k ih =>
    intro out a ho ha
    rw [powL]
    split
    · rename_i hk
      rw [ih (k / 2) (by omega) _ _ (by split; exact F.mulC ho ha; exact ho) (F.mulC ha ha), F.pw_prod ha ha, ← F.pw_add ha]
      have hp := F.pwC ha (k / 2 + k / 2)
      split
      · rename_i h1
        rw [F.mul_assoc ho ha hp]
        congr 1
        rw [F.mul_comm ha hp]
        conv => rhs; rw [show k = k / 2 + k / 2 + 1 by omega, pw]
      · rename_i h1
        conv => rhs; rw [show k = k / 2 + k / 2 by omega]
    · rename_i hk
      rw [show k = 0 by omega, pw, F.mul_one ho]

/-! ### the product of all elements but 0 -/
def prod (mul : Nat → Nat → Nat) : List Nat → Nat
  | [] => 1
  | x :: l => mul x (prod mul l)
omit F in
theorem perm_of_sub : ∀ (l1 l2 : List Nat), l1.Nodup → (∀ x, x ∈ l1 → x ∈ l2) → l2.length ≤ l1.length → l1.Perm l2
  | [], l2, _, _, hl => by
    have : l2 = [] := List.eq_nil_of_length_eq_zero (by simpa using hl)
    rw [this]
  | x :: t, l2, hn, hs, hl => by
    have hx : x ∈ l2 := hs x (by simp)
    have hp := List.perm_cons_erase hx
    rw [List.nodup_cons] at hn
    refine List.Perm.trans ?_ hp.symm
    refine List.Perm.cons x (perm_of_sub t (l2.erase x) hn.2 (fun y hy => ?_) ?_)
    · have hne : y ≠ x := fun e => hn.1 (e ▸ hy)
      exact (List.mem_erase_of_ne hne).2 (hs y (by simp [hy]))
    · have := List.length_erase_of_mem hx
      simp at hl
      omega
theorem FF.prodC : ∀ l, (∀ x ∈ l, x < q) → prod mul l < q
  | [], _ => F.one
  | x :: l, h => F.mulC (h x (by simp)) (FF.prodC l fun y hy => h y (by simp [hy]))
theorem FF.prod_ne : ∀ l, (∀ x ∈ l, x < q ∧ x ≠ 0) → prod mul l ≠ 0
  | [], _ => by simp [prod]
  | x :: l, h => fun h0 => by
    have h1 := h x (by simp)
    have h2 : ∀ y ∈ l, y < q ∧ y ≠ 0 := fun y hy => h y (by simp [hy])
    rcases F.noz h1.1 (F.prodC l fun y hy => (h2 y hy).1) h0 with h3 | h3
    · exact h1.2 h3
    · exact FF.prod_ne l h2 h3
theorem FF.prod_perm {l1 l2 : List Nat} (hp : l1.Perm l2) : (∀ x ∈ l1, x < q) → prod mul l1 = prod mul l2 := by
  induction hp with
  | nil => intro _; rfl
  | cons x _ ih => intro h; rw [prod, prod, ih fun y hy => h y (by simp [hy])]
  | swap x y l =>
    intro h
    have hx : x < q := h x (by simp)
    have hy : y < q := h y (by simp)
    have hl := F.prodC l fun z hz => h z (by simp [hz])
    rw [prod, prod, prod, prod, ← F.mul_assoc hy hx hl, ← F.mul_assoc hx hy hl, F.mul_comm hy hx]
  | trans h1 _ ih1 ih2 => intro h; rw [ih1 h, ih2 fun y hy => h y (h1.mem_iff.2 hy)]
theorem FF.prod_scale {a : Nat} (ha : a < q) : ∀ l, (∀ x ∈ l, x < q) → prod mul (l.map (mul a)) = mul (pw mul a l.length) (prod mul l)
  | [], _ => (F.mul_one F.one).symm
  | x :: l, h => by
    have hx : x < q := h x (by simp)
    have hl : ∀ y ∈ l, y < q := fun y hy => h y (by simp [hy])
    have hp := F.prodC l hl
    have hw := F.pwC ha l.length
    rw [List.map_cons, prod, prod, FF.prod_scale ha l hl, List.length_cons, pw, F.mul_assoc ha hx (F.mulC hw hp), ← F.mul_assoc hx hw hp, F.mul_comm hx hw, F.mul_assoc hw hx hp,
      ← F.mul_assoc ha hw (F.mulC hx hp), F.mul_comm ha hw]

/-- the elements but 0 -/
def units (q : Nat) : List Nat := (List.range (q - 1)).map (· + 1)
omit F in
theorem mem_units {q x : Nat} : x ∈ units q ↔ x < q ∧ x ≠ 0 := by
  unfold units
  simp only [List.mem_map, List.mem_range]
  constructor
  · rintro ⟨y, hy, rfl⟩; omega
  · intro h; exact ⟨x - 1, by omega, by omega⟩
omit F in
theorem nodup_map_inj {l : List Nat} {f : Nat → Nat} (hn : l.Nodup) (hf : ∀ x ∈ l, ∀ y ∈ l, f x = f y → x = y) : (l.map f).Nodup := by
  induction l with
  | nil => simp
  | cons x l ih =>
    rw [List.nodup_cons] at hn
    rw [List.map_cons, List.nodup_cons]
    refine ⟨fun h => ?_, ih hn.2 fun y hy z hz => hf y (by simp [hy]) z (by simp [hz])⟩
    obtain ⟨y, hy, e⟩ := List.mem_map.1 h
    have := hf y (by simp [hy]) x (by simp) e
    exact hn.1 (this ▸ hy)
omit F in
theorem nodup_units (q : Nat) : (units q).Nodup := nodup_map_inj List.nodup_range fun x _ y _ h => by omega
omit F in
theorem length_units (q : Nat) : (units q).length = q - 1 := by simp [units]

/-- Fermat: the power q - 1 of an element but 0 is 1 -/
theorem FF.fermat {a : Nat} (ha : a < q) (h0 : a ≠ 0) : pw mul a (q - 1) = 1 := by
  have hu : ∀ x ∈ units q, x < q := fun x hx => (mem_units.1 hx).1
  have hp : ((units q).map (mul a)).Perm (units q) := by
    refine perm_of_sub _ _ (nodup_map_inj (nodup_units q) fun x hx y hy h => F.mul_cancel ha h0 (hu x hx) (hu y hy) h) (fun y hy => ?_) (by simp)
    obtain ⟨x, hx, rfl⟩ := List.mem_map.1 hy
    have hx' := mem_units.1 hx
    refine mem_units.2 ⟨F.mulC ha hx'.1, fun h => ?_⟩
    rcases F.noz ha hx'.1 h with h1 | h1
    · exact h0 h1
    · exact hx'.2 h1
  have h1 := F.prod_perm hp fun y hy => by
    obtain ⟨x, hx, rfl⟩ := List.mem_map.1 hy
    exact F.mulC ha (hu x hx)
  rw [F.prod_scale ha _ hu, length_units] at h1
  have hP := F.prodC _ hu
  have hP0 := F.prod_ne (units q) fun x hx => mem_units.1 hx
  refine F.mul_cancel hP hP0 (F.pwC ha _) F.one ?_
  rw [F.mul_comm hP (F.pwC ha _), h1, F.mul_one hP]

/-! ### polynomials by Horner's scheme -/
def ev (add mul : Nat → Nat → Nat) : List Nat → Nat → Nat
  | [], _ => 0
  | c :: p, x => add c (mul x (ev add mul p x))
def addP (add : Nat → Nat → Nat) : List Nat → List Nat → List Nat
  | [], r => r
  | p, [] => p
  | c :: p, d :: r => add c d :: addP add p r
/-- the quotient of the division by X - a -/
def sd (add mul : Nat → Nat → Nat) (a : Nat) : List Nat → List Nat
  | [] => []
  | _ :: p => addP add p ((sd add mul a p).map (mul a))
theorem FF.evC : ∀ (p : List Nat) {x : Nat}, (∀ c ∈ p, c < q) → x < q → ev add mul p x < q
  | [], x, _, _ => F.zero
  | c :: p, x, h, hx => F.addC (h c (by simp)) (F.mulC hx (FF.evC p (fun d hd => h d (by simp [hd])) hx))
theorem FF.addPC : ∀ (p r : List Nat), (∀ c ∈ p, c < q) → (∀ c ∈ r, c < q) → ∀ c ∈ addP add p r, c < q
  | [], r, _, hr => by simpa [addP] using hr
  | c :: p, [], hp, _ => by simpa [addP] using hp
  | c :: p, d :: r, hp, hr => by
    intro e he
    simp only [addP, List.mem_cons] at he
    rcases he with rfl | he
    · exact F.addC (hp c (by simp)) (hr d (by simp))
    · exact FF.addPC p r (fun x hx => hp x (by simp [hx])) (fun x hx => hr x (by simp [hx])) e he
theorem FF.add_swap {a b c d : Nat} (ha : a < q) (hb : b < q) (hc : c < q) (hd : d < q) : add (add a b) (add c d) = add (add a c) (add b d) := by
  rw [F.add_assoc ha hb (F.addC hc hd), ← F.add_assoc hb hc hd, F.add_comm hb hc, F.add_assoc hc hb hd, ← F.add_assoc ha hc (F.addC hb hd)]
theorem FF.ev_addP : ∀ (p r : List Nat) {x : Nat}, (∀ c ∈ p, c < q) → (∀ c ∈ r, c < q) → x < q → ev add mul (addP add p r) x = add (ev add mul p x) (ev add mul r x)
  | [], r, x, _, hr, hx => by rw [addP, ev, F.zero_add (F.evC r hr hx)]
  | c :: p, [], x, hp, _, hx => by
    have e : addP add (c :: p) [] = c :: p := rfl
    rw [e]
    exact (F.add_zero (F.evC (c :: p) hp hx)).symm
  | c :: p, d :: r, x, hp, hr, hx => by
    have hp' : ∀ c ∈ p, c < q := fun y hy => hp y (by simp [hy])
    have hr' : ∀ c ∈ r, c < q := fun y hy => hr y (by simp [hy])
    have h1 := F.evC p hp' hx
    have h2 := F.evC r hr' hx
    rw [addP, ev, ev, ev, FF.ev_addP p r hp' hr' hx, F.distrib hx h1 h2, F.add_swap (hp c (by simp)) (hr d (by simp)) (F.mulC hx h1) (F.mulC hx h2)]
theorem FF.ev_scale {a : Nat} (ha : a < q) : ∀ (p : List Nat) {x : Nat}, (∀ c ∈ p, c < q) → x < q → ev add mul (p.map (mul a)) x = mul a (ev add mul p x)
  | [], x, _, _ => (F.mul_zero ha).symm
  | c :: p, x, hp, hx => by
    have hp' : ∀ c ∈ p, c < q := fun y hy => hp y (by simp [hy])
    have h1 := F.evC p hp' hx
    have hc : c < q := hp c (by simp)
    rw [List.map_cons, ev, ev, FF.ev_scale ha p hp' hx, F.distrib ha hc (F.mulC hx h1), ← F.mul_assoc hx ha h1, F.mul_comm hx ha, F.mul_assoc ha hx h1]
theorem FF.sdC {a : Nat} (ha : a < q) : ∀ (p : List Nat), (∀ c ∈ p, c < q) → ∀ c ∈ sd add mul a p, c < q
  | [], _ => by simp [sd]
  | c :: p, hp => by
    have hp' : ∀ c ∈ p, c < q := fun y hy => hp y (by simp [hy])
    rw [sd]
    refine F.addPC p _ hp' fun d hd => ?_
    obtain ⟨e, he, rfl⟩ := List.mem_map.1 hd
    exact F.mulC ha (FF.sdC ha p hp' e he)
omit F in
theorem length_addP : ∀ (p r : List Nat), r.length ≤ p.length → (addP add p r).length = p.length
  | [], r, h => by simpa [addP] using h
  | c :: p, [], _ => rfl
  | c :: p, d :: r, h => by simp at h; simp [addP, length_addP p r h]
omit F in
theorem length_sd (a : Nat) : ∀ p : List Nat, (sd add mul a p).length = p.length - 1
  | [] => rfl
  | c :: p => by
    rw [sd, length_addP _ _ (by rw [List.length_map, length_sd a p]; omega)]
    simp
/-- p(x) is p(a) and (x - a) times the quotient -/
theorem FF.ev_sd {a : Nat} (ha : a < q) : ∀ (p : List Nat) {x : Nat}, (∀ c ∈ p, c < q) → x < q →
    ev add mul p x = add (ev add mul p a) (mul (add x (neg a)) (ev add mul (sd add mul a p) x))
  | [], x, _, hx => by
    show 0 = add 0 (mul (add x (neg a)) 0)
    rw [F.mul_zero (F.addC hx (F.negC ha)), F.add_zero F.zero]
  | c :: p, x, hp, hx => by
    have hp' : ∀ c ∈ p, c < q := fun y hy => hp y (by simp [hy])
    have hc : c < q := hp c (by simp)
    have hq := F.sdC ha p hp'
    have h1 := F.evC p hp' hx
    have h2 := F.evC p hp' ha
    have h3 := F.evC (sd add mul a p) hq hx
    have hd := F.addC hx (F.negC ha)
    have hqa : ∀ c ∈ (sd add mul a p).map (mul a), c < q := fun d hd => by
      obtain ⟨e, he, rfl⟩ := List.mem_map.1 hd
      exact F.mulC ha (hq e he)
    rw [sd, F.ev_addP p _ hp' hqa hx, F.ev_scale ha _ hq hx, ev, ev]
    -- x * p(x) = a * p(a) + (x - a) * (p(x) + a * q(x))
    have e1 : mul x (ev add mul p x) = add (mul a (ev add mul p a)) (mul (add x (neg a)) (add (ev add mul p x) (mul a (ev add mul (sd add mul a p) x)))) := by
      have h4 := F.mulC ha h3
      have h5 := F.mulC hd h3
      rw [F.distrib hd h1 h4]
      -- (x - a) * (a * q) = a * ((x - a) * q)
      rw [← F.mul_assoc hd ha h3, F.mul_comm hd ha, F.mul_assoc ha hd h3]
      -- p(x) = p(a) + (x - a) q
      have ih := FF.ev_sd ha p hp' hx
      have h6 : add (mul a (ev add mul p a)) (mul a (mul (add x (neg a)) (ev add mul (sd add mul a p) x))) = mul a (ev add mul p x) := by
        rw [← F.distrib ha h2 h5, ← ih]
      have h7 := F.mulC hd h1
      have h8 := F.mulC ha h2
      have h9 := F.mulC ha h5
      rw [← F.add_assoc h8 h7 h9, F.add_comm h8 h7, F.add_assoc h7 h8 h9, h6]
      -- (x - a) p(x) + a p(x) = x p(x)
      rw [F.mul_comm hd h1, F.mul_comm ha h1, ← F.distrib h1 hd ha, F.add_assoc hx (F.negC ha) ha, F.neg_add ha, F.add_zero hx, F.mul_comm h1 hx]
    rw [e1, ← F.add_assoc hc (F.mulC ha h2) (F.mulC hd (F.addC h1 (F.mulC ha h3)))]
omit F in
theorem last_addP : ∀ (p r : List Nat), r.length < p.length → (addP add p r).getLastD 0 = p.getLastD 0
  | [], r, h => by simp at h
  | c :: p, [], _ => rfl
  | [c], d :: r, h => by simp at h
  | c :: c' :: p, [d], _ => by simp [addP, List.getLastD]
  | c :: c' :: p, d :: d' :: r, h => by
    have := last_addP (c' :: p) (d' :: r) (by simpa using h)
    simp only [addP, List.getLastD_cons] at this ⊢
    exact this
omit F in
theorem last_sd (a : Nat) (c c' : Nat) (p : List Nat) : (sd add mul a (c :: c' :: p)).getLastD 0 = (c :: c' :: p).getLastD 0 := by
  rw [sd, last_addP _ _ (by rw [List.length_map, length_sd]; simp)]
  simp

/-- a polynomial has no more roots than its degree -/
theorem FF.roots : ∀ (n : Nat) (p : List Nat), p.length = n → (∀ c ∈ p, c < q) → p.getLastD 0 ≠ 0 → ∀ l : List Nat, l.Nodup → (∀ x ∈ l, x < q ∧ ev add mul p x = 0) → l.length < n
  | 0, p, hn, _, hl, _, _, _ => by
    have : p = [] := List.eq_nil_of_length_eq_zero hn
    subst this
    simp at hl
  | 1, p, hn, hp, hl, l, _, hx => by
    match p, hn with
    | [c], _ =>
      match l with
      | [] => simp
      | x :: l =>
        have h := (hx x (by simp)).2
        have hxq := (hx x (by simp)).1
        rw [ev, ev, F.mul_zero hxq, F.add_zero (hp c (by simp))] at h
        simp at hl
        exact absurd h hl
  | n + 2, p, hn, hp, hl, l, hnd, hx => by
    match l with
    | [] => simp
    | a :: t =>
      obtain ⟨ha, hpa⟩ := hx a (by simp)
      rw [List.nodup_cons] at hnd
      match p, hn with
      | c :: c' :: p, hn =>
        have hq := F.sdC ha _ hp
        have := FF.roots (n + 1) (sd add mul a (c :: c' :: p)) (by rw [length_sd, hn]; rfl) hq (by rw [last_sd]; exact hl) t hnd.2 (fun x hxt => by
          obtain ⟨hxq, hpx⟩ := hx x (by simp [hxt])
          refine ⟨hxq, ?_⟩
          have h := F.ev_sd ha (c :: c' :: p) hp hxq
          have he := F.evC _ hq hxq
          rw [hpx, hpa, F.zero_add (F.mulC (F.addC hxq (F.negC ha)) he)] at h
          rcases F.noz (F.addC hxq (F.negC ha)) he h.symm with h1 | h1
          · have := F.sub_zero hxq ha h1
            subst this
            exact absurd hxt hnd.1
          · exact h1)
        simp only [List.length_cons]
        omega
end
end FieldMath
