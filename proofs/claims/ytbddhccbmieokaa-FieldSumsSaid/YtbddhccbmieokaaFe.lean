/- Finite fields, on: an element of each order that divides q - 1; the roots of unity are the powers of one; their sums. No program here. -/
import Derived.Test.YtbddhccbmieokaaFd
namespace FieldMath
set_option linter.unusedVariables false

/-! ### primes -/
theorem Prm.dvd {p d : Nat} (hp : Prm p) (h : d ∣ p) : d = 1 ∨ d = p := by
  have hle := Nat.le_of_dvd (by have := hp.1; omega) h
  have h0 : 0 < d := Nat.pos_of_dvd_of_pos h (by have := hp.1; omega)
  rcases Nat.lt_or_ge d p with hl | hl
  · rcases Nat.lt_or_ge d 2 with h2 | h2
    · left; omega
    · exact absurd (Nat.mod_eq_zero_of_dvd h) (hp.2 d hl h2)
  · right; omega
theorem Prm.coprime {p a : Nat} (hp : Prm p) (h : ¬ p ∣ a) : Nat.Coprime p a := by
  rcases hp.dvd (Nat.gcd_dvd_left p a) with h1 | h1
  · exact h1
  · exact absurd (h1 ▸ Nat.gcd_dvd_right p a) h
theorem Prm.dvd_mul {p a b : Nat} (hp : Prm p) (h : p ∣ a * b) : p ∣ a ∨ p ∣ b := by
  by_cases ha : p ∣ a
  · exact .inl ha
  · exact .inr ((hp.coprime ha).dvd_of_dvd_mul_left h)
theorem Prm.dvd_pow {p a : Nat} (hp : Prm p) : ∀ n, p ∣ a ^ n → p ∣ a
  | 0, h => by
    rw [Nat.pow_zero] at h
    have := Nat.le_of_dvd (by omega) h
    have := hp.1
    omega
  | n + 1, h => by
    rw [Nat.pow_succ] at h
    rcases hp.dvd_mul h with h1 | h1
    · exact Prm.dvd_pow hp n h1
    · exact h1
theorem exists_prm (n : Nat) : 2 ≤ n → ∃ p, Prm p ∧ p ∣ n := by
  induction n using Nat.strongRecOn with
  | ind n ih =>
    intro h
    by_cases hp : Prm n
    · exact ⟨n, hp, Nat.dvd_refl n⟩
    · have : ∃ d, d < n ∧ 2 ≤ d ∧ n % d = 0 := by
        apply Classical.byContradiction
        intro hno
        exact hp ⟨h, fun d hd h2 h0 => hno ⟨d, hd, h2, h0⟩⟩
      obtain ⟨d, hd, h2, h0⟩ := this
      obtain ⟨p, hp, hpd⟩ := ih d hd h2
      exact ⟨p, hp, Nat.dvd_trans hpd (Nat.dvd_of_mod_eq_zero h0)⟩
theorem dvd_pp {l g e : Nat} (hl : Prm l) (h : g ∣ l ^ (e + 1)) : g = l ^ (e + 1) ∨ g ∣ l ^ e := by
  obtain ⟨k, hk⟩ := h
  have hl0 : 0 < l := by have := hl.1; omega
  have hpos : 0 < l ^ (e + 1) := Nat.pow_pos hl0
  rcases Nat.lt_or_ge k 2 with h2 | h2
  · left
    have : k = 0 ∨ k = 1 := by omega
    rcases this with rfl | rfl
    · simp at hk; omega
    · rw [hk, Nat.mul_one]
  · right
    obtain ⟨p, hp, hpk⟩ := exists_prm k h2
    have hpl : p ∣ l := hp.dvd_pow (e + 1) (Nat.dvd_trans hpk ⟨g, by rw [hk, Nat.mul_comm]⟩)
    have hpe : p = l := by
      rcases hl.dvd hpl with h3 | h3
      · have := hp.1; omega
      · exact h3
    subst hpe
    obtain ⟨m, rfl⟩ := hpk
    refine ⟨m, ?_⟩
    rw [Nat.pow_succ, Nat.mul_left_comm, Nat.mul_comm] at hk
    exact Nat.eq_of_mul_eq_mul_left hl0 hk
theorem split_pow {l : Nat} (hl : 2 ≤ l) (n : Nat) : 0 < n → ∃ e m, n = l ^ e * m ∧ ¬ l ∣ m := by
  induction n using Nat.strongRecOn with
  | ind n ih =>
    intro h
    by_cases hd : l ∣ n
    · obtain ⟨k, rfl⟩ := hd
      have hk : 0 < k := Nat.pos_of_mul_pos_left h
      have hlt : k < l * k := by have : 2 * k ≤ l * k := Nat.mul_le_mul_right k hl
                                 omega
      obtain ⟨e, m, he, hm⟩ := ih k hlt hk
      exact ⟨e + 1, m, by rw [Nat.pow_succ, Nat.mul_comm (l ^ e) l, Nat.mul_assoc, ← he], hm⟩
    · exact ⟨0, n, by simp, hd⟩

/-- the order of an element -/
def Ord (mul : Nat → Nat → Nat) (g n : Nat) : Prop := pw mul g n = 1 ∧ ∀ d, pw mul g d = 1 → n ∣ d

theorem least_of {p : Nat → Prop} (h : ∃ n, p n) : ∃ n, p n ∧ ∀ m, m < n → ¬ p m := by
  obtain ⟨n, hn⟩ := h
  induction n using Nat.strongRecOn with
  | ind n ih =>
    by_cases hex : ∃ m, m < n ∧ p m
    · obtain ⟨m, hm, hpm⟩ := hex
      exact ih m hm hpm
    · exact ⟨n, hn, fun m hm hpm => hex ⟨m, hm, hpm⟩⟩

section
variable {q : Nat} {add mul : Nat → Nat → Nat} {neg : Nat → Nat} (F : FF q add mul neg)
include F

theorem FF.pw_mult {a : Nat} (ha : a < q) {m n : Nat} (h : pw mul a m = 1) (hd : m ∣ n) : pw mul a n = 1 := by
  obtain ⟨k, rfl⟩ := hd
  rw [F.pw_mul ha, h, F.pw_one]
theorem FF.pw_gcd {a : Nat} (ha : a < q) (m n : Nat) : pw mul a m = 1 → pw mul a n = 1 → pw mul a (Nat.gcd m n) = 1 := by
  induction m, n using Nat.gcd.induction with
  | H0 n => intro _ h; rwa [Nat.gcd_zero_left]
  | H1 m n hm ih =>
    intro h1 h2
    rw [Nat.gcd_rec]
    refine ih ?_ h1
    have e : n = m * (n / m) + n % m := (Nat.div_add_mod n m).symm
    rw [e, F.pw_add ha, F.pw_mul ha, h1, F.pw_one, F.one_mul (F.pwC ha _)] at h2
    exact h2

omit F in
theorem last_mono : ∀ n, (List.replicate n 0 ++ [1]).getLastD 0 = 1
  | 0 => rfl
  | n + 1 => by
    rw [List.replicate_succ, List.cons_append, List.getLastD_cons]
    cases n with
    | zero => rfl
    | succ n =>
      have := last_mono (n + 1)
      rw [List.replicate_succ, List.cons_append, List.getLastD_cons] at this ⊢
      exact this
theorem FF.ev_mono {x : Nat} (hx : x < q) : ∀ n, ev add mul (List.replicate n 0 ++ [1]) x = pw mul x n
  | 0 => by
    show add 1 (mul x 0) = 1
    rw [F.mul_zero hx, F.add_zero F.one]
  | n + 1 => by
    rw [List.replicate_succ, List.cons_append, ev, FF.ev_mono hx n, F.zero_add (F.mulC hx (F.pwC hx n)), F.mul_comm hx (F.pwC hx n)]
    rfl
/-- at most n elements have the power 1 for the exponent n -/
theorem FF.unity {n : Nat} (hn : 0 < n) (l : List Nat) (hnd : l.Nodup) (hl : ∀ x ∈ l, x < q ∧ pw mul x n = 1) : l.length ≤ n := by
  obtain ⟨m, rfl⟩ : ∃ m, n = m + 1 := ⟨n - 1, by omega⟩
  have h := F.roots (m + 2) (neg 1 :: (List.replicate m 0 ++ [1])) (by simp) (fun c hc => by
    simp only [List.mem_cons, List.mem_append, List.mem_replicate, List.not_mem_nil, or_false] at hc
    rcases hc with rfl | ⟨_, rfl⟩ | rfl
    · exact F.negC F.one
    · exact F.zero
    · exact F.one) (by
      have := last_mono m
      cases m with
      | zero => simp
      | succ m => rw [List.replicate_succ, List.cons_append, List.getLastD_cons, List.getLastD_cons] at *; rw [this]; omega) l hnd (fun x hx => by
    obtain ⟨hxq, hp⟩ := hl x hx
    refine ⟨hxq, ?_⟩
    rw [ev, F.ev_mono hxq, F.mul_comm hxq (F.pwC hxq m)]
    have : mul (pw mul x m) x = 1 := hp
    rw [this, F.neg_add F.one])
  omega
theorem FF.exists_not {m : Nat} (hm : 0 < m) (hlt : m < q - 1) : ∃ a, a < q ∧ a ≠ 0 ∧ pw mul a m ≠ 1 := by
  apply Classical.byContradiction
  intro hno
  have := F.unity hm (units q) (nodup_units q) (fun x hx => by
    have h := mem_units.1 hx
    refine ⟨h.1, ?_⟩
    apply Classical.byContradiction
    intro hp
    exact hno ⟨x, h.1, h.2, hp⟩)
  rw [length_units] at this
  omega
theorem FF.exists_pp {l e : Nat} (hl : Prm l) (hd : l ^ (e + 1) ∣ q - 1) : ∃ b, b < q ∧ b ≠ 0 ∧ Ord mul b (l ^ (e + 1)) := by
  obtain ⟨k, hk⟩ := hd
  have hl2 := hl.1
  have hq := F.two
  have hk0 : 0 < k := by
    rcases Nat.eq_zero_or_pos k with h | h
    · subst h; simp at hk; omega
    · exact h
  have hpos : 0 < l ^ e := Nat.pow_pos (by omega)
  have hm : 0 < l ^ e * k := Nat.mul_pos hpos hk0
  have e1 : q - 1 = l * (l ^ e * k) := by rw [hk, Nat.pow_succ, Nat.mul_comm (l ^ e) l, Nat.mul_assoc]
  have hlt : l ^ e * k < q - 1 := by
    rw [e1]
    have : 2 * (l ^ e * k) ≤ l * (l ^ e * k) := Nat.mul_le_mul_right _ hl2
    omega
  obtain ⟨a, ha, ha0, hpa⟩ := F.exists_not hm hlt
  have hb := F.pwC ha k
  have h1 : pw mul (pw mul a k) (l ^ (e + 1)) = 1 := by
    rw [← F.pw_mul ha, Nat.mul_comm, ← hk, F.fermat ha ha0]
  have h2 : pw mul (pw mul a k) (l ^ e) ≠ 1 := by
    rw [← F.pw_mul ha, Nat.mul_comm]; exact hpa
  refine ⟨pw mul a k, hb, F.pw_ne ha ha0 k, h1, fun d hd => ?_⟩
  have hg := F.pw_gcd hb d _ hd h1
  rcases dvd_pp hl (Nat.gcd_dvd_right d (l ^ (e + 1))) with h3 | h3
  · rw [← h3]; exact Nat.gcd_dvd_left _ _
  · exact absurd (F.pw_mult hb hg h3) h2
theorem FF.ord_mul {x y a b : Nat} (hx : x < q) (hy : y < q) (h1 : Ord mul x a) (h2 : Ord mul y b) (hc : Nat.Coprime a b) : Ord mul (mul x y) (a * b) := by
  constructor
  · rw [F.pw_prod hx hy, F.pw_mult hx h1.1 ⟨b, rfl⟩, F.pw_mult hy h2.1 ⟨a, Nat.mul_comm a b⟩, F.mul_one F.one]
  · intro d hd
    have hxy := F.mulC hx hy
    have ha : a ∣ d := by
      have h3 : pw mul (mul x y) (d * b) = 1 := F.pw_mult hxy hd ⟨b, rfl⟩
      rw [F.pw_prod hx hy, F.pw_mult hy h2.1 ⟨d, Nat.mul_comm d b⟩, F.mul_one (F.pwC hx _)] at h3
      exact hc.dvd_of_dvd_mul_right (h1.2 _ h3)
    have hb : b ∣ d := by
      have h3 : pw mul (mul x y) (d * a) = 1 := F.pw_mult hxy hd ⟨a, rfl⟩
      rw [F.pw_prod hx hy, F.pw_mult hx h1.1 ⟨d, Nat.mul_comm d a⟩, F.one_mul (F.pwC hy _)] at h3
      exact hc.symm.dvd_of_dvd_mul_right (h2.2 _ h3)
    exact hc.mul_dvd_of_dvd_of_dvd ha hb
/-- an element of each order that divides q - 1 -/
theorem FF.exists_ord (n : Nat) : 0 < n → n ∣ q - 1 → ∃ g, g < q ∧ g ≠ 0 ∧ Ord mul g n := by
  induction n using Nat.strongRecOn with
  | ind n ih =>
    intro h0 hd
    rcases Nat.lt_or_ge n 2 with hl | hl
    · obtain rfl : n = 1 := by omega
      exact ⟨1, F.one, by omega, F.pw_one 1, fun d _ => Nat.one_dvd d⟩
    · obtain ⟨p, hp, hpn⟩ := exists_prm n hl
      obtain ⟨e, m, he, hm⟩ := split_pow hp.1 n h0
      have hm0 : 0 < m := by
        rcases Nat.eq_zero_or_pos m with h | h
        · subst h; simp at he; omega
        · exact h
      have he0 : 0 < e := by
        rcases Nat.eq_zero_or_pos e with h | h
        · subst h; simp at he; subst he; exact absurd hpn hm
        · exact h
      obtain ⟨e', rfl⟩ : ∃ e', e = e' + 1 := ⟨e - 1, by omega⟩
      have hp2 : 2 ≤ p ^ (e' + 1) := by
        rw [Nat.pow_succ]
        have := hp.1
        have hpos : 0 < p ^ e' := Nat.pow_pos (by omega)
        calc 2 ≤ 1 * p := by omega
          _ ≤ p ^ e' * p := Nat.mul_le_mul_right p hpos
      have hmn : m < n := by
        rw [he]
        have : 2 * m ≤ p ^ (e' + 1) * m := Nat.mul_le_mul_right m hp2
        omega
      obtain ⟨x, hx, hx0, hox⟩ := F.exists_pp hp (Nat.dvd_trans ⟨m, he⟩ hd)
      obtain ⟨y, hy, hy0, hoy⟩ := ih m hmn hm0 (Nat.dvd_trans ⟨p ^ (e' + 1), by rw [he, Nat.mul_comm]⟩ hd)
      refine ⟨mul x y, F.mulC hx hy, fun h => ?_, ?_⟩
      · rcases F.noz hx hy h with h1 | h1
        · exact hx0 h1
        · exact hy0 h1
      · rw [he]
        exact F.ord_mul hx hy hox hoy (Nat.Coprime.pow_left _ (hp.coprime hm))

/-- the powers of an element of order n below n are different -/
theorem FF.pw_inj {g n i j : Nat} (hg : g < q) (h0 : g ≠ 0) (ho : Ord mul g n) (hi : i < n) (hj : j < n) (h : pw mul g i = pw mul g j) : i = j := by
  have key : ∀ i j, i ≤ j → j < n → pw mul g i = pw mul g j → i = j := fun i j hij hj h => by
    obtain ⟨k, rfl⟩ : ∃ k, j = i + k := ⟨j - i, by omega⟩
    rw [F.pw_add hg] at h
    have h1 : pw mul g k = 1 := by
      refine F.mul_cancel (F.pwC hg i) (F.pw_ne hg h0 i) (F.pwC hg k) F.one ?_
      rw [← h, F.mul_one (F.pwC hg i)]
    have h2 := ho.2 k h1
    rcases Nat.eq_zero_or_pos k with h3 | h3
    · omega
    · have := Nat.le_of_dvd h3 h2
      omega
  rcases Nat.le_total i j with hij | hij
  · exact key i j hij hj h
  · exact (key j i hij hi h.symm).symm
/-- the roots of unity are the powers of an element of order n -/
theorem FF.root_pw {g n x : Nat} (hn : 0 < n) (hg : g < q) (h0 : g ≠ 0) (ho : Ord mul g n) (hx : x < q) (hp : pw mul x n = 1) : ∃ j, j < n ∧ pw mul g j = x := by
  apply Classical.byContradiction
  intro hno
  have hnd : ((List.range n).map (pw mul g)).Nodup := nodup_map_inj List.nodup_range fun i hi j hj h => F.pw_inj hg h0 ho (List.mem_range.1 hi) (List.mem_range.1 hj) h
  have := F.unity hn (x :: (List.range n).map (pw mul g)) (List.nodup_cons.2 ⟨fun h => by
      obtain ⟨j, hj, e⟩ := List.mem_map.1 h
      exact hno ⟨j, List.mem_range.1 hj, e⟩, hnd⟩) (fun y hy => by
      rcases List.mem_cons.1 hy with rfl | hy
      · exact ⟨hx, hp⟩
      · obtain ⟨j, hj, rfl⟩ := List.mem_map.1 hy
        refine ⟨F.pwC hg j, ?_⟩
        rw [← F.pw_mul hg, Nat.mul_comm, F.pw_mul hg, ho.1, F.pw_one])
  simp at this
  omega
end
end FieldMath
