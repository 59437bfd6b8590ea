/- Plain mathematics: sizes of sets of pebbles, ways of moves, what a search tells, and the least number of pebbles. -/
import Derived.Test.YtihpdmchppcbfaaFb
namespace Go.Proofs.Ytihpdmchppcbfaa
set_option linter.unusedVariables false
set_option linter.unusedSimpArgs false

theorem pcF_zero : ∀ n, pcF n 0 = 0
  | 0 => rfl
  | n + 1 => by simp [pcF, pcF_zero n]
theorem pcF_more : ∀ n s, s < 2 ^ n → pcF (n + 1) s = pcF n s
  | 0, s, h => by
    obtain rfl : s = 0 := by simpa using h
    rfl
  | n + 1, s, h => by
    have hs : s / 2 < 2 ^ n := by rw [Nat.pow_succ] at h; omega
    show s % 2 + pcF (n + 1) (s / 2) = s % 2 + pcF n (s / 2)
    rw [pcF_more n _ hs]
theorem pc_half {s : Nat} (h : s < 16384) : pc s = s % 2 + pc (s / 2) := by
  have := pcF_more 14 s h
  unfold pc
  rw [← this]
  rfl
theorem xor0_mod {s : Nat} (hb : s.testBit 0 = false) : s % 2 = 0 ∧ (s ^^^ 2 ^ 0) % 2 = 1 := by
  constructor
  · have : s.testBit 0 = decide (s % 2 = 1) := Nat.testBit_zero s
    rw [hb] at this
    have : ¬ (s % 2 = 1) := of_decide_eq_false this.symm
    omega
  · have h := Nat.testBit_zero (s ^^^ 2 ^ 0)
    rw [Nat.testBit_xor, hb] at h
    have : decide ((s ^^^ 2 ^ 0) % 2 = 1) = true := by rw [← h]; rfl
    exact of_decide_eq_true this
theorem xor0_div (s : Nat) : (s ^^^ 2 ^ 0) / 2 = s / 2 := by
  apply Nat.eq_of_testBit_eq
  intro i
  rw [← Nat.testBit_succ, ← Nat.testBit_succ, Nat.testBit_xor, Nat.testBit_two_pow]
  simp
theorem xorS_mod (s v : Nat) : (s ^^^ 2 ^ (v + 1)) % 2 = s % 2 := by
  have h1 := Nat.testBit_zero (s ^^^ 2 ^ (v + 1))
  have h2 := Nat.testBit_zero s
  rw [Nat.testBit_xor, Nat.testBit_two_pow] at h1
  simp only [show decide (v + 1 = 0) = false by simp, Bool.xor_false] at h1
  rw [h2] at h1
  have : (s % 2 = 1) ↔ ((s ^^^ 2 ^ (v + 1)) % 2 = 1) := by
    constructor
    · intro h; rw [decide_eq_true h] at h1; exact of_decide_eq_true h1.symm
    · intro h; rw [decide_eq_true h] at h1; exact of_decide_eq_true h1
  omega
theorem xorS_div (s v : Nat) : (s ^^^ 2 ^ (v + 1)) / 2 = (s / 2) ^^^ 2 ^ v := by
  apply Nat.eq_of_testBit_eq
  intro i
  rw [← Nat.testBit_succ, Nat.testBit_xor, Nat.testBit_xor, ← Nat.testBit_succ, Nat.testBit_two_pow, Nat.testBit_two_pow]
  simp
theorem pcF_set : ∀ n v s, v < n → s.testBit v = false → pcF n (s ^^^ 2 ^ v) = pcF n s + 1
  | 0, v, s, h, _ => by omega
  | n + 1, 0, s, _, hb => by
    obtain ⟨h1, e1⟩ := xor0_mod hb
    show (s ^^^ 2 ^ 0) % 2 + pcF n ((s ^^^ 2 ^ 0) / 2) = s % 2 + pcF n (s / 2) + 1
    rw [e1, xor0_div, h1]
    omega
  | n + 1, v + 1, s, h, hb => by
    show (s ^^^ 2 ^ (v + 1)) % 2 + pcF n ((s ^^^ 2 ^ (v + 1)) / 2) = s % 2 + pcF n (s / 2) + 1
    rw [xorS_mod, xorS_div, pcF_set n v (s / 2) (by omega) (by rw [← Nat.testBit_succ]; exact hb)]
    omega
theorem xor_add : ∀ v s, s.testBit v = false → s ^^^ 2 ^ v = s + 2 ^ v
  | 0, s, hb => by
    obtain ⟨h1, e1⟩ := xor0_mod hb
    have := xor0_div s
    show _ = s + 1
    omega
  | v + 1, s, hb => by
    have h1 := xorS_mod s v
    have h2 := xorS_div s v
    rw [xor_add v (s / 2) (by rw [← Nat.testBit_succ]; exact hb)] at h2
    rw [Nat.pow_succ] at *
    omega

theorem xor_bit (s v j : Nat) : (s ^^^ 2 ^ v).testBit j = if j = v then !s.testBit v else s.testBit j := by
  rw [Nat.testBit_xor, Nat.testBit_two_pow]
  by_cases e : j = v
  · simp [e]
  · have : ¬ v = j := fun h => e h.symm
    simp [e, this]
theorem xor_up {s v : Nat} (h : s.testBit v = false) : s < s ^^^ 2 ^ v := by
  rw [xor_add v s h]
  have := Nat.two_pow_pos v
  omega
theorem xor_down {s v : Nat} (h : s.testBit v = true) : s ^^^ 2 ^ v < s := by
  have := xor_up (s := s ^^^ 2 ^ v) (v := v) (by rw [xor_bit]; simp [h])
  rw [xor_back] at this
  exact this
theorem lt_xor_iff (s v : Nat) : s < s ^^^ 2 ^ v ↔ s.testBit v = false := by
  constructor
  · intro h
    cases hb : s.testBit v with
    | false => rfl
    | true => have := xor_down hb; omega
  · exact xor_up

/-- dp tells of each set in Q its distance, -1 of every other -/
structure Dp (n : Nat) (Q : List Nat) (dep : Nat → Nat) (dp : Nat → Int) : Prop where
  lt : ∀ t, t ∈ Q → t < 2 ^ n
  isin : ∀ t, t ∈ Q → dp t = dep t
  out : ∀ t, t < 2 ^ n → t ∉ Q → dp t = -1
theorem Dp.start (n : Nat) : Dp n [0] (fun _ => 0) (fun t => if t = 0 then 0 else -1) where
  lt := fun t ht => by simp at ht; subst ht; exact Nat.two_pow_pos n
  isin := fun t ht => by simp at ht; simp [ht]
  out := fun t _ ht => by simp at ht; simp [ht]
theorem Dp.new {n : Nat} {Q : List Nat} {dep : Nat → Nat} {dp : Nat → Int} (h : Dp n Q dep dp) {s v : Nat} (hs : s ∈ Q) (hv : v < n) (ht : s ^^^ 2 ^ v ∉ Q) :
    Dp n (Q ++ [s ^^^ 2 ^ v]) (fun x => if x = s ^^^ 2 ^ v then dep s + 1 else dep x) (fun x => if x = s ^^^ 2 ^ v then dp s + 1 else dp x) where
  lt := fun t hm => by
    rcases List.mem_append.1 hm with hm | hm
    · exact h.lt t hm
    · simp at hm
      rw [hm]
      exact xor_lt (h.lt s hs) hv
  isin := fun t hm => by
    by_cases e : t = s ^^^ 2 ^ v
    · simp only [if_pos e]
      rw [h.isin s hs]
      rfl
    · simp only [if_neg e]
      rcases List.mem_append.1 hm with hm | hm
      · exact h.isin t hm
      · simp at hm; exact absurd hm e
  out := fun t hlt hm => by
    have e : t ≠ s ^^^ 2 ^ v := fun e => hm (by simp [e])
    simp only [if_neg e]
    exact h.out t hlt (fun hq => hm (List.mem_append.2 (.inl hq)))

theorem nodup_len {Q : List Nat} {N : Nat} (hn : Q.Nodup) (h : ∀ x, x ∈ Q → x < N) : Q.length ≤ N := by
  have : ∀ (S T : List Nat), S.Nodup → (∀ i ∈ S, i ∈ T) → S.length ≤ T.length := by
    intro S
    induction S with
    | nil => intro T _ _; exact Nat.zero_le _
    | cons x S ih =>
      intro T hn h
      rw [List.nodup_cons] at hn
      have hx := h x (by simp)
      have := ih (T.erase x) hn.2 (fun i hi => (List.mem_erase_of_ne (fun (e : i = x) => hn.1 (e ▸ hi))).2 (h i (by simp [hi])))
      rw [List.length_erase_of_mem hx] at this
      have := List.length_pos_of_mem hx
      simp only [List.length_cons]
      omega
  have := this Q (List.range N) hn (fun i hi => List.mem_range.2 (h i hi))
  simpa using this

/-- the first i predecessors as a set -/
def nd (z : Nat → Int) : Nat → Nat
  | 0 => 0
  | i + 1 => nd z i ||| 2 ^ (z i).toNat
theorem nd_lt {z : Nat → Int} {n : Nat} : ∀ i, (∀ j, j < i → (z j).toNat < n) → nd z i < 2 ^ n
  | 0, _ => Nat.two_pow_pos _
  | i + 1, h => Nat.or_lt_two_pow (nd_lt i fun j hj => h j (by omega)) (Nat.pow_lt_pow_right (by omega) (h i (by omega)))
theorem nd_and {z : Nat → Int} (s : Nat) : ∀ i, (s &&& nd z i = nd z i ↔ ∀ j, j < i → s.testBit (z j).toNat = true)
  | 0 => by simp [nd]
  | i + 1 => by
    have ih := nd_and (z := z) s i
    constructor
    · intro h
      have hb : ∀ b, (nd z (i + 1)).testBit b = true → s.testBit b = true := fun b hb => by
        rw [← h, Nat.testBit_and] at hb
        exact (Bool.and_eq_true_iff.1 hb).1
      have hi : s &&& nd z i = nd z i := by
        apply Nat.eq_of_testBit_eq
        intro b
        rw [Nat.testBit_and]
        cases e : (nd z i).testBit b with
        | false => simp
        | true => rw [hb b (by simp only [nd, Nat.testBit_or, e, Bool.true_or])]; rfl
      intro j hj
      rcases Nat.lt_or_ge j i with hl | hl
      · exact (ih.1 hi) j hl
      · obtain rfl : j = i := by omega
        exact hb _ (by simp only [nd, Nat.testBit_or, Nat.testBit_two_pow_self, Bool.or_true])
    · intro h
      have hi := ih.2 fun j hj => h j (by omega)
      apply Nat.eq_of_testBit_eq
      intro b
      rw [Nat.testBit_and]
      cases e : (nd z (i + 1)).testBit b with
      | false => simp
      | true =>
        simp only [nd, Nat.testBit_or] at e
        rcases Bool.or_eq_true_iff.1 e with e | e
        · rw [← hi, Nat.testBit_and] at e
          rw [(Bool.and_eq_true_iff.1 e).1]
          rfl
        · rw [Nat.testBit_two_pow] at e
          have : (z i).toNat = b := of_decide_eq_true e
          rw [← this, h i (by omega)]
          rfl

theorem need_sub {x j s : Nat} (hx : x < 2 ^ j) (hs : ∀ p, p < j → s.testBit p = true) : s &&& x = x := by
  apply Nat.eq_of_testBit_eq
  intro i
  rw [Nat.testBit_and]
  rcases Nat.lt_or_ge i j with h | h
  · rw [hs i h, Bool.true_and]
  · rw [Nat.testBit_lt_two_pow (Nat.lt_of_lt_of_le hx (Nat.pow_le_pow_right (by omega) h)), Bool.and_false]

/-- a play: moves that lead from the set s to the set t -/
def Way (E : Nat → Nat → Prop) (n : Nat) : Nat → List (Bool × Int) → Nat → Prop
  | s, [], t => s = t
  | s, m :: ms, t => ∃ v : Nat, v < n ∧ m = (!s.testBit v, (v : Int)) ∧ E s (s ^^^ 2 ^ v) ∧ Way E n (s ^^^ 2 ^ v) ms t
/-- what a search tells: a shortest play, or that there is none -/
def Told (E : Nat → Nat → Prop) (n goal : Nat) (l : List (Bool × Int)) (b : Bool) : Prop :=
  (b = true ∧ Way E n 0 l goal ∧ Rch E l.length goal ∧ (∀ m, Rch E m goal → l.length ≤ m) ∧ l.length < 2 ^ n) ∨ (l = [] ∧ b = false ∧ ∀ m, ¬ Rch E m goal)
theorem dep_lt {E : Nat → Nat → Prop} {n h : Nat} {Q : List Nat} {dep : Nat → Nat} {fr : Nat → Int} (hb : Bfs E Q h dep (fun _ => False)) (hfr : Fr E n Q dep fr) : ∀ x, x ∈ Q → dep x < 2 ^ n := by
  have : ∀ m x, x ∈ Q → dep x = m → ∃ S : List Nat, S.Nodup ∧ S.length = m + 1 ∧ (∀ y, y ∈ S → y ∈ Q ∧ dep y ≤ m) := by
    intro m
    induction m with
    | zero => intro x hx e; exact ⟨[x], by simp, rfl, fun y hy => by simp at hy; subst hy; exact ⟨hx, by omega⟩⟩
    | succ m ih =>
      intro x hx e
      obtain ⟨u, h1, h2, h3, h4, h5⟩ := hfr.par x hx (fun e0 => by rw [e0, hb.root.2] at e; omega)
      obtain ⟨S, s1, s2, s3⟩ := ih _ h3 (by omega)
      exact ⟨x :: S, List.nodup_cons.2 ⟨fun hm => by have := (s3 x hm).2; omega, s1⟩, by simp [s2], fun y hy => by
        rcases List.mem_cons.1 hy with hy | hy
        · subst hy; exact ⟨hx, by omega⟩
        · have := s3 y hy; exact ⟨this.1, by omega⟩⟩
  intro x hx
  obtain ⟨S, s1, s2, s3⟩ := this (dep x) x hx rfl
  have := nodup_len s1 (N := 2 ^ n) (fun y hy => hfr.lt y (s3 y hy).1)
  omega
section
variable {n : Nat} {need : Nat → Nat} (rev : Bool)
theorem rmono {E E' : Nat → Nat → Prop} (h : ∀ s t, E s t → E' s t) : ∀ {m x}, Rch E m x → Rch E' m x
  | 0, x, hx => hx
  | m + 1, x, ⟨s, hs, he⟩ => ⟨s, rmono h hs, h s x he⟩
theorem pcF_le : ∀ n s, pcF n s ≤ n
  | 0, s => Nat.le_refl _
  | n + 1, s => by have := pcF_le n (s / 2); show s % 2 + pcF n (s / 2) ≤ n + 1; omega
theorem pcF_stay {n s : Nat} (h : s < 2 ^ n) : ∀ d, pcF (n + d) s = pcF n s
  | 0 => rfl
  | d + 1 => by rw [← Nat.add_assoc, pcF_more _ _ (Nat.lt_of_lt_of_le h (Nat.pow_le_pow_right (by omega) (by omega))), pcF_stay h d]
theorem pc_le {n s : Nat} (hn : n ≤ 14) (h : s < 2 ^ n) : pc s ≤ n := by
  have := pcF_stay h (14 - n)
  rw [show n + (14 - n) = 14 by omega] at this
  unfold pc
  rw [this]
  exact pcF_le n s

theorem rch_lt (kk : Int) : ∀ m x, Rch (Ed n need kk rev) m x → x < 2 ^ n
  | 0, x, hx => by
    have : x = 0 := hx
    rw [this]; exact Nat.two_pow_pos _
  | m + 1, x, ⟨s, hs, ⟨v, hv, ht, _⟩⟩ => by
    rw [ht]; exact xor_lt (rch_lt kk m s hs) hv
theorem rch_min (h14 : n ≤ 14) (kk : Int) : ∀ m x, Rch (Ed n need kk rev) m x ↔ Rch (Ed n need (min kk (n : Int)) rev) m x := by
  intro m x
  have hle : min kk (n : Int) ≤ kk := by omega
  constructor
  · revert x
    induction m with
    | zero => intro x h; exact h
    | succ m ih =>
      intro x ⟨s, hs, ⟨v, hv, ht, ha, hk⟩⟩
      refine ⟨s, ih s hs, ⟨v, hv, ht, ha, ?_⟩⟩
      have := pc_le h14 (show x < 2 ^ n from by rw [ht]; exact xor_lt (rch_lt rev kk m s hs) hv)
      omega
  · intro h
    exact rmono (fun s t ⟨v, hv, ht, ha, hk⟩ => ⟨v, hv, ht, ha, by omega⟩) h

theorem sub1_bit (j i : Nat) : (2 ^ j - 1).testBit i = decide (i < j) := Nat.testBit_two_pow_sub_one j i
theorem up_rch (hnd : ∀ v, v < n → need v < 2 ^ v) (hn : 1 ≤ n) (h14 : n ≤ 14) : ∀ j, j ≤ n → Rch (Ed n need (n : Int) rev) j (2 ^ j - 1)
  | 0, _ => rfl
  | j + 1, h => by
    have e : 2 ^ (j + 1) - 1 = (2 ^ j - 1) ^^^ 2 ^ j := by
      apply Nat.eq_of_testBit_eq
      intro i
      rw [xor_bit, sub1_bit, sub1_bit, sub1_bit]
      by_cases e : i = j
      · simp [e]
      · simp only [e, if_false]
        congr 1
        apply propext
        omega
    refine ⟨_, up_rch hnd hn h14 j (by omega), ⟨j, by omega, e, fun _ => ?_, ?_⟩⟩
    · refine need_sub (hnd j (by omega)) fun p hp => ?_
      rw [sub1_bit]
      exact decide_eq_true hp
    · have : 2 ^ (j + 1) - 1 < 2 ^ n := by
        have := Nat.pow_le_pow_right (n := 2) (by omega) h
        have := Nat.two_pow_pos (j + 1)
        omega
      have := pc_le h14 this
      omega
theorem down_rch (hnd : ∀ v, v < n → need v < 2 ^ v) (hn : 1 ≤ n) (h14 : n ≤ 14) : ∀ d j, j + d = n - 1 → ∃ m, Rch (Ed n need (n : Int) rev) m ((2 ^ j - 1) ||| 2 ^ (n - 1))
  | 0, j, h => by
    have h1 := hn
    refine ⟨n, ?_⟩
    have e : (2 ^ j - 1) ||| 2 ^ (n - 1) = 2 ^ n - 1 := by
      apply Nat.eq_of_testBit_eq
      intro i
      rw [Nat.testBit_or, sub1_bit, sub1_bit, Nat.testBit_two_pow]
      by_cases e : n - 1 = i
      · simp [e, show i < n by omega]
      · by_cases e2 : i < j
        · simp [e2, show i < n by omega]
        · simp [e, e2, show ¬ i < n by omega]
    rw [e]
    exact up_rch rev hnd hn h14 n (Nat.le_refl _)
  | d + 1, j, h => by
    have h1 := hn
    obtain ⟨m, hm⟩ := down_rch hnd hn h14 d (j + 1) (by omega)
    have hb : ∀ i, ((2 ^ (j + 1) - 1) ||| 2 ^ (n - 1)).testBit i = (decide (i < j + 1) || decide (n - 1 = i)) := fun i => by rw [Nat.testBit_or, sub1_bit, Nat.testBit_two_pow]
    have e : (2 ^ j - 1) ||| 2 ^ (n - 1) = ((2 ^ (j + 1) - 1) ||| 2 ^ (n - 1)) ^^^ 2 ^ j := by
      apply Nat.eq_of_testBit_eq
      intro i
      rw [xor_bit, hb, hb, Nat.testBit_or, sub1_bit, Nat.testBit_two_pow]
      by_cases e : i = j
      · simp [e, show ¬ n - 1 = j by omega]
      · by_cases e2 : i < j
        · simp [e, e2, show i < j + 1 by omega]
        · simp [e, e2, show ¬ i < j + 1 by omega]
    refine ⟨m + 1, ⟨_, hm, ⟨j, by omega, e, fun _ => ?_, ?_⟩⟩⟩
    · refine need_sub (hnd j (by omega)) fun p hp => ?_
      rw [hb]
      simp [show p < j + 1 by omega]
    · have h2 : (2 ^ j - 1) ||| 2 ^ (n - 1) < 2 ^ n := Nat.or_lt_two_pow (by
        exact Nat.lt_of_le_of_lt (Nat.sub_le _ _) (Nat.pow_lt_pow_right (a := 2) (by omega) (show j < n by omega))) (Nat.pow_lt_pow_right (by omega) (by omega))
      have := pc_le h14 h2
      omega
theorem some_play (hnd : ∀ v, v < n → need v < 2 ^ v) (hn : 1 ≤ n) (h14 : n ≤ 14) : ∃ m, Rch (Ed n need (n : Int) rev) m (2 ^ (n - 1)) := by
  obtain ⟨m, hm⟩ := down_rch rev hnd hn h14 (n - 1) 0 (by omega)
  refine ⟨m, ?_⟩
  have : (2 ^ 0 - 1) ||| 2 ^ (n - 1) = 2 ^ (n - 1) := by simp
  rw [this] at hm
  exact hm
def Can (n : Nat) (need : Nat → Nat) (rev : Bool) (k : Int) : Prop := ∃ m, Rch (Ed n need k rev) m (2 ^ (n - 1))
theorem Can.mono {k k' : Int} (h : k ≤ k') (hc : Can n need rev k) : Can n need rev k' := by
  obtain ⟨m, hm⟩ := hc
  exact ⟨m, rmono (fun s t ⟨v, hv, ht, ha, hk⟩ => ⟨v, hv, ht, ha, by omega⟩) hm⟩
theorem can_pos {k : Int} (h14 : n ≤ 14) (hnd : ∀ v, v < n → need v < 2 ^ v) (hn : 1 ≤ n) (hc : Can n need rev k) : 1 ≤ k := by
  obtain ⟨m, hm⟩ := hc
  match m, hm with
  | 0, hm =>
    have h0 : 2 ^ (n - 1) = 0 := hm
    have := Nat.two_pow_pos (n - 1)
    have : 2 ^ (n - 1) = 2 ^ (n - 1) := rfl
    omega
  | m + 1, ⟨s, hs, ⟨v, hv, ht, ha, hk⟩⟩ =>
    have : pc (2 ^ (n - 1)) = 1 := by
      have h1 := pcF_set 14 (n - 1) 0 (by omega) (by simp)
      rw [Nat.zero_xor, pcF_zero] at h1
      exact h1
    omega
theorem least_is (hnd : ∀ v, v < n → need v < 2 ^ v) (hn : 1 ≤ n) (h14 : n ≤ 14) : ∃ c : Nat, 1 ≤ c ∧ c ≤ n ∧ Can n need rev (c : Int) ∧ ∀ k : Int, Can n need rev k ↔ (c : Int) ≤ k := by
  have hex : ∃ c : Nat, Can n need rev (c : Int) := ⟨n, some_play rev hnd hn h14⟩
  have : ∃ c : Nat, Can n need rev (c : Int) ∧ ∀ j : Nat, j < c → ¬ Can n need rev (j : Int) := by
    apply Classical.byContradiction
    intro hn
    have : ∀ c : Nat, ¬ Can n need rev (c : Int) := fun c => by
      induction c using Nat.strongRecOn with
      | _ c ih => exact fun h => hn ⟨c, h, fun j hj => ih j hj⟩
    obtain ⟨c, hc⟩ := hex
    exact this c hc
  obtain ⟨c, h1, h2⟩ := this
  have hp := can_pos rev h14 hnd hn h1
  refine ⟨c, by omega, ?_, h1, fun k => ⟨fun h => ?_, fun h => h1.mono rev h⟩⟩
  · apply Classical.byContradiction
    intro hc
    exact h2 n (by omega) (some_play rev hnd hn h14)
  · apply Classical.byContradiction
    intro hc
    have hk := can_pos rev h14 hnd hn h
    obtain ⟨j, rfl⟩ : ∃ j : Nat, k = j := ⟨k.toNat, by omega⟩
    exact h2 j (by omega) h

end
end Go.Proofs.Ytihpdmchppcbfaa
