/- Plain mathematics: a complete reversible play is a complete black play; a complete play shows what the least number of pebbles is at most. -/
import Derived.Test.YtihpdmchppcbfaaTr
namespace Go.Proofs.Ytihpdmchppcbfaa
set_option linter.unusedVariables false
set_option linter.unusedSimpArgs false

theorem AL.black {L : Nat → Nat} {Z : Nat → Nat → Int} {f : Nat → Bool} {m : Bool × Int} (h : AL L Z f m true) : AL L Z f m false := ⟨h.1, fun _ => h.2 (.inr rfl)⟩
theorem run_black {L : Nat → Nat} {Z : Nat → Nat → Int} : ∀ ms f now most r, run L Z true ms f now most = some r → run L Z false ms f now most = some r
  | [], f, now, most, r, h => h
  | m :: ms, f, now, most, r, h => by
    rw [run] at h ⊢
    by_cases ha : AL L Z f m true
    · rw [if_pos ha] at h
      rw [if_pos ha.black]
      exact run_black ms _ _ _ r h
    · rw [if_neg ha] at h
      cases h
theorem CNT_ok {n : Nat} {L : Nat → Nat} {Z : Nat → Nat → Int} {rev : Bool} {ms : List (Bool × Int)} {N : Int} (h : CNT n L Z rev ms = (N, 0)) : okDag n L Z ∧ MV n ms ∧ ∃ f, run L Z rev ms (fun _ => false) 0 0 = some (f, N) ∧ ∀ u, u < n → f u = decide (u = n - 1) := by
  unfold CNT at h
  by_cases hr : okDag n L Z
  · rw [if_pos hr] at h
    by_cases hm : MV n ms
    · rw [if_pos hm] at h
      cases hrun : run L Z rev ms (fun _ => false) 0 0 with
      | none => rw [hrun] at h; simp [CR] at h
      | some q =>
        obtain ⟨f, mo⟩ := q
        rw [hrun] at h
        by_cases hf : ∀ u, u < n → f u = decide (u = n - 1)
        · have hc : CR n (some (f, mo)) = (mo, true) := by rw [CR, if_pos hf]
          simp only [hc] at h
          simp at h
          exact ⟨hr, hm, f, by rw [h], hf⟩
        · have hc : CR n (some (f, mo)) = (0, false) := by rw [CR, if_neg hf]
          simp only [hc] at h
          simp at h
    · rw [if_neg hm] at h; simp at h
  · rw [if_neg hr] at h; simp at h
theorem CNT_of {n : Nat} {L : Nat → Nat} {Z : Nat → Nat → Int} {rev : Bool} {ms : List (Bool × Int)} {N : Int} {f : Nat → Bool} (hr : okDag n L Z) (hm : MV n ms) (h : run L Z rev ms (fun _ => false) 0 0 = some (f, N)) (hf : ∀ u, u < n → f u = decide (u = n - 1)) : CNT n L Z rev ms = (N, 0) := by
  unfold CNT
  have hc : CR n (some (f, N)) = (N, true) := by rw [CR, if_pos hf]
  rw [if_pos hr, if_pos hm, h]
  simp only [hc]
  simp
theorem CNT_black {n : Nat} {L : Nat → Nat} {Z : Nat → Nat → Int} {ms : List (Bool × Int)} {N : Int} (h : CNT n L Z true ms = (N, 0)) : CNT n L Z false ms = (N, 0) := by
  obtain ⟨hr, hm, f, h1, h2⟩ := CNT_ok h
  exact CNT_of hr hm (run_black _ _ _ _ _ h1) h2
theorem run_most {L : Nat → Nat} {Z : Nat → Nat → Int} {rev : Bool} : ∀ ms f now most f' mo, run L Z rev ms f now most = some (f', mo) → most ≤ mo
  | [], f, now, most, f', mo, h => by
    simp only [run, Option.some.injEq, Prod.mk.injEq] at h
    omega
  | m :: ms, f, now, most, f', mo, h => by
    rw [run] at h
    split at h
    · have := run_most ms _ _ _ f' mo h
      omega
    · cases h
theorem pc_step {s v : Nat} {p : Bool} (hv : v < 14) (h : s.testBit v = !p) : (pc (s ^^^ 2 ^ v) : Int) = step1 (p, (v : Int)) (pc s : Int) := by
  cases p with
  | true =>
    have := pcF_set 14 v s (by omega) (by simpa using h)
    simp only [step1, if_true]
    unfold pc
    omega
  | false =>
    have := pcF_set 14 v (s ^^^ 2 ^ v) (by omega) (by rw [xor_bit]; simp [h])
    rw [xor_back] at this
    simp only [step1, Bool.false_eq_true, if_false]
    unfold pc
    omega
theorem run_rch {n : Nat} {L : Nat → Nat} {Z : Nat → Nat → Int} (hr : okDag n L Z) (h14 : n ≤ 14) {rev : Bool} : ∀ ms f s now most f' mo, (∀ u, u < n → f u = s.testBit u) → s < 2 ^ n → now = (pc s : Int) → (∀ i, i < ms.length → okM n (ms.getD i dm)) → run L Z rev ms f now most = some (f', mo) →
    ∀ m, Rch (Ed n (nds L Z) mo rev) m s → ∃ m' s', Rch (Ed n (nds L Z) mo rev) m' s' ∧ (∀ u, u < n → f' u = s'.testBit u) ∧ s' < 2 ^ n
  | [], f, s, now, most, f', mo, hf, hs, hnow, hok, h, m, hm => by
    simp only [run, Option.some.injEq, Prod.mk.injEq] at h
    obtain ⟨rfl, rfl⟩ := h
    exact ⟨m, s, hm, hf, hs⟩
  | a :: ms, f, s, now, most, f', mo, hf, hs, hnow, hok, h, m, hm => by
    rw [run] at h
    have ha0 : okM n a := hok 0 (by simp)
    split at h
    · rename_i hal
      obtain ⟨p, z⟩ := a
      obtain ⟨v, rfl⟩ : ∃ v : Nat, z = v := ⟨z.toNat, by have := ha0.1; simp only at this; omega⟩
      have hv : v < n := by have := ha0.2; simp only at this; omega
      have h1 := hal.1
      simp only [Int.toNat_natCast] at h1
      rw [hf v hv] at h1
      have hb : s.testBit v = !p := by cases p <;> cases hq : s.testBit v <;> simp_all
      have hst := pc_step (s := s) (v := v) (p := p) (by omega) hb
      have hup : ∀ u, u < n → upd f (p, (v : Int)) u = (s ^^^ 2 ^ v).testBit u := fun u hu => by
        simp only [upd, Int.toNat_natCast, xor_bit]
        by_cases e : u = v
        · simp [e, hb]
        · simp [e, hf u hu]
      have hE : Ed n (nds L Z) mo rev s (s ^^^ 2 ^ v) := by
        refine ⟨v, hv, rfl, fun hc => ?_, ?_⟩
        · refine (nd_and s (L v)).2 fun j hj => ?_
          have hk := hr.2.2 v hv j hj
          have h2 := hal.2 (by
            rcases hc with hc | hc
            · have := (lt_xor_iff s v).1 hc
              rw [this] at hb
              exact .inl (by simpa using hb.symm)
            · exact .inr hc) j (by simpa using hj)
          simp only [Int.toNat_natCast] at h2
          rw [hf _ (by have := hk.1; have := hk.2.1; omega)] at h2
          exact h2
        · have := run_most _ _ _ _ _ _ h
          rw [hst, ← hnow]
          omega
      exact run_rch hr h14 ms _ (s ^^^ 2 ^ v) _ _ f' mo hup (xor_lt hs hv) (by rw [hst, hnow]) (fun i hi => hok (i + 1) (by simpa using hi)) h (m + 1) ⟨s, hm, hE⟩
    · cases h
theorem CNT_can {n : Nat} {L : Nat → Nat} {Z : Nat → Nat → Int} {rev : Bool} {ms : List (Bool × Int)} {N : Int} (h14 : n ≤ 14) (h : CNT n L Z rev ms = (N, 0)) : Can n (nds L Z) rev N := by
  obtain ⟨hr, hm, f, h1, h2⟩ := CNT_ok h
  obtain ⟨m, s, h3, h4, h5⟩ := run_rch hr h14 ms _ 0 0 0 f N (fun u _ => by simp) (Nat.two_pow_pos n) rfl hm.2 h1 0 rfl
  have hs : s = 2 ^ (n - 1) := by
    apply Nat.eq_of_testBit_eq
    intro i
    rw [Nat.testBit_two_pow]
    rcases Nat.lt_or_ge i n with hi | hi
    · rw [← h4 i hi, h2 i hi]
      congr 1
      apply propext
      omega
    · rw [Nat.testBit_lt_two_pow (Nat.lt_of_lt_of_le h5 (Nat.pow_le_pow_right (by omega) hi))]
      have := hr.1
      symm
      exact decide_eq_false (by omega)
  rw [hs] at h3
  exact ⟨m, h3⟩
theorem Can.black {n : Nat} {need : Nat → Nat} {k : Int} (h : Can n need true k) : Can n need false k := by
  obtain ⟨m, hm⟩ := h
  exact ⟨m, rmono (fun s t ⟨v, hv, ht, ha, hk⟩ => ⟨v, hv, ht, fun _ => ha (.inr rfl), hk⟩) hm⟩
theorem IsLeast.black {n : Nat} {need : Nat → Nat} {a b : Nat} (ha : IsLeast n need true a) (hb : IsLeast n need false b) : b ≤ a := by
  have := (hb.2.2 a).1 ((ha.2.2 a).2 (Int.le_refl _)).black
  omega
end Go.Proofs.Ytihpdmchppcbfaa
