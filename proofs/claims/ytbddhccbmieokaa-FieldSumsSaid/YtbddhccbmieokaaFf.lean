/- The residues modulo a prime and the polynomials modulo an irreducible one are finite fields. No program here. -/
import Derived.Test.YtbddhccbmieokaaFe
namespace FieldMath
set_option linter.unusedVariables false

theorem ff_prime {P : Nat} (hp : Prm P) : FF P (fun a b => (a + b) % P) (fun a b => a * b % P) (fun a => (P - a) % P) := by
  have h2 := hp.1
  have hm : ∀ a, a % P < P := fun a => Nat.mod_lt a (by omega)
  refine ⟨h2, fun _ _ => hm _, fun _ _ => hm _, fun _ => hm _, fun _ _ => by rw [Nat.add_comm], fun _ _ _ => ?_, fun h => by simpa using Nat.mod_eq_of_lt h, fun {a} h => ?_, fun _ _ => by rw [Nat.mul_comm], fun _ _ _ => ?_,
    fun h => by simpa using Nat.mod_eq_of_lt h, fun _ => by simp, fun _ _ _ => ?_, fun {a b} ha hb h => ?_⟩
  · show ((_ + _) % P + _) % P = (_ + (_ + _) % P) % P
    rw [Nat.mod_add_mod, Nat.add_mod_mod, Nat.add_assoc]
  · show (a + (P - a) % P) % P = 0
    rw [Nat.add_mod_mod, show a + (P - a) = P by omega, Nat.mod_self]
  · show (_ * _ % P) * _ % P = _ * (_ * _ % P) % P
    rw [Nat.mod_mul_mod, Nat.mul_mod_mod, Nat.mul_assoc]
  · show _ * ((_ + _) % P) % P = (_ * _ % P + _ * _ % P) % P
    rw [Nat.mul_mod_mod, Nat.mul_add, ← Nat.add_mod]
  · rcases hp.dvd_mul (Nat.dvd_of_mod_eq_zero h) with h1 | h1
    · left; exact Nat.eq_zero_of_dvd_of_lt h1 ha
    · right; exact Nat.eq_zero_of_dvd_of_lt h1 hb

/-! ### polynomials -/
theorem Cg.zero_iff {k a : Nat} : Cg k a 0 ↔ ∃ q, a = cl q k := by unfold Cg; simp
/-- a proper divisor of an irreducible polynomial is 1 -/
theorem irr_div {m k z u : Nat} (hk : k / 2 ^ m = 1) (hi : IrrAt m k) (h : k = cl z u) (hz : z < 2 ^ m) : z = 1 := by
  have ht := top_sz hk
  have hp : 0 < 2 ^ m := Nat.two_pow_pos m
  have hkp : 0 < k := by omega
  have hz0 : 0 < z := by
    rcases Nat.eq_zero_or_pos z with h0 | h0
    · subst h0; rw [zero_cl] at h; omega
    · exact h0
  have hu0 : 0 < u := by
    rcases Nat.eq_zero_or_pos u with h0 | h0
    · subst h0; rw [cl_zero] at h; omega
    · exact h0
  have hsk : sz k = m + 1 := sz_eq ht.1 ht.2
  have hs := cl_sz hz0 hu0
  rw [← h, hsk] at hs
  have hs1 := sz_pos hz0
  have hs2 := sz_pos hu0
  have hs3 := sz_lt hz
  -- whoever divides k has the rest 0
  have hr : ∀ b c, 0 < b → k = cl c b → rst k b = 0 := fun b c hb e => by
    have h1 := rst_lt hb _ k rfl
    have h2 := rst_cg b _ k rfl
    refine Cg.eq (n := sz b - 1) (sz_le hb) (h2.trans ?_) h1 (Nat.two_pow_pos _)
    exact Cg.zero_iff.2 ⟨c, e⟩
  rcases Nat.lt_or_ge z 2 with hl | hl
  · omega
  · exfalso
    rcases Nat.lt_or_ge u 2 with hl2 | hl2
    · have : u = 1 := by omega
      subst this
      rw [cl_one] at h
      omega
    · have hz2 : 2 ≤ sz z := by
        have := lt_sz z
        rcases Nat.lt_or_ge (sz z) 2 with h3 | h3
        · have : 2 ^ sz z ≤ 2 ^ 1 := Nat.pow_le_pow_right (by omega) (by omega)
          omega
        · exact h3
      have hu2 : 2 ≤ sz u := by
        have := lt_sz u
        rcases Nat.lt_or_ge (sz u) 2 with h3 | h3
        · have : 2 ^ sz u ≤ 2 ^ 1 := Nat.pow_le_pow_right (by omega) (by omega)
          omega
        · exact h3
      rcases Nat.le_total (sz z) (sz u) with h3 | h3
      · refine hi z ?_ hl (hr z u hz0 (by rw [h, cl_comm]))
        exact Nat.lt_of_lt_of_le (lt_sz z) (Nat.pow_le_pow_right (by omega) (by omega))
      · refine hi u ?_ hl2 (hr u z hu0 h)
        exact Nat.lt_of_lt_of_le (lt_sz u) (Nat.pow_le_pow_right (by omega) (by omega))
/-- Euclid's lemma for an irreducible polynomial -/
theorem irr_mul {m k y : Nat} (hk : k / 2 ^ m = 1) (hi : IrrAt m k) (hy : y < 2 ^ m) (hy0 : y ≠ 0) (z : Nat) : z < 2 ^ m → z ≠ 0 → ¬ Cg k (cl z y) 0 := by
  have ht := top_sz hk
  induction z using Nat.strongRecOn with
  | ind z ih =>
    intro hz hz0 h
    have hzp : 0 < z := by omega
    -- the rest of k by z lies in the ideal, too
    have h1 := rst_lt hzp _ k rfl
    have h2 := rst_cg z _ k rfl
    have hlt : rst k z < z := Nat.lt_of_lt_of_le h1 (sz_le hzp)
    have h3 : Cg k (cl (rst k z) y) 0 := by
      obtain ⟨u, hu⟩ := h2
      -- rst k z = k xor u z
      have e : rst k z = k ^^^ cl u z := by rw [← hu, Nat.xor_comm (rst k z), ← Nat.xor_assoc, Nat.xor_self, Nat.zero_xor]
      rw [e, xor_cl, cl_assoc]
      have h4 : Cg k (cl u (cl z y)) (cl u 0) := h.cl_right u
      rw [cl_zero] at h4
      have h5 : Cg k (cl k y) 0 := Cg.zero_iff.2 ⟨y, cl_comm k y⟩
      have := h5.xor h4
      simpa using this
    by_cases hr : rst k z = 0
    · -- z divides k
      have h4 : Cg z 0 k := hr ▸ h2
      obtain ⟨u, hu⟩ := h4
      rw [Nat.zero_xor] at hu
      have h5 := irr_div hk hi (show k = cl z u by rw [hu, cl_comm]) hz
      subst h5
      rw [one_cl] at h
      exact hy0 (Cg.eq ht.1 h hy (Nat.two_pow_pos m))
    · exact ih _ hlt (by omega) hr h3

theorem pmul_spec {m k a b : Nat} : Cg k (pmul m k a b 0) (cl a b) := by
  have := pmul_cg m k b a 0
  rwa [Nat.zero_xor] at this
theorem ff_poly {m k : Nat} (hm : 1 ≤ m) (hk : k / 2 ^ m = 1) (hi : IrrAt m k) : FF (2 ^ m) (fun a b => a ^^^ b) (fun a b => pmul m k a b 0) (fun a => a) := by
  have ht := top_sz hk
  have hp : 0 < 2 ^ m := Nat.two_pow_pos m
  have hc : ∀ {a b}, a < 2 ^ m → b < 2 ^ m → pmul m k a b 0 < 2 ^ m := fun {a b} ha _ => pmul_bd m k hk b a 0 ha hp
  have h2 : 2 ≤ 2 ^ m := by
    have : 2 ^ 1 ≤ 2 ^ m := Nat.pow_le_pow_right (by omega) hm
    omega
  have eq : ∀ {a b}, a < 2 ^ m → b < 2 ^ m → Cg k a b → a = b := fun ha hb h => Cg.eq ht.1 h ha hb
  refine ⟨h2, fun ha hb => Nat.xor_lt_two_pow ha hb, fun ha hb => hc ha hb, fun ha => ha, fun _ _ => Nat.xor_comm _ _, fun _ _ _ => Nat.xor_assoc _ _ _, fun _ => Nat.xor_zero _, fun _ => Nat.xor_self _,
    fun {a b} ha hb => ?_, fun {a b c} ha hb hc' => ?_, fun {a} ha => ?_, fun {a} ha => ?_, fun {a b c} ha hb hc' => ?_, fun {a b} ha hb h => ?_⟩
  · refine eq (hc ha hb) (hc hb ha) (pmul_spec.trans ?_)
    rw [cl_comm]
    exact pmul_spec.symm
  · refine eq (hc (hc ha hb) hc') (hc ha (hc hb hc')) (pmul_spec.trans ((pmul_spec.cl_left c).trans ?_))
    rw [cl_assoc]
    exact ((pmul_spec.trans (pmul_spec.cl_right a)).symm)
  · refine eq (hc ha (by omega)) ha (pmul_spec.trans ?_)
    rw [cl_one]; exact Cg.refl _ _
  · refine eq (hc ha hp) hp (pmul_spec.trans ?_)
    rw [cl_zero]; exact Cg.refl _ _
  · refine eq (hc ha (Nat.xor_lt_two_pow hb hc')) (Nat.xor_lt_two_pow (hc ha hb) (hc ha hc')) (pmul_spec.trans ?_)
    rw [cl_xor]
    exact (pmul_spec.xor pmul_spec).symm
  · apply Classical.byContradiction
    intro hno
    have h1 : a ≠ 0 := fun e => hno (.inl e)
    have h3 : b ≠ 0 := fun e => hno (.inr e)
    have h4 : Cg k (pmul m k a b 0) (cl a b) := pmul_spec
    have h5 : pmul m k a b 0 = 0 := h
    rw [h5] at h4
    exact irr_mul hk hi hb h3 a ha h1 h4.symm

/-- every valid field is a field -/
theorem ff_valid {P M : Nat} (hv : vld P M = true) : FF (fq P M) (fadd P M) (fmul P M) (fneg P M) := by
  have hs := vld_spec hv
  by_cases h : M = 1
  · subst h
    have hp : Prm P := by have := hs.2.2.2.2.2; rwa [Int.toNat_natCast] at this
    have := ff_prime hp
    unfold fq fadd fmul fneg
    simpa using this
  · have := ff_poly (m := M) (k := modT M) (by omega) (modT_top (by omega) (by omega)) (modT_first (by omega) (by omega)).1
    unfold fq fadd fmul fneg
    simpa [h] using this
theorem fpow_pw {P M a : Nat} (hv : vld P M = true) (ha : a < fq P M) (k : Nat) : fpow P M a k = pw (fmul P M) a k := by
  have F := ff_valid hv
  unfold fpow
  rw [F.powL_pw k 1 a F.one ha, F.one_mul (F.pwC ha k)]

end FieldMath
