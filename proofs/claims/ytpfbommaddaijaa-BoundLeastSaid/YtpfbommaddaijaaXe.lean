/- Plain: the costs of the law; Equal, Same on zero trees; small costs; The law BoundLeast: what is no table of at most three inputs; Plain: the least costs as numbers; The law BoundLeast on a table of at most three inputs: the contracts; The law BoundLeast on a table of at most three inputs: the walk; The law BoundLeast. -/
import Derived.Test.YtpfbommaddaijaaXd
import Derived.Test.YtpfbommaddaijaaXa
import Derived.Test.YtpfbommaddaijaaPEqualx1
import Derived.Test.YtpfbommaddaijaaPSamex1
import Derived.Test.YtpfbommaddaijaaXb
import Derived.Test.YtpfbommaddaijaaKc
namespace Go.Proofs.Ytpfbommaddaijaa
set_option linter.unusedVariables false
set_option linter.unusedSimpArgs false

theorem tn_testBit (f : Nat → Bool) : ∀ (N u : Nat), (tn f N).testBit u = (decide (u < N) && f u)
  | 0, u => by simp [tn]
  | N + 1, u => by
    rw [tn, Nat.testBit_or, tn_testBit f N u]
    by_cases hf : f N = true
    · rw [if_pos hf, Nat.testBit_two_pow]
      by_cases h : u = N
      · subst h; simp [hf]
      · have h1 : ¬ N = u := fun e => h e.symm
        have h2 : (u < N) ↔ (u < N + 1) := by omega
        simp [h1, h2]
    · rw [if_neg hf]
      by_cases h : u = N
      · subst h; simp [hf]
      · have h2 : (u < N) ↔ (u < N + 1) := by omega
        simp [h2]
theorem tn_not (f : Nat → Bool) {N M : Nat} (hM : M + 1 = 2 ^ N) : tn (fun i => !f i) N = M - tn f N := by
  apply Nat.eq_of_testBit_eq
  intro u
  have hlt := tn_lt f N
  rw [tn_testBit]
  have e : M - tn f N = 2 ^ N - (tn f N + 1) := by omega
  rw [e, Nat.testBit_two_pow_sub_succ hlt, tn_testBit]
  by_cases h : u < N <;> simp [h]
/-- with more ways nothing gets dearer -/
theorem der_xor {n M : Nat} {leaf : Int} {J : Int → Int → Int} {f : Nat} {c : Int} (h : Der n M leaf false J f c) : Der n M leaf true J f c := by
  induction h with
  | leaf hl => exact .leaf hl
  | neg hf _ ih => exact .neg hf ih
  | and hx hy _ _ i1 i2 => exact .and hx hy i1 i2
  | xor h => cases h
/-- a formula of depth d has at most 2^d leaves -/
theorem der_depth {n M : Nat} {f : Nat} {d : Int} (h : Der n M 0 false Jm f d) : 0 ≤ d ∧ ∃ c, Der n M 1 false Js f c ∧ c ≤ ((2 ^ d.toNat : Nat) : Int) := by
  induction h with
  | leaf hl => exact ⟨Int.le_refl _, 1, .leaf hl, by decide⟩
  | neg hf _ ih => obtain ⟨h0, c, h1, h2⟩ := ih; exact ⟨h0, c, .neg hf h1, h2⟩
  | @and x y a b hx hy _ _ i1 i2 =>
    obtain ⟨a0, c, h1, h2⟩ := i1
    obtain ⟨b0, c', h1', h2'⟩ := i2
    have e : Jm a b = 1 + max a b := rfl
    refine ⟨by rw [e]; omega, Js c c', .and hx hy h1 h1', ?_⟩
    have e2 : (Jm a b).toNat = (max a b).toNat + 1 := by rw [e]; omega
    have p1 : 2 ^ a.toNat ≤ 2 ^ (max a b).toNat := Nat.pow_le_pow_right (by decide) (by omega)
    have p2 : 2 ^ b.toNat ≤ 2 ^ (max a b).toNat := Nat.pow_le_pow_right (by decide) (by omega)
    rw [e2, Nat.pow_succ]
    show c + c' ≤ _
    omega
  | xor h => cases h
section
variable {n M : Nat} {E E' : Nat → Ent}
/-- the least sizes of a function and of its negation agree -/
theorem size_not (hn : n ≤ 3) (hM : M + 1 = 2 ^ 2 ^ n) (hi : Inv n M 1 false Js E) (hc : Clo n M 1 false Js E) (hi' : Inv n M 1 false Js E') (hc' : Clo n M 1 false Js E') {f : Nat} (hf : f ≤ M) : cs E' (M - f) = cs E f := by
  obtain ⟨_, d1, m1⟩ := least_is hn hM join_sum js_ok (by decide) (by decide) hi hc hf
  obtain ⟨_, d2, m2⟩ := least_is hn hM join_sum js_ok (by decide) (by decide) hi' hc' (f := M - f) (by omega)
  have h1 := m2 _ (.neg hf d1)
  have h2 := Der.neg (f := M - f) (by omega) d2
  rw [show M - (M - f) = f by omega] at h2
  have := m1 _ h2
  omega
/-- what one search finds another one finds -/
theorem size_same (hn : n ≤ 3) (hM : M + 1 = 2 ^ 2 ^ n) (hi : Inv n M 1 false Js E) (hc : Clo n M 1 false Js E) (hi' : Inv n M 1 false Js E') (hc' : Clo n M 1 false Js E') {f : Nat} (hf : f ≤ M) : cs E' f = cs E f := by
  obtain ⟨_, d1, m1⟩ := least_is hn hM join_sum js_ok (by decide) (by decide) hi hc hf
  obtain ⟨_, d2, m2⟩ := least_is hn hM join_sum js_ok (by decide) (by decide) hi' hc' hf
  have h1 := m2 _ d1
  have h2 := m1 _ d2
  omega
theorem bin_le (hn : n ≤ 3) (hM : M + 1 = 2 ^ 2 ^ n) (hi : Inv n M 1 false Js E) (hc : Clo n M 1 false Js E) (hi' : Inv n M 1 true Js E') (hc' : Clo n M 1 true Js E') {f : Nat} (hf : f ≤ M) : cs E' f ≤ cs E f := by
  obtain ⟨_, d1, m1⟩ := least_is hn hM join_sum js_ok (by decide) (by decide) hi hc hf
  obtain ⟨_, d2, m2⟩ := least_is hn hM join_sum js_ok (by decide) (by decide) hi' hc' hf
  exact m2 _ (der_xor d1)
theorem size_le (hn : n ≤ 3) (hM : M + 1 = 2 ^ 2 ^ n) (hi : Inv n M 1 false Js E) (hc : Clo n M 1 false Js E) (hi' : Inv n M 0 false Jm E') (hc' : Clo n M 0 false Jm E') {f : Nat} (hf : f ≤ M) : 0 ≤ cs E' f ∧ cs E f ≤ ((2 ^ (cs E' f).toNat : Nat) : Int) := by
  obtain ⟨_, d1, m1⟩ := least_is hn hM join_sum js_ok (by decide) (by decide) hi hc hf
  obtain ⟨_, d2, m2⟩ := least_is hn hM join_max jm_ok (by decide) (by decide) hi' hc' hf
  obtain ⟨h0, c, h1, h2⟩ := der_depth d2
  exact ⟨h0, Int.le_trans (m1 _ h1) h2⟩
end
end Go.Proofs.Ytpfbommaddaijaa
namespace Go.Proofs.Ytpfbommaddaijaa
open Go.RowKit Go.Proofs.YtpfbommaddaijaaW.PrintWords Go.Proofs.YtpfbommaddaijaaW.PrintLast Go.Proofs.YtpfbommaddaijaaW.PrintMore
set_option linter.unusedVariables false
set_option linter.unusedSimpArgs false

theorem eq_l0 (l : List Bool) (hl : l.length ≤ 1000000) : ∀ (m i : Nat), l.length ≤ i + m → i ≤ l.length → ∃ k, PEqual.commodatumref09_Equal.l0 k l l (i : Int) = some true
  | 0, i, h, h2 => ⟨1, by simp only [PEqual.commodatumref09_Equal.l0]; rw [if_neg (by omega)]⟩
  | m + 1, i, h, h2 => by
    by_cases hi : i < l.length
    · obtain ⟨k, hk⟩ := eq_l0 l hl m (i + 1) (by omega) (by omega)
      refine ⟨k + 1, ?_⟩
      simp only [PEqual.commodatumref09_Equal.l0]
      rw [if_pos (by omega), if_pos (by omega), if_pos (by omega), if_neg (by simp)]
      have e : wrap64 ((i : Int) + 1) = ((i + 1 : Nat) : Int) := by unfold wrap64; omega
      rw [e]
      exact hk
    · exact ⟨1, by simp only [PEqual.commodatumref09_Equal.l0]; rw [if_neg (by omega)]⟩
theorem equal_any {w : World} {A A' : Option Addr} {n c c' : Nat} {f : Nat → Bool} (h : Bs w (.slice A n c) n f) (h' : Bs w (.slice A' n c') n f) (hn : n ≤ 1000000) :
    Calls Try.prog 34 #[.slice A n c, .slice A' n c'] w fun e w' => e = .returned (.bool true) ∧ Drawn0 w w' := by
  obtain ⟨k, hk⟩ := eq_l0 ((List.range n).map f) (by simp; exact hn) n 0 (by simp) (by omega)
  have hf : PEqual.commodatumref12_Equal.f k ((List.range n).map f) ((List.range n).map f) = some true := by
    unfold PEqual.commodatumref12_Equal.f PEqual.commodatumref09_Equal.f
    rw [if_pos rfl]
    have hk0 : PEqual.commodatumref09_Equal.l0 k ((List.range n).map f) ((List.range n).map f) 0 = some true := hk
    rw [hk0]; rfl
  have hl : ((List.range n).map f).length = n := by simp
  have hc : n ≤ c := by obtain ⟨_, _, e, h2, _⟩ := h.ex; cases e; exact h2
  have hc' : n ≤ c' := by obtain ⟨_, _, e, h2, _⟩ := h'.ex; cases e; exact h2
  have hh := PEqual.commodatumref12_Equal.calls k A c _ A' c' _ true w h.C (by rw [hl]; exact hc) h'.C (by rw [hl]; exact hc') hf
  rw [hl] at hh
  exact hh
theorem same_zero {w : World} : Calls Try.prog 30 #[.agg #[I 0, I 0, .slice none 0 0], .agg #[I 0, I 0, .slice none 0 0]] w fun e w' => e = .returned (.bool true) ∧ Below w.heap.size w w' := by
  have hC : Kd.C PSame.k24 w none ([] : List PSame.S24).length [] := ⟨rfl, by simp, fun h => absurd h (by simp)⟩
  exact PSame.commodatumref05_Same.calls 3 0 0 none 0 [] 0 0 none 0 [] true w hC (Nat.le_refl _) hC (Nat.le_refl _) (by simp [PSame.commodatumref05_Same.f, PSame.commodatumref05_Same.j0, PSame.commodatumref05_Same.l0])
/-- the least sizes are small -/
theorem size_31 {n M : Nat} {E : Nat → Ent} (hn : n ≤ 3) (hM : M + 1 = 2 ^ 2 ^ n) (hi : Inv n M 1 false Js E) (hc : Clo n M 1 false Js E) {f : Nat} (hf : f ≤ M) : cs E f ≤ 31 := by
  have hLS : ∀ l, LS n l → l ≤ M := fun l h => by have := LS_lt hn h; omega
  have e : M = 2 ^ 2 ^ n - 1 := by omega
  have hfull := all_full ⟨n, by omega⟩
  simp only at hfull
  rw [← e] at hfull
  have hb : (lvls M (Wn n) (lv0 n M n)).testBit f = true := by
    rw [hfull, ← hM, Nat.testBit_two_pow_sub_one]
    simp
    omega
  obtain ⟨c, d, c0, c1⟩ := lvls_ok (leaf := 1) (xor := false) (J := Js) js_ok (Wn n) _ 1 (by decide) (lv0_ok hLS (by decide) n (Nat.le_refl _)) f hb hf
  have hp : (1 + 1 : Int) * 2 ^ (Wn n).length - 1 ≤ 31 := by
    have : ∀ m : Fin 4, (1 + 1 : Int) * 2 ^ (Wn m.val).length - 1 ≤ 31 := by decide +kernel
    exact this ⟨n, by omega⟩
  have := (least_is hn hM join_sum js_ok (by decide) (by decide) hi hc hf).2.2 _ d
  omega
theorem nest_le : ∀ t : Fx, t.nest ≤ t.nodes
  | .leaf _ _ => Nat.le_refl _
  | .not a => by have := nest_le a; simp only [Fx.nest, Fx.nodes]; omega
  | .bin _ a b => by have := nest_le a; have := nest_le b; simp only [Fx.nest, Fx.nodes]; omega
end Go.Proofs.Ytpfbommaddaijaa
namespace Go.Proofs.Ytpfbommaddaijaa
open Go.RowKit
set_option linter.unusedVariables false
set_option linter.unusedSimpArgs false

set_option maxHeartbeats 1000000 in
set_option maxRecDepth 100000 in
theorem lst_out {w : World} {ta : Option Addr} {tc len : Nat} (h : 5000 < len) : Calls Try.prog 5 #[.slice ta len tc] w fun e w' => e = .returned (.bool true) ∧ Below w.heap.size w w' := by
  have HAW := Lib.hid awake_any
  have d1 : decide ((5000 : Int) < len) = true := decide_eq_true (by omega)
  go_enter Try.func5, Try.ntmps5
  go_wp2_with (go_at_call 21; refine (HAW.out _).mono ?_; rintro e w1 ⟨rfl, hb⟩; have HB := Lib.hid hb; clear hb)
  go_ret
  exact ⟨rfl, HB.out⟩
set_option maxHeartbeats 2000000 in
set_option maxRecDepth 100000 in
theorem lst_form {w : World} {ta : Option Addr} {tc len : Nat} {f : Nat → Bool} (ht : Bs w (.slice ta len tc) len f) (n1 : ta = none → tc = 0) (hlen : len ≤ 5000) {n : Int} (h : Inp len n false) : Calls Try.prog 5 #[.slice ta len tc] w fun e w' => e = .returned (.bool true) ∧ Below w.heap.size w w' := by
  have HAW := Lib.hid awake_any
  have HRI := Lib.hid (fun w : World => refInputs_any (w := w) (a := ta) (cap := tc) (by omega) h)
  have HLS := Lib.hid (fun (w : World) (a' : Option Addr) (c' : Nat) => leastSize_bad (w := w) (a := a') (len := len) (cap := c') (by omega) h)
  have HLD := Lib.hid (fun (w : World) (a' : Option Addr) (c' : Nat) => leastDepth_bad (w := w) (a := a') (len := len) (cap := c') (by omega) h)
  have HLF := Lib.hid (fun (w : World) (a' : Option Addr) (c' : Nat) => leastFormula_bad (w := w) (a := a') (len := len) (cap := c') (by omega) h)
  have HBI := Lib.hid (fun (w : World) (a' : Option Addr) (c' : Nat) => binary_bad (w := w) (a := a') (len := len) (cap := c') (by omega) h)
  have HSZ := Lib.hid (fun w : World => same_zero (w := w))
  have HC1 := Lib.hid (fun (W : World) (hW : Below w.heap.size w W) => bools_any (ht.keep hW) n1 (by omega))
  have HB0 := Lib.hid (Below.refl w.heap.size w)
  have d1 : decide ((5000 : Int) < len) = false := decide_eq_false (by omega)
  simp only [Bool.false_eq_true, if_false] at HRI
  clear ht h
  go_enter Try.func5, Try.ntmps5
  go_wp2_with (first
    | (go_at_call 17; refine (HRI.out _).mono ?_; rintro e w' ⟨rfl, rfl⟩)
    | (go_at_call 27; refine (HLS.out _ _ _).mono ?_; rintro e w2 ⟨rfl, hb⟩; have B2 := Lib.hid (B1.out.trans (hb.mono B1.out.size)); clear hb)
    | (go_at_call 22; refine (HLD.out _ _ _).mono ?_; rintro e w4 ⟨rfl, hb⟩; have B4 := Lib.hid (B3.out.trans (hb.mono B3.out.size)); clear hb)
    | (go_at_call 28; refine (HLF.out _ _ _).mono ?_; rintro e w6 ⟨rfl, hb⟩; have B6 := Lib.hid (B5.out.trans (hb.mono B5.out.size)); have B6' := Lib.hid (B6.out.alloc B6.out.size (.cells #[I 0, I 0, .slice none 0 0] 24)); clear hb)
    | (go_at_call 29; refine (HBI.out _ _ _).mono ?_; rintro e w8 ⟨rfl, hb⟩; have hz := (Z3.new w6 (I 0) (I 0) (.slice none 0 0)).keep b7; have hz8 := hz.keep hb; have z0 := hz8.c0; have z1 := hz8.c1; have z2 := hz8.c2; have B8 := Lib.hid (B7.out.trans (hb.mono B7.out.size)); clear hb hz hz8 b7)
    | (go_at_call 30; refine (HSZ.out _).mono ?_; rintro e w9 ⟨rfl, hb⟩; have B9 := Lib.hid (B8.out.trans (hb.mono B8.out.size)); clear hb)
    | (go_at_call 21; refine (HAW.out _).mono ?_; rintro e w10 ⟨rfl, hb⟩; have B10 := Lib.hid (B9.out.trans (hb.mono B9.out.size)); clear hb)
    | (go_at_call 23; have _t := B6; (with_reducible refine (HC1.out _ B6'.out).mono ?_); rintro e w7 ⟨v7, rfl, hv, b7⟩; obtain ⟨a7, x7, rfl⟩ := hv.shape; have B7 := Lib.hid (B6'.out.trans (b7.mono B6'.out.size)); clear hv)
    | (go_at_call 23; have _t := B4; (with_reducible refine (HC1.out _ B4.out).mono ?_); rintro e w5 ⟨v5, rfl, hv, hb⟩; obtain ⟨a5, x5, rfl⟩ := hv.shape; have B5 := Lib.hid (B4.out.trans (hb.mono B4.out.size)); clear hb hv)
    | (go_at_call 23; have _t := B2; (with_reducible refine (HC1.out _ B2.out).mono ?_); rintro e w3 ⟨v3, rfl, hv, hb⟩; obtain ⟨a3, x3, rfl⟩ := hv.shape; have B3 := Lib.hid (B2.out.trans (hb.mono B2.out.size)); clear hb hv)
    | (go_at_call 23; (with_reducible refine (HC1.out _ HB0.out).mono ?_); rintro e w1 ⟨v1, rfl, hv, hb⟩; obtain ⟨a1, x1, rfl⟩ := hv.shape; have B1 := Lib.hid hb; clear hb hv))
  go_ret
  exact ⟨rfl, B10.out⟩
set_option maxHeartbeats 2000000 in
set_option maxRecDepth 100000 in
theorem lst_size {w : World} {ta : Option Addr} {tc len : Nat} {f : Nat → Bool} (ht : Bs w (.slice ta len tc) len f) (n1 : ta = none → tc = 0) (hlen : len ≤ 5000) {n : Int} (hn : 3 < n) (h : Inp len n true) : Calls Try.prog 5 #[.slice ta len tc] w fun e w' => e = .returned (.bool true) ∧ Below w.heap.size w w' := by
  have HAW := Lib.hid awake_any
  have HRI := Lib.hid (fun w : World => refInputs_any (w := w) (a := ta) (cap := tc) (by omega) h)
  have HLS := Lib.hid (fun (w : World) (a' : Option Addr) (c' : Nat) => leastSize_big (w := w) (a := a') (len := len) (cap := c') (by omega) hn h)
  have HLD := Lib.hid (fun (w : World) (a' : Option Addr) (c' : Nat) => leastDepth_big (w := w) (a := a') (len := len) (cap := c') (by omega) hn h)
  have HLF := Lib.hid (fun (w : World) (a' : Option Addr) (c' : Nat) => leastFormula_big (w := w) (a := a') (len := len) (cap := c') (by omega) hn h)
  have HBI := Lib.hid (fun (w : World) (a' : Option Addr) (c' : Nat) => binary_big (w := w) (a := a') (len := len) (cap := c') (by omega) hn h)
  have HSZ := Lib.hid (fun w : World => same_zero (w := w))
  have HC1 := Lib.hid (fun (W : World) (hW : Below w.heap.size w W) => bools_any (ht.keep hW) n1 (by omega))
  have HB0 := Lib.hid (Below.refl w.heap.size w)
  have d1 : decide ((5000 : Int) < len) = false := decide_eq_false (by omega)
  have d2 : decide (n < 0) = false := decide_eq_false (by omega)
  have d3 : decide ((3 : Int) < n) = true := decide_eq_true (by omega)
  simp only [if_true] at HRI
  clear ht h
  go_enter Try.func5, Try.ntmps5
  go_wp2_with (first
    | (go_at_call 17; refine (HRI.out _).mono ?_; rintro e w' ⟨rfl, rfl⟩)
    | (go_at_call 27; refine (HLS.out _ _ _).mono ?_; rintro e w2 ⟨rfl, hb⟩; have B2 := Lib.hid (B1.out.trans (hb.mono B1.out.size)); clear hb)
    | (go_at_call 22; refine (HLD.out _ _ _).mono ?_; rintro e w4 ⟨rfl, hb⟩; have B4 := Lib.hid (B3.out.trans (hb.mono B3.out.size)); clear hb)
    | (go_at_call 28; refine (HLF.out _ _ _).mono ?_; rintro e w6 ⟨rfl, hb⟩; have B6 := Lib.hid (B5.out.trans (hb.mono B5.out.size)); have B6' := Lib.hid (B6.out.alloc B6.out.size (.cells #[I 0, I 0, .slice none 0 0] 24)); clear hb)
    | (go_at_call 29; refine (HBI.out _ _ _).mono ?_; rintro e w8 ⟨rfl, hb⟩; have hz := (Z3.new w6 (I 0) (I 0) (.slice none 0 0)).keep b7; have hz8 := hz.keep hb; have z0 := hz8.c0; have z1 := hz8.c1; have z2 := hz8.c2; have B8 := Lib.hid (B7.out.trans (hb.mono B7.out.size)); clear hb hz hz8 b7)
    | (go_at_call 30; refine (HSZ.out _).mono ?_; rintro e w9 ⟨rfl, hb⟩; have B9 := Lib.hid (B8.out.trans (hb.mono B8.out.size)); clear hb)
    | (go_at_call 21; refine (HAW.out _).mono ?_; rintro e w10 ⟨rfl, hb⟩; have B10 := Lib.hid (B9.out.trans (hb.mono B9.out.size)); clear hb)
    | (go_at_call 23; have _t := B6; (with_reducible refine (HC1.out _ B6'.out).mono ?_); rintro e w7 ⟨v7, rfl, hv, b7⟩; obtain ⟨a7, x7, rfl⟩ := hv.shape; have B7 := Lib.hid (B6'.out.trans (b7.mono B6'.out.size)); clear hv)
    | (go_at_call 23; have _t := B4; (with_reducible refine (HC1.out _ B4.out).mono ?_); rintro e w5 ⟨v5, rfl, hv, hb⟩; obtain ⟨a5, x5, rfl⟩ := hv.shape; have B5 := Lib.hid (B4.out.trans (hb.mono B4.out.size)); clear hb hv)
    | (go_at_call 23; have _t := B2; (with_reducible refine (HC1.out _ B2.out).mono ?_); rintro e w3 ⟨v3, rfl, hv, hb⟩; obtain ⟨a3, x3, rfl⟩ := hv.shape; have B3 := Lib.hid (B2.out.trans (hb.mono B2.out.size)); clear hb hv)
    | (go_at_call 23; (with_reducible refine (HC1.out _ HB0.out).mono ?_); rintro e w1 ⟨v1, rfl, hv, hb⟩; obtain ⟨a1, x1, rfl⟩ := hv.shape; have B1 := Lib.hid hb; clear hb hv))
  go_ret
  exact ⟨rfl, B10.out⟩
end Go.Proofs.Ytpfbommaddaijaa
namespace Go.Proofs.Ytpfbommaddaijaa
set_option linter.unusedVariables false
set_option linter.unusedSimpArgs false

theorem der_0 {n M : Nat} {leaf : Int} {xor : Bool} {J : Int → Int → Int} (hJ : ∀ a b, 0 ≤ a → 0 ≤ b → 0 ≤ J a b ∧ J a b ≤ a + b + 1) (h0 : 0 ≤ leaf) {f : Nat} {c : Int} (h : Der n M leaf xor J f c) : 0 ≤ c := by
  induction h with
  | leaf _ => exact h0
  | neg _ _ ih => exact ih
  | and _ _ _ _ i1 i2 => exact (hJ _ _ i1 i2).1
  | xor _ _ _ _ _ i1 i2 => exact (hJ _ _ i1 i2).1
/-- a least cost -/
structure Lc (n M : Nat) (leaf : Int) (xor : Bool) (J : Int → Int → Int) (f : Nat) (c : Int) : Prop where
  d : Der n M leaf xor J f c
  m : ∀ c', Der n M leaf xor J f c' → c ≤ c'
  b : c < BIG
  z : 0 ≤ c
theorem lc_up {n M : Nat} {leaf : Int} {xor : Bool} {J : Int → Int → Int} (hJ : ∀ a b, 0 ≤ a → 0 ≤ b → 0 ≤ J a b ∧ J a b ≤ a + b + 1) (h0 : 0 ≤ leaf) {f : Nat} : ∀ (k : Nat) {c : Int}, c ≤ k → c < BIG → Der n M leaf xor J f c → ∃ c', Lc n M leaf xor J f c'
  | 0, c, hk, hb, h => ⟨c, h, fun c' h' => by have := der_0 hJ h0 h'; omega, hb, der_0 hJ h0 h⟩
  | k + 1, c, hk, hb, h => by
    by_cases e : ∃ c', Der n M leaf xor J f c' ∧ c' < c
    · obtain ⟨c', h1, h2⟩ := e
      exact lc_up hJ h0 k (by omega) (Int.lt_trans h2 hb) h1
    · refine ⟨c, h, fun c' h' => ?_, hb, der_0 hJ h0 h⟩
      by_cases h3 : c ≤ c'
      · exact h3
      · exact absurd ⟨c', h', by omega⟩ e
theorem lc_ex {n M : Nat} {leaf : Int} {xor : Bool} {J : Int → Int → Int} (hn : n ≤ 3) (hM : M + 1 = 2 ^ 2 ^ n) (hJ : ∀ a b, 0 ≤ a → 0 ≤ b → 0 ≤ J a b ∧ J a b ≤ a + b + 1) (h0 : 0 ≤ leaf) (h1 : leaf ≤ 1) {f : Nat} (hf : f ≤ M) : ∃ c, Lc n M leaf xor J f c := by
  obtain ⟨c, hd, hb⟩ := der_ex (xor := xor) hn hM hJ h0 h1 hf
  exact lc_up hJ h0 c.toNat (Int.self_le_toNat _) hb hd
theorem Lc.eq {n M : Nat} {leaf : Int} {xor : Bool} {J : Int → Int → Int} {E : Nat → Ent} {f : Nat} {c : Int} (h : Lc n M leaf xor J f c) (hn : n ≤ 3) (hM : M + 1 = 2 ^ 2 ^ n) (hJ : Join J) (hJ2 : ∀ a b, 0 ≤ a → 0 ≤ b → 0 ≤ J a b ∧ J a b ≤ a + b + 1) (h0 : 0 ≤ leaf) (h1 : leaf ≤ 1) (hi : Inv n M leaf xor J E) (hc : Clo n M leaf xor J E) (hf : f ≤ M) : cs E f = c := by
  obtain ⟨_, d1, m1⟩ := least_is hn hM hJ hJ2 h0 h1 hi hc hf
  have := m1 _ h.d
  have := h.m _ d1
  omega
/-- a cost from the levels -/
theorem lc_small {n M : Nat} {leaf : Int} {J : Int → Int → Int} {f : Nat} {c : Int} (h : Lc n M leaf false J f c) (hn : n ≤ 3) (hM : M + 1 = 2 ^ 2 ^ n) (hJ : ∀ a b, 0 ≤ a → 0 ≤ b → 0 ≤ J a b ∧ J a b ≤ a + b + 1) (h0 : 0 ≤ leaf) (h1 : leaf ≤ 1) (hf : f ≤ M) : c ≤ (leaf + 1) * 16 - 1 := by
  have hLS : ∀ l, LS n l → l ≤ M := fun l h => by have := LS_lt hn h; omega
  have e : M = 2 ^ 2 ^ n - 1 := by omega
  have hfull := all_full ⟨n, by omega⟩
  simp only at hfull
  rw [← e] at hfull
  have hb : (lvls M (Wn n) (lv0 n M n)).testBit f = true := by
    rw [hfull, ← hM, Nat.testBit_two_pow_sub_one]
    simp
    omega
  obtain ⟨c', d, c0, c1⟩ := lvls_ok (leaf := leaf) (xor := false) (J := J) hJ (Wn n) _ leaf h0 (lv0_ok hLS h0 n (Nat.le_refl _)) f hb hf
  have hp : (2 : Int) ^ (Wn n).length ≤ 16 := by
    have : ∀ m : Fin 4, (2 : Int) ^ (Wn m.val).length ≤ 16 := by decide +kernel
    exact this ⟨n, by omega⟩
  have := h.m _ d
  have := Int.mul_le_mul_of_nonneg_left hp (show 0 ≤ leaf + 1 by omega)
  omega
theorem lc_bin {n M : Nat} {f : Nat} {a d : Int} (h : Lc n M 1 false Js f a) (h' : Lc n M 1 true Js f d) : d ≤ a := h'.m _ (der_xor h.d)
theorem lc_depth {n M : Nat} {f : Nat} {a b : Int} (h : Lc n M 1 false Js f a) (h' : Lc n M 0 false Jm f b) : a ≤ ((2 ^ b.toNat : Nat) : Int) := by
  obtain ⟨h0, c, h1, h2⟩ := der_depth h'.d
  exact Int.le_trans (h.m _ h1) h2
theorem lc_not {n M : Nat} {f : Nat} {a : Int} (h : Lc n M 1 false Js f a) (hf : f ≤ M) : Lc n M 1 false Js (M - f) a :=
  ⟨.neg hf h.d, fun c' h' => by
    have := Der.neg (by omega) h'
    rw [show M - (M - f) = f by omega] at this
    exact h.m _ this, h.b, h.z⟩
end Go.Proofs.Ytpfbommaddaijaa
namespace Go.Proofs.Ytpfbommaddaijaa
open Go.RowKit Go.Proofs.YtpfbommaddaijaaW.PrintWords
set_option linter.unusedVariables false
set_option linter.unusedSimpArgs false

theorem Bs.congr {w : World} {v : Value} {n : Nat} {f g : Nat → Bool} (h : Bs w v n f) (e : ∀ u, u < n → f u = g u) : Bs w v n g := by
  obtain ⟨a, c, h1, h2, h3, h4, h5⟩ := h.ex
  exact ⟨a, c, h1, h2, h3, h4, fun b hb i hi => by rw [← e i hi]; exact h5 b hb i hi⟩
section
variable {w : World} {v : Value} {n M : Nat} {f : Nat → Bool} {c : Int}
theorem hMe (hM : M + 1 = 2 ^ 2 ^ n) : 2 ^ 2 ^ n - 1 = M := by omega
theorem tn_le (f : Nat → Bool) (hM : M + 1 = 2 ^ 2 ^ n) : tn f (2 ^ n) ≤ M := by have := tn_lt f (2 ^ n); omega
theorem ls_c (hn : n ≤ 3) (hM : M + 1 = 2 ^ 2 ^ n) (hb : Bs w v (2 ^ n) f) (hc : Lc n M 1 false Js (tn f (2 ^ n)) c) : Calls Try.prog 27 #[v] w fun e w' => e = .returned (.tuple #[I c, I 0]) ∧ Below w.heap.size w w' :=
  (leastSize_ok hn hb).mono fun e w' ⟨E, h1, h2, h3, h4⟩ => by
    rw [hMe hM] at h2 h3
    rw [hc.eq hn hM join_sum js_ok (by decide) (by decide) h2 h3 (tn_le f hM)] at h1
    exact ⟨h1, h4⟩
theorem ld_c (hn : n ≤ 3) (hM : M + 1 = 2 ^ 2 ^ n) (hb : Bs w v (2 ^ n) f) (hc : Lc n M 0 false Jm (tn f (2 ^ n)) c) : Calls Try.prog 22 #[v] w fun e w' => e = .returned (.tuple #[I c, I 0]) ∧ Below w.heap.size w w' :=
  (leastDepth_ok hn hb).mono fun e w' ⟨E, h1, h2, h3, h4⟩ => by
    rw [hMe hM] at h2 h3
    rw [hc.eq hn hM join_max jm_ok (by decide) (by decide) h2 h3 (tn_le f hM)] at h1
    exact ⟨h1, h4⟩
theorem bi_c (hn : n ≤ 3) (hM : M + 1 = 2 ^ 2 ^ n) (hb : Bs w v (2 ^ n) f) (hc : Lc n M 1 true Js (tn f (2 ^ n)) c) : Calls Try.prog 29 #[v] w fun e w' => e = .returned (.tuple #[I c, I 0]) ∧ Below w.heap.size w w' :=
  (binary_ok hn hb).mono fun e w' ⟨E, h1, h2, h3, h4⟩ => by
    rw [hMe hM] at h2 h3
    rw [hc.eq hn hM join_sum js_ok (by decide) (by decide) h2 h3 (tn_le f hM)] at h1
    exact ⟨h1, h4⟩
/-- a good tree for f -/
structure Gt (n : Nat) (f : Nat → Bool) (c : Int) (t : Fx) : Prop where
  ok : t.ok 16
  nest : t.nest ≤ 1000
  nodes : t.nodes ≤ 20000
  sz : (t.size : Int) = c
  x5 : t.has 5 = false
  inp : t.inp ≤ n
  ok1 : t.ok 100
  val : ∀ u, u < 2 ^ n → t.val u = f u
theorem lf_c (hn : n ≤ 3) (hM : M + 1 = 2 ^ 2 ^ n) (hb : Bs w v (2 ^ n) f) (hc : Lc n M 1 false Js (tn f (2 ^ n)) c) :
    Calls Try.prog 28 #[v] w fun e w' => ∃ t k m A l cp, e = .returned (.tuple #[.agg #[I k, I m, .slice A l cp], I 0]) ∧ Fm w' t [I k, I m, .slice A l cp] ∧ Gt n f c t ∧ Below w.heap.size w w' :=
  (leastFormula_ok hn hb).mono fun e w' ⟨E, t, x, y, z, h1, h2, h3, h4, h5, h6⟩ => by
    rw [hMe hM] at h2 h3
    have hs := lc_small hc hn hM js_ok (by decide) (by decide) (tn_le f hM)
    rw [hc.eq hn hM join_sum js_ok (by decide) (by decide) h2 h3 (tn_le f hM)] at h5
    obtain ⟨k, m, A, l, cp, he⟩ := h4.three
    simp only [List.cons.injEq, and_true] at he
    obtain ⟨rfl, rfl, rfl⟩ := he
    have q1 := h5.hn
    have q2 := h5.hs
    have q3 := nest_le t
    refine ⟨t, k, m, A, l, cp, h1, h4, ⟨Fx.ok_mono (by omega) h5.ok, by omega, by omega, h5.hs, h5.hx, (Fx.inp_le (by omega) h5.ok).2, Fx.ok_mono (by omega) h5.ok, fun u hu => ?_⟩, h6⟩
    rw [h5.hv u hu, tn_testBit]
    simp [hu]
end
end Go.Proofs.Ytpfbommaddaijaa
namespace Go.Proofs.Ytpfbommaddaijaa
open Go.RowKit Go.Proofs.YtpfbommaddaijaaW.PrintWords
set_option linter.unusedVariables false
set_option linter.unusedSimpArgs false

theorem w2j : ∀ c : Fin 20, wrap64 ((2 : Int) ^ c.val) = ((2 ^ c.val : Nat) : Int) := by decide +kernel
set_option maxHeartbeats 1000000 in
set_option maxRecDepth 100000 in
theorem lst_good {w : World} {ta : Option Addr} {tc n : Nat} {f : Nat → Bool} (ht : Bs w (.slice ta (2 ^ n) tc) (2 ^ n) f) (n1 : ta = none → tc = 0) (hn : n ≤ 3) : Calls Try.prog 5 #[.slice ta (2 ^ n) tc] w fun e w' => e = .returned (.bool true) ∧ Below w.heap.size w w' := by
  obtain ⟨M, hM⟩ : ∃ M, M + 1 = 2 ^ 2 ^ n := ⟨2 ^ 2 ^ n - 1, by have := Nat.two_pow_pos (2 ^ n); omega⟩
  have htM := tn_le f hM
  obtain ⟨S, hS⟩ := lc_ex (xor := false) hn hM js_ok (leaf := 1) (by decide) (by decide) htM
  obtain ⟨X, hX⟩ := lc_ex (xor := true) hn hM js_ok (leaf := 1) (by decide) (by decide) htM
  obtain ⟨D, hD⟩ := lc_ex (xor := false) hn hM jm_ok (leaf := 0) (by decide) (by decide) htM
  have hXS := lc_bin hS hX
  have hSD := lc_depth hS hD
  have hD15 := lc_small hD hn hM jm_ok (by decide) (by decide) htM
  have hS31 : S ≤ 31 := lc_small hS hn hM js_ok (by decide) (by decide) htM
  have hD0 : (0 : Int) ≤ D := hD.z
  have hD15 : D ≤ 15 := hD15
  obtain ⟨d, rfl⟩ : ∃ d : Nat, D = d := ⟨D.toNat, by omega⟩
  have hd62 : d < 62 := by clear hSD; omega
  have hsh : wrap64 ((2 : Int) ^ d) = ((2 ^ d : Nat) : Int) := w2j ⟨d, by clear hSD; omega⟩
  rw [Int.toNat_natCast] at hSD
  have h8 : 2 ^ n ≤ 2 ^ 3 := Nat.pow_le_pow_right (by decide) hn
  have hNt : Lc n M 1 false Js (tn (fun i => !f i) (2 ^ n)) S := by rw [tn_not f hM]; exact lc_not hS htM
  have HLN := Lib.hid (fun (W : World) (v : Value) (hb : Bs W v (2 ^ n) (fun i => !f i)) => ls_c hn hM hb hNt)
  have HS1 := Lib.hid (fun (W : World) (v : Value) (hb : Bs W v (2 ^ n) f) => refSize_any hn hb false hM hS.d hS.m hS.b)
  have HS2 := Lib.hid (fun (W : World) (v : Value) (hb : Bs W v (2 ^ n) f) => refSize_any hn hb true hM hX.d hX.m hX.b)
  have HSL := Lib.hid (fun (W : World) (v : Value) (hb : Bs W v (2 ^ n) f) => refLevels_any hn hb hM hD.d hD.m hD.b)
  have HLS := Lib.hid (fun (W : World) (v : Value) (hb : Bs W v (2 ^ n) f) => ls_c hn hM hb hS)
  have HLD := Lib.hid (fun (W : World) (v : Value) (hb : Bs W v (2 ^ n) f) => ld_c hn hM hb hD)
  have HLF := Lib.hid (fun (W : World) (v : Value) (hb : Bs W v (2 ^ n) f) => lf_c hn hM hb hS)
  have HBI := Lib.hid (fun (W : World) (v : Value) (hb : Bs W v (2 ^ n) f) => bi_c hn hM hb hX)
  have HT := Lib.hid ht
  have HTK := Lib.hid (fun (W : World) (hW : Below w.heap.size w W) => ht.keep hW)
  have HC1 := Lib.hid (fun (W : World) (hW : Below w.heap.size w W) => bools_any (ht.keep hW) n1 (by omega))
  have HRI := Lib.hid (fun w : World => refInputs_any (w := w) (a := ta) (cap := tc) (len := 2 ^ n) (by omega) (inp_pow (by omega)))
  have HAW := Lib.hid awake_any
  have HB0 := Lib.hid (Below.refl w.heap.size w)
  have HTR := Lib.hid (fun (W : World) (t : Fx) (x y z : Value) (h : Fm W t [x, y, z]) (ho : t.ok 16) => (truth_any (n := n) (by omega) h ho).mono (R' := fun e w' => ∃ a c, e = .returned (.slice (some a) (2 ^ n) c) ∧ Bs w' (.slice (some a) (2 ^ n) c) (2 ^ n) (fun u => t.val u) ∧ W.heap.size ≤ a.block ∧ Below W.heap.size W w') fun e w' h' => h')
  have HGV : Hid (∀ (W : World) (v : Value) (t : Fx), Gt n f S t → Bs W v (2 ^ n) (fun u => t.val u) → Bs W v (2 ^ n) f) := Lib.hid (fun W v t g h => h.congr g.val)
  simp only [if_true] at HRI
  clear ht hS hX hD hM htM hNt
  obtain ⟨L, hL⟩ : ∃ L, L = 2 ^ n := ⟨_, rfl⟩
  rw [← hL] at HLN HS1 HS2 HSL HLS HLD HLF HBI HT HTK HC1 HRI HTR HGV h8 ⊢
  clear hL
  obtain ⟨P, hP⟩ : ∃ P : Nat, P = 2 ^ d := ⟨_, rfl⟩
  rw [← hP] at hsh hSD
  clear hP
  have d1 : decide ((5000 : Int) < L) = false := decide_eq_false (by omega)
  have d2 : decide ((n : Int) < 0) = false := decide_eq_false (by omega)
  have d3 : decide ((3 : Int) < n) = false := decide_eq_false (by omega)
  have d4 : decide (S < X) = false := decide_eq_false (by omega)
  have d5 : decide ((P : Int) < S) = false := decide_eq_false (by omega)
  go_enter Try.func5, Try.ntmps5
  go_upto_region 15 with (first
    | (go_at_call 17; refine (HRI.out _).mono ?_; rintro e w' ⟨rfl, rfl⟩)
    | (go_at_call 26; refine (HSL.out _ _ (HTK.out _ B1.out)).mono ?_; rintro e w2 ⟨rfl, hb⟩; have B2 := Lib.hid (B1.out.trans (hb.mono B1.out.size)); clear hb)
    | (go_at_call 25; first
      | ((with_reducible refine (HS1.out _ _ HT.out).mono ?_); rintro e w1 ⟨rfl, hb⟩; have B1 := Lib.hid hb; clear hb)
      | ((with_reducible refine (HS2.out _ _ (HTK.out _ B2.out)).mono ?_); rintro e w3 ⟨rfl, hb⟩; have B3 := Lib.hid (B2.out.trans (hb.mono B2.out.size)); clear hb))
    | (go_at_call 27; refine (HLS.out _ _ V4.out).mono ?_; rintro e w5 ⟨rfl, hb⟩; have B5 := Lib.hid (B4.out.trans (hb.mono B4.out.size)); clear hb)
    | (go_at_call 22; refine (HLD.out _ _ V6.out).mono ?_; rintro e w7 ⟨rfl, hb⟩; have B7 := Lib.hid (B6.out.trans (hb.mono B6.out.size)); clear hb)
    | (go_at_call 28; refine (HLF.out _ _ V8.out).mono ?_; rintro e w9 ⟨tt, tk, tm, tA, tl, tp, rfl, hfm, hgt, hb⟩; have hSZ := Lib.hid (show tt.size ≤ 1000000 by have := hgt.sz; have := hS31; omega); have FM := Lib.hid hfm; have GT := Lib.hid hgt; have B9 := Lib.hid (B8.out.trans (hb.mono B8.out.size)); have B9' := Lib.hid (B9.out.alloc B9.out.size (.cells #[I tk, I tm, .slice tA tl tp] 24)); clear hb hfm hgt)
    | (go_at_call 29; refine (HBI.out _ _ V10.out).mono ?_; rintro e w11 ⟨rfl, hb⟩; have Z11 := Lib.hid ((Z3.new w9 (I tk) (I tm) (.slice tA tl tp)).keep (hb10.trans (hb.mono hb10.size))); have F11 := Lib.hid (((FM.out.keep ((Below.refl _ _).alloc (Nat.le_refl _) _)).keep hb10).keep hb); have B11 := Lib.hid (B10.out.trans (hb.mono B10.out.size)); clear hb hb10)
    | (go_at_call 23; have _t := B9; (with_reducible refine (HC1.out _ B9'.out).mono ?_); rintro e w10 ⟨v10, rfl, hv, hb10⟩; obtain ⟨a10, x10, rfl⟩ := hv.shape; have V10 := Lib.hid hv; have B10 := Lib.hid (B9'.out.trans (hb10.mono B9'.out.size)); clear hv)
    | (go_at_call 23; have _t := B7; (with_reducible refine (HC1.out _ B7.out).mono ?_); rintro e w8 ⟨v8, rfl, hv, hb⟩; obtain ⟨a8, x8, rfl⟩ := hv.shape; have V8 := Lib.hid hv; have B8 := Lib.hid (B7.out.trans (hb.mono B7.out.size)); clear hb hv)
    | (go_at_call 23; have _t := B5; (with_reducible refine (HC1.out _ B5.out).mono ?_); rintro e w6 ⟨v6, rfl, hv, hb⟩; obtain ⟨a6, x6, rfl⟩ := hv.shape; have V6 := Lib.hid hv; have B6 := Lib.hid (B5.out.trans (hb.mono B5.out.size)); clear hb hv)
    | (go_at_call 23; (with_reducible refine (HC1.out _ B3.out).mono ?_); rintro e w4 ⟨v4, rfl, hv, hb⟩; obtain ⟨a4, x4, rfl⟩ := hv.shape; have V4 := Lib.hid hv; have B4 := Lib.hid (B3.out.trans (hb.mono B3.out.size)); clear hb hv))
  clear d1 d2 d3
  have z0 := Z11.out.c0
  have z1 := Z11.out.c1
  have z2 := Z11.out.c2
  go_upto_region 21 with (first
    | (go_at_call 31; refine (fValid_any F11.out GT.out.ok GT.out.nest GT.out.nodes).mono ?_; rintro e w12 ⟨rfl, hb⟩; have hz := Z11.out.keep hb; have z3 := hz.c0; have z4 := hz.c1; have z5 := hz.c2; have Z12 := Lib.hid hz; have F12 := Lib.hid (F11.out.keep hb); have B12 := Lib.hid (B11.out.trans (hb.mono B11.out.size)); clear hb hz)
    | (go_at_call 32; refine (fHas_any F12.out 5).mono ?_; rw [GT.out.x5]; rintro e w13 ⟨rfl, hb⟩; have hz := Z12.out.keep hb; have z6 := hz.c0; have z7 := hz.c1; have z8 := hz.c2; have Z13 := Lib.hid hz; have F13 := Lib.hid (F12.out.keep hb); have B13 := Lib.hid (B12.out.trans (hb.mono B12.out.size)); clear hb hz)
    | (go_at_call 33; refine (fSize_any F13.out hSZ.out).mono ?_; rw [GT.out.sz]; rintro e w14 ⟨rfl, hb⟩; have hz := Z13.out.keep hb; have z9 := hz.c0; have z10 := hz.c1; have z11 := hz.c2; have Z14 := Lib.hid hz; have F14 := Lib.hid (F13.out.keep hb); have B14 := Lib.hid (B13.out.trans (hb.mono B13.out.size)); clear hb hz)
    | (go_at_call 16; refine (fInputs_any F14.out GT.out.ok1).mono ?_; rintro e w15 ⟨rfl, hb⟩; have hz := Z14.out.keep hb; have z12 := hz.c0; have z13 := hz.c1; have z14 := hz.c2; have Z15 := Lib.hid hz; have F15 := Lib.hid (F14.out.keep hb); have B15 := Lib.hid (B14.out.trans (hb.mono B14.out.size)); have i1 := GT.out.inp; have i2 : decide ((n : Int) < tt.inp) = false := decide_eq_false (by omega); clear hb hz)
    | (go_at_call 35; refine (HTR.out _ _ _ _ _ F15.out GT.out.ok).mono ?_; rintro e w16 ⟨a16, c16, rfl, hv, _, hb⟩; have V16 := Lib.hid (HGV.out _ _ _ GT.out hv); have B16 := Lib.hid (B15.out.trans (hb.mono B15.out.size)); clear hb hv)
    | (go_at_call 34; refine (equal_any V16.out (HTK.out _ B16.out) (by omega)).mono ?_; rintro e w17 ⟨rfl, hd⟩; have B17 := Lib.hid (B16.out.trans (hd.below.mono B16.out.size)); clear hd))
  clear z0 z1 z2 z3 z4 z5 z6 z7 z8 z9 z10 z11 z12 z13 z14 i1 i2
  have T17 := Lib.hid (HTK.out _ B17.out)
  go_wp2
  simp only [hsh]
  clear hsh
  go_loopw [16, 17] (fun x y wr => ∃ i : Nat, i ≤ L ∧ y = I i ∧ Hid (Kd.R Kd.bool 4 wr w.heap.size (fun _ => True) x ((List.range i).map fun u => !f u)) ∧ Hid (Below w.heap.size w wr)) (fun _ y _ => L - (intOf y).toNat)
  case atStart => exact ⟨0, by omega, rfl, Lib.hid (Kd.R_nil _ _ _ _ _), B17⟩
  case round =>
    obtain ⟨i, hi, rfl, HO, HB⟩ := hrel
    by_cases hiL : i < L
    · obtain ⟨b0, rfl, cb⟩ := (HTK.out _ HB.out).at' hiL
      have hi0 : (0 : Int) ≤ i := by omega
      have hi1 : (i : Int) < L := by omega
      have hr1 : (List.range i).map (fun u => !f u) ++ [!f i] = (List.range (i + 1)).map (fun u => !f u) := by rw [List.range_succ, List.map_append]; rfl
      have HR1 := Lib.hid hr1
      clear hr1
      have hl8 : (((List.range i).map (fun u => !f u)).length + 1) * 1 ≤ 140737488355328 := by simp; omega
      go_wp2_with (at_builtin; refine Kd.R_append (P := Try.prog) Kd.bool w.heap.size rfl (.tmp 147) (.tmp 153) 29 4 (.bool false) 1 rfl Try.underlying29 Try.info4 rfl (by decide) (by decide) _ _ (!f i) [.bool (!f i)] (fun _ => True) (fun _ => False) rfl rfl rfl (fun _ h => h.elim) (fun _ _ => trivial) HO.out HB.out HB.out.size hl8 ?_; intro v2 w3 ho hb hg hat; have HO3 := Lib.hid ho; have HB3 := Lib.hid hb; clear ho hb hg hat)
      go_roundw
      case rel => exact ⟨i + 1, by omega, by go_num, by rw [← HR1.out]; exact HO3, HB3⟩
      case measure => simp [intOf]; omega
    · obtain rfl : L = i := by omega
      have hbs : Bs wr u16 L (fun u => !f u) := own_bs (B := w.heap.size) (by have h := Kd.own_of_R HO.out; simpa [encs, Function.comp_def] using h)
      have HBS := Lib.hid hbs
      clear hbs
      go_wp2_with (first
        | (go_at_call 27; refine (HLN.out _ _ HBS.out).mono ?_; rintro e w18 ⟨rfl, hb⟩; have B18 := Lib.hid (HB.out.trans (hb.mono HB.out.size)); clear hb)
        | (go_at_call 21; refine (HAW.out _).mono ?_; rintro e w19 ⟨rfl, hb⟩; have B19 := Lib.hid (B18.out.trans (hb.mono B18.out.size)); clear hb))
      go_ret
      exact ⟨rfl, B19.out⟩
end Go.Proofs.Ytpfbommaddaijaa
namespace Go.Proofs.Ytpfbommaddaijaa
open Go.RowKit
set_option linter.unusedVariables false
/-- THE STATEMENT -/
theorem least_law {w : World} {ta : Option Addr} {tc len : Nat} {f : Nat → Bool} (ht : Bs w (.slice ta len tc) len f) (n1 : ta = none → tc = 0) (l1 : len ≤ 2 ^ 50) : Calls Try.prog 5 #[.slice ta len tc] w fun e w' => e = .returned (.bool true) ∧ Below w.heap.size w w' := by
  by_cases h : 5000 < len
  · exact lst_out h
  · have h5 : len ≤ 5000 := by omega
    by_cases hp : ∃ k, k ≤ 12 ∧ len = 2 ^ k
    · obtain ⟨k, hk, rfl⟩ := hp
      by_cases h3 : k ≤ 3
      · exact lst_good ht n1 h3
      · exact lst_size (n := (k : Int)) ht n1 h5 (by omega) (inp_pow hk)
    · refine lst_form (n := (bl 13 len : Int) - 1) ht n1 h5 ⟨rfl, ⟨(fun h => by cases h), fun h => ?_⟩⟩
      have := bl_le 13 len
      exact absurd ⟨_, by omega, h.2⟩ hp
end Go.Proofs.Ytpfbommaddaijaa
