/- The law BoundFrom. -/
import Derived.Test.YtpfbommaddaijaaZcJf
import Derived.Test.YtpfbommaddaijaaZcx22
import Derived.Test.YtpfbommaddaijaaZcx23
import Derived.Test.YtpfbommaddaijaaZcx09
import Derived.Test.YtpfbommaddaijaaZcV5
import Derived.Test.YtpfbommaddaijaaZcKb
import Derived.Test.YtpfbommaddaijaaZcx04
import Derived.Test.YtpfbommaddaijaaZcV8c
import Derived.Deep.RegionHeld3
import Derived.Test.YtpfbommaddaijaaZcH1
namespace Go.Proofs.Ytpfbommaddaijaa
open Go.RowKit Go.Proofs.YtpfbommaddaijaaW.PrintWords Go.Proofs.YtpfbommaddaijaaW.PrintLast PBoundTo
set_option linter.unusedVariables false
set_option linter.unusedSimpArgs false

theorem ok_shp {n : Nat} : ∀ {t : Pt}, t.ok n → shp n t.toS = true
  | .leaf v, h => by
    obtain ⟨h1, h2⟩ := h
    rw [Pt.toS, shp]
    simp [h1, h2]
  | .node pl ask l r, h => by
    obtain ⟨h1, h2, h3, h4⟩ := h
    rw [Pt.toS, shp, shpL, shpL, shpL, ok_shp h3, ok_shp h4]
    rcases h1 with rfl | rfl <;> simp [h2]
theorem ok_inp {n : Int} : ∀ {t : Fx}, t.ok 16 → t.inp ≤ n → t.ok n
  | .leaf k v, h, hi => by
    rcases h with ⟨rfl, h0, h1⟩ | h
    · simp [Fx.inp] at hi
      exact .inl ⟨rfl, h0, by omega⟩
    · exact .inr h
  | .not a, h, hi => by
    rw [Fx.inp] at hi
    exact ok_inp (t := a) h (by omega)
  | .bin k a b, h, hi => by
    obtain ⟨hk, ha, hb⟩ := h
    rw [Fx.inp] at hi
    exact ⟨hk, ok_inp ha (by omega), ok_inp hb (by omega)⟩
theorem toS_inj : ∀ {t u : Fx}, toS t = toS u → t = u
  | .leaf k n, .leaf k' n', h => by simp [toS] at h; obtain ⟨rfl, rfl⟩ := h; rfl
  | .leaf k n, .not a, h => by simp [toS] at h
  | .leaf k n, .bin k' a b, h => by simp [toS] at h
  | .not a, .leaf k n, h => by simp [toS] at h
  | .not a, .not b, h => by simp [toS] at h; rw [toS_inj h]
  | .not a, .bin k b c, h => by simp [toS] at h
  | .bin k a b, .leaf k' n, h => by simp [toS] at h
  | .bin k a b, .not c, h => by simp [toS] at h
  | .bin k a b, .bin k' c d, h => by
    simp [toS] at h
    obtain ⟨rfl, h1, h2⟩ := h
    rw [toS_inj h1, toS_inj h2]
theorem fm_args {w : World} {t : Fx} {A : Option Addr} {c : Nat} (ho : t.ok 16) (hl : (toS t).f2.length ≤ c) (hC : Kd.C k24 w A (toS t).f2.length (toS t).f2) : Fm w t [I (toS t).f0, I (toS t).f1, .slice A (toS t).f2.length c] := by
  obtain ⟨u, h1, h2, h3⟩ := fm_of (fns (toS t)) (toS t) (Nat.le_refl _) (toS_sh t ho) (k24_mk w (toS t) (A2 := A) (c2 := c) hl hC)
  rw [← toS_inj h1]
  rw [← toS_inj h1] at h3
  exact h3
theorem xor_k8 {a b : Nat} (ha : a < 8192) (hb : b < 8192) : bits BinOp.xor .i64 (a : Int) (b : Int) = ((a ^^^ b : Nat) : Int) := by
  have hx : a ^^^ b < 2 ^ 13 := Nat.xor_lt_two_pow (by omega) (by omega)
  have h1 : (BitVec.ofInt 64 (a : Int)).toNat = a := by
    rw [BitVec.ofInt_natCast, BitVec.toNat_ofNat]; exact Nat.mod_eq_of_lt (by omega)
  have h2 : (BitVec.ofInt 64 (b : Int)).toNat = b := by
    rw [BitVec.ofInt_natCast, BitVec.toNat_ofNat]; exact Nat.mod_eq_of_lt (by omega)
  show IntKind.i64.wrap ((BitVec.ofInt 64 (a : Int) ^^^ BitVec.ofInt 64 (b : Int)).toNat : Int) = _
  rw [BitVec.toNat_xor, h1, h2, IntKind.wrap_i64]
  omega
/-- the protocol is light, valid, no deeper, with no more leaves -/
theorem pq_of {t : Fx} {k : Nat} (hk1 : 1 ≤ k) (hk : k ≤ 12) (hp : t.pl k) (hs : t.size ≤ 3000) (hs2 : t.size ≤ 2 ^ (22 - k)) (hd : t.dep ≤ 60) : Pq (fpt k t false) k t.dep t.size := by
  have ho := fpt_ok (neg := false) hp
  have hwg := fpt_wg (n := k) (t := t) (neg := false)
  have hnd := fpt_nd (n := k) (t := t) (neg := false)
  have hdp := fpt_dep (neg := false) hp
  have hlv := fpt_lvs (n := k) (t := t) (neg := false)
  have hmul : t.size * (2 ^ k / 16) ≤ 262144 := by
    have h1 : t.size * (2 ^ k / 16) ≤ 2 ^ (22 - k) * (2 ^ k / 16) := Nat.mul_le_mul_right _ hs2
    have h2 : 2 ^ (22 - k) * (2 ^ k / 16) ≤ 2 ^ (22 - k) * 2 ^ k / 16 := Nat.mul_div_le_mul_div_assoc _ _ _
    have h3 : 2 ^ (22 - k) * 2 ^ k = 4194304 := by rw [← Nat.pow_add, show 22 - k + k = 22 by omega]
    rw [h3] at h2
    omega
  have hhv : hv 0 0 (fpt k t false).toS = false := hv_false.2 ⟨by rw [Nat.mul_add] at hwg; generalize 2 ^ k / 16 = M at hwg hmul; omega, by rw [Pt.hg, hdp]; omega⟩
  refine ⟨fun w A3 c3 A4 c4 h => ?_, fun w A3 c3 A4 c4 h => ?_, fun w A3 c3 A4 c4 h => ?_, fun w A3 c3 A4 c4 h => ?_⟩
  · have := heavy_any (w := w) h.a h.la h.k h.lk
    rw [hhv] at this
    exact this
  · have := hValid_any (W := w) (n := k) (c3 := c3) (c4 := c4) hhv h.a h.k
    rw [show vld k (fpt k t false).toS = true by
      unfold vld
      rw [Pt.hg, hdp, Int.toNat_natCast, ok_shp ho]
      simp only [Bool.and_eq_true, decide_eq_true_eq, and_true]
      omega] at this
    exact this
  · have := hDepth_any (W := w) (A3 := A3) (c3 := c3) (c4 := c4) h.k
    rw [dq_toS, hdp, Nat.min_eq_left (by omega)] at this
    exact this
  · have := protLeaves_any (fpt k t false) (W := w) (A3 := A3) (c3 := c3) (c4 := c4) (by rw [hlv]; omega) h.k
    rw [hlv] at this
    exact this
theorem w2i21 : ∀ j, j < 22 → wrap64 ((2 : Int) ^ j) = ((2 ^ j : Nat) : Int) := by decide +kernel
theorem from_law {W : World} {x : S24} {A : Option Addr} {c : Nat} (hC : Kd.C k24 W A x.f2.length x.f2) (hl : x.f2.length ≤ c) (n : Int) : Calls Try.prog 8 #[fArg x A c, I n] W fun e W' => e = .returned (.bool true) ∧ Below W.heap.size W W' := by
  have HG : ∀ W', Below W.heap.size W W' → _ := fun W' hW => great_any (W := W') (x := x) (c := c) (Kd.C_below hC hW)
  cases eg : fhv 3000 0 0 x with
  | true => exact from_great (fun W' hW => by have := HG W' hW; rw [eg] at this; exact this)
  | false =>
    replace HG := fun W' hW => by have := HG W' hW; rw [eg] at this; exact this
    obtain ⟨g1, g2⟩ := fhv_false.1 eg
    have hnd : fnd x ≤ 3000 := by omega
    have HV : ∀ W', Below W.heap.size W W' → _ := fun W' hW => rvalid (W := W') (x := x) (c := c) (by omega) (Kd.C_below hC hW)
    have hcp : ∀ (TF : World → Ending → World → Prop), (∀ (w : World) (B : Option Addr) (d : Nat), Kd.C k24 w B x.f2.length x.f2 → x.f2.length ≤ d → Calls Try.prog 46 #[fArg x B d, I n] w (TF w)) →
        ∀ W', Below W.heap.size W W' → Calls Try.prog 47 #[fArg x A c] W' fun e W'' => ∃ c, e = .returned c ∧ Cp1 W'' c n TF ∧ Below W'.heap.size W' W'' := fun TF hTF W' hW => by
      refine (copyf_any (W := W') (x := x) (c := c) (by omega) (Kd.C_below hC hW) hl).mono fun e W'' h => ?_
      obtain ⟨B, d, he, k1, k2, hb⟩ := h
      exact ⟨_, he, fun w' hw => hTF w' B d (Kd.C_below k2 hw) k1, hb⟩
    have hwk : wok 0 1 x = fvl x := by
      unfold wok fvl
      rw [decide_eq_true (show 0 + fnd x ≤ 20000 by omega), Bool.and_true, Bool.and_comm]
      congr 1
      exact decide_eq_decide.2 ⟨fun h => by omega, fun h => by omega⟩
    cases ev : fvl x with
    | false =>
      rw [ev] at hwk
      exact from_form HG (fun W' hW => by have := HV W' hW; rw [ev] at this; exact this) (hcp _ fun w B d hB hd => ff_form fun W' hW => by
        have := fvalid_any (W := W') (x := x) (c := d) (Kd.C_below hB hW)
        rw [hwk] at this
        exact this)
    | true =>
      rw [ev] at hwk
      replace HV := fun W' hW => by have := HV W' hW; rw [ev] at this; exact this
      obtain ⟨w1, w2, w3⟩ := wok_true.1 hwk
      obtain ⟨t, rfl, ho16, hf⟩ := fm_of (fns x) x (Nat.le_refl _) w1 (k24_mk W x (A2 := A) (c2 := c) hl hC)
      have hin := toS_in t ho16
      have hinp := Fx.inp_le (m := 16) (by omega) ho16
      have HI : ∀ W', Below W.heap.size W W' → Calls Try.prog 16 #[fArg (toS t) A c] W' fun e W'' => e = .returned (I (fin (toS t))) ∧ Below W'.heap.size W' W'' := fun W' hW => rinputs (fns (toS t)) (toS t) (W := W') (c := c) (Nat.le_refl _) w1 (Kd.C_below hC hW)
      have HX : ∀ W', Below W.heap.size W W' → _ := fun W' hW => rhas 5 (fns (toS t)) (toS t) (W := W') (c := c) (Nat.le_refl _) (Kd.C_below hC hW)
      have HK : ∀ W', Below W.heap.size W W' → _ := fun W' hW => rhas 1 (fns (toS t)) (toS t) (W := W') (c := c) (Nat.le_refl _) (Kd.C_below hC hW)
      -- the program's own on a copy
      have pV : ∀ (w : World) (B : Option Addr) (d : Nat), Kd.C k24 w B (toS t).f2.length (toS t).f2 → ∀ W', Below w.heap.size w W' → Calls Try.prog 91 #[fArg (toS t) B d] W' fun e W'' => e = .returned (.bool true) ∧ Below W'.heap.size W' W'' := fun w B d hB W' hW => by
        have := fvalid_any (W := W') (x := toS t) (c := d) (Kd.C_below hB hW)
        rw [hwk] at this
        exact this
      have pI : ∀ (w : World) (B : Option Addr) (d : Nat), Kd.C k24 w B (toS t).f2.length (toS t).f2 → ∀ W', Below w.heap.size w W' → Calls Try.prog 92 #[fArg (toS t) B d] W' fun e W'' => e = .returned (I (fin (toS t))) ∧ Below W'.heap.size W' W'' := fun w B d hB W' hW =>
        (finputs_any (W := W') (x := toS t) (c := d) (Kd.C_below hB hW)).mono fun e W'' ⟨v, h1, h2, h3, _⟩ => ⟨by rw [h1, h3 hwk, hin]; simp, h2⟩
      have pS : ∀ (w : World) (B : Option Addr) (d : Nat), Kd.C k24 w B (toS t).f2.length (toS t).f2 → ∀ W', Below w.heap.size w W' → Calls Try.prog 94 #[fArg (toS t) B d] W' fun e W'' => e = .returned (I (t.size : Nat)) ∧ Below W'.heap.size W' W'' := fun w B d hB W' hW =>
        (fsize_any (W := W') (x := toS t) (c := d) (Kd.C_below hB hW)).mono fun e W'' ⟨v, h1, h2, h3, _⟩ => ⟨by rw [h1, h3 hwk, toS_sz], h2⟩
      have pD : ∀ (w : World) (B : Option Addr) (d : Nat), Kd.C k24 w B (toS t).f2.length (toS t).f2 → ∀ W', Below w.heap.size w W' → Calls Try.prog 95 #[fArg (toS t) B d] W' fun e W'' => e = .returned (I (t.dep : Nat)) ∧ Below W'.heap.size W' W'' := fun w B d hB W' hW =>
        (fdepth_any (W := W') (x := toS t) (c := d) (Kd.C_below hB hW)).mono fun e W'' ⟨v, h1, h2, h3, _⟩ => ⟨by rw [h1, h3 hwk, toS_dp], h2⟩
      have pW : ∀ (w : World) (B : Option Addr) (d : Nat), Kd.C k24 w B (toS t).f2.length (toS t).f2 → ∀ W', Below w.heap.size w W' → Calls Try.prog 93 #[fArg (toS t) B d] W' fun e W'' => e = .returned (.bool (wo (toS t))) ∧ Below W'.heap.size W' W'' := fun w B d hB W' hW =>
        without_any (fns (toS t)) (toS t) (Nat.le_refl _) W' B d (Kd.C_below hB hW)
      cases eb : (decide (n < 1) || decide (12 < n) || decide (n < fin (toS t)) || fhas 5 (toS t) || fhas 1 (toS t)) with
      | true =>
        exact from_arg HG HV HI HX HK rfl rfl rfl (hcp _ fun w B d hB hd => ff_arg (pV w B d hB) rfl rfl rfl (pI w B d hB) (pW w B d hB) (by
          rw [← eb]; unfold wo; simp [Bool.or_assoc])) eb
      | false =>
        simp only [Bool.or_eq_false_iff, decide_eq_false_iff_not] at eb
        obtain ⟨⟨⟨⟨b1, b2⟩, b3⟩, b4⟩, b5⟩ := eb
        obtain ⟨k, rfl⟩ := Int.eq_ofNat_of_zero_le (show 0 ≤ n by omega)
        have hk1 : 1 ≤ k := by omega
        have hk : k ≤ 12 := by omega
        have hok : t.ok k := ok_inp ho16 (by omega)
        have hp : t.pl k := pl_of hok (by rw [← toS_has]; exact b4) (by rw [← toS_has]; exact b5)
        replace HX := fun W' hW => by have := HX W' hW; rw [b4] at this; exact this
        replace HK := fun W' hW => by have := HK W' hW; rw [b5] at this; exact this
        have hwo : wo (toS t) = true := by unfold wo; rw [b4, b5]; rfl
        replace pW := fun w B d hB W' hW => by have := pW w B d hB W' hW; rw [hwo] at this; exact this
        have hsz : t.size ≤ t.nodes := by
          have : ∀ u : Fx, u.size ≤ u.nodes := fun u => by
            induction u with
            | leaf k n => exact Nat.le_refl _
            | not a ih => rw [Fx.size, Fx.nodes]; omega
            | bin k a b iha ihb => rw [Fx.size, Fx.nodes]; omega
          exact this t
        have hsz3 : t.size ≤ 3000 := by rw [toS_nd] at hnd; omega
        have hsp := t.size_pos
        have hS : wrap64 ((2 : Int) ^ (22 - k)) = ((2 ^ (22 - k) : Nat) : Int) := w2i21 (22 - k) (by omega)
        have hS10 : 2 ^ 10 ≤ 2 ^ (22 - k) := Nat.pow_le_pow_right (by decide) (by omega)
        have HS : ∀ W', Below W.heap.size W W' → Calls Try.prog 33 #[fArg (toS t) A c] W' fun e W'' => e = .returned (I (t.size : Nat)) ∧ Below W'.heap.size W' W'' := fun W' hW => by
          have := rsize (fns (toS t)) (toS t) (W := W') (c := c) (Nat.le_refl _) (by omega) (Kd.C_below hC hW)
          rw [toS_sz] at this
          exact this
        have HD : ∀ W', Below W.heap.size W W' → Calls Try.prog 45 #[fArg (toS t) A c] W' fun e W'' => e = .returned (I (t.dep : Nat)) ∧ Below W'.heap.size W' W'' := fun W' hW => by
          have := rdepth (fns (toS t)) (toS t) (W := W') (c := c) (Nat.le_refl _) (by omega) (Kd.C_below hC hW)
          rw [toS_dp] at this
          exact this
        cases ec : (decide ((20000 : Int) < 2 * (t.size : Nat) - 1) || decide (((2 ^ (22 - k) : Nat) : Int) < (t.size : Nat)) || decide ((60 : Int) < (t.dep : Nat))) with
        | true =>
          refine from_size HG HV HI HX HK (decide_eq_false b1) (decide_eq_false b2) (decide_eq_false b3) (hcp _ fun w B d hB hd => ff_size (pV w B d hB) hk1 hk (decide_eq_false b3) (pI w B d hB) (pW w B d hB) (pS w B d hB) (pD w B d hB) (by omega) (by omega) (m2 := 22 - k) (by omega) hS rfl rfl rfl ec) HS HD ?_
          simp only [Bool.or_eq_true, decide_eq_true_eq] at ec
          omega
        | false =>
          have ec' := ec
          simp only [Bool.or_eq_false_iff, decide_eq_false_iff_not] at ec'
          obtain ⟨⟨c1, c2⟩, c3⟩ := ec'
          have hd60 : t.dep ≤ 60 := by omega
          have hs22 : t.size ≤ 2 ^ (22 - k) := by omega
          have hq := pq_of hk1 hk hp hsz3 hs22 hd60
          have hoq := fpt_ok (neg := false) hp
          have HCP := hcp (fun W2 => FfR W2 (fpt k t false)) fun w B d hB hd => ff_ok (pV w B d hB) hk1 hk (decide_eq_false b3) (pI w B d hB) (pW w B d hB) (pS w B d hB) (pD w B d hB) (by omega) (by omega) (m2 := 22 - k) (by omega) hS (decide_eq_false c1) (decide_eq_false c2) (decide_eq_false c3) (N := 2 ^ k) (f := fun i => t.val i) (fun W' hW => protocol_any hk (fm_args ho16 hd (Kd.C_below hB hW)) hp)
          by_cases h8 : k ≤ 8
          · refine from_ok8 HG HV HI HX HK (decide_eq_false b1) (decide_eq_false b2) (decide_eq_false b3) HCP HS HD hq (decide_eq_false (by omega)) (decide_eq_false (by omega)) (decide_eq_true (by omega)) fun W' A3 c3' A4 c4' hW hPo => ?_
            refine (truth_any hk (hf.keep hW) ho16).mono fun e W2 h => ?_
            obtain ⟨a, d, h1, h2, _, h4⟩ := h
            refine ⟨_, h1, ?_, h4⟩
            have hPo2 := hPo.keep h4
            have hCt := h2.C
            have hlt : ((List.range (2 ^ k)).map fun u => t.val u).length = 2 ^ k := by simp
            have hdl : 2 ^ k ≤ d := by obtain ⟨a', c', e1, e2, _⟩ := h2.ex; cases e1; exact e2
            have hsv : slv (fpt k t false) ((List.range (2 ^ k)).map fun u => t.val u) = true := (slv_iff hlt).2 fun x hx hfx y hy hfy => fpt_run hx hy hp (by have h := (ask_get hx (fun u => t.val u)).symm.trans hfx; simpa using h) (by have h := (ask_get hy (fun u => t.val u)).symm.trans hfy; simpa using h)
            have := refSolves_any (W := W2) (c1 := d) hk hoq hlt hPo2.a hPo2.la hPo2.k hPo2.lk hCt (by rw [hlt]; exact hdl)
            rw [hsv, hlt] at this
            exact this
          · have h4096 : 2 ^ k ≤ 4096 := Nat.pow_le_pow_right (n := 2) (by decide) hk
            refine from_ok12 HG HV HI HX HK (decide_eq_false b1) (decide_eq_false b2) (decide_eq_false b3) HCP HS HD hq (decide_eq_false (by omega)) (decide_eq_false (by omega)) (decide_eq_false (by omega)) (N := 2 ^ k) (w2i k (by omega)) (Nat.two_pow_pos k) (g := fun u => t.val u) (r := fun x y => ((fpt k t false).run x y).toNat) (fun w x hx => bits51 (by omega) (by omega)) (fun w x A1 c1 hW hx hB => ?_) (fun w A3 c3' A4 c4' x y hPo hx hy => ?_) (fun x y hx hy h1 h2 => ?_)
            · obtain ⟨a, c', e1, e2, e3, e4, e5⟩ := hB.ex
              cases e1
              obtain ⟨b, rfl⟩ := e4 (by omega)
              exact eval_any t hp (hf.keep hW) (fun i hi => e5 b rfl i hi)
            · have hr := run_lt (x := x) (y := y) hoq
              have := refExecute_any (W := w) hoq hx hy hPo.a hPo.la hPo.k hPo.lk
              rw [show (((fpt k t false).run x y).toNat : Int) = (fpt k t false).run x y by omega]
              exact this
            · have hr := run_lt (x := x) (y := y) hoq
              have hxy : x ^^^ y < 2 ^ k := Nat.xor_lt_two_pow hx hy
              rw [xor_k8 (by omega) (by omega), Nat.min_eq_left (by omega), shr_and (by omega), fpt_run hx hy hp (by simpa using h1) (by simpa using h2)]
              rfl
end Go.Proofs.Ytpfbommaddaijaa

