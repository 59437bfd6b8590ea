/- The law BoundThere. -/
import Derived.Test.YtpfbommaddaijaaZeTh
import Derived.Test.YtpfbommaddaijaaZeTi
import Derived.Test.YtpfbommaddaijaaZex51
import Derived.Test.YtpfbommaddaijaaZeQk
namespace Go.Proofs.Ytpfbommaddaijaa
open Go.RowKit Go.Proofs.YtpfbommaddaijaaW.PrintWords Go.Proofs.YtpfbommaddaijaaW.PrintLast PBoundTo
set_option linter.unusedVariables false
set_option linter.unusedSimpArgs false

theorem dpt_toS : ∀ t : Pt, dpt t.toS = t.dep
  | .leaf v => by rw [dpt_eq]; simp [Pt.toS, Pt.dep]
  | .node pl ask l r => by
    rw [dpt_eq]
    simp only [Pt.toS, Pt.dep, dptL, dpt_toS l, dpt_toS r]
    simp
theorem ff_ok_of {w : World} {t : Fx} {k : Nat} {A : Option Addr} {d : Nat} (hk1 : 1 ≤ k) (hk : k ≤ 12) (hp : t.pl k) (hok : t.ok k) (hs : 2 * t.size ≤ 20001) (hs2 : t.size ≤ 2 ^ (22 - k)) (hd : t.dep ≤ 60) (hwk : wok 0 1 (toS t) = true) (hw5 : t.has 5 = false) (hw1 : t.has 1 = false) (hl : (toS t).f2.length ≤ d) (hB : Kd.C k24 w A (toS t).f2.length (toS t).f2) :
    Calls Try.prog 46 #[fArg (toS t) A d, I (k : Int)] w (FfR w (fpt k t false)) := by
  have ho16 : t.ok 16 := Fx.ok_mono (by omega) hok
  have hin := toS_in t ho16
  have hinp := Fx.inp_le (m := (k : Int)) (by omega) hok
  have hS : wrap64 ((2 : Int) ^ (22 - k)) = ((2 ^ (22 - k) : Nat) : Int) := w2i21 (22 - k) (by omega)
  have hS10 : 2 ^ 10 ≤ 2 ^ (22 - k) := Nat.pow_le_pow_right (by decide) (by omega)
  have hS21 : 2 ^ (22 - k) ≤ 2 ^ 21 := Nat.pow_le_pow_right (by decide) (by omega)
  have hsp := t.size_pos
  have hwo : wo (toS t) = true := by unfold wo; rw [toS_has, toS_has, hw5, hw1]; rfl
  refine ff_ok (vi := max 0 t.inp) (s := (t.size : Nat)) (d := (t.dep : Nat)) (S := ((2 ^ (22 - k) : Nat) : Int)) (fun W' hW => ?_) hk1 hk (decide_eq_false (by omega)) (fun W' hW => ?_) (fun W' hW => ?_) (fun W' hW => ?_) (fun W' hW => ?_) (by omega) (by omega) (m2 := 22 - k) (by omega) hS (decide_eq_false (by omega)) (decide_eq_false (by omega)) (decide_eq_false (by omega)) (N := 2 ^ k) (f := fun i => t.val i) (fun W' hW => protocol_any hk (fm_args ho16 hl (Kd.C_below hB hW)) hp)
  · have := fvalid_any (W := W') (x := toS t) (c := d) (Kd.C_below hB hW)
    rw [hwk] at this
    exact this
  · exact (finputs_any (W := W') (x := toS t) (c := d) (Kd.C_below hB hW)).mono fun e W'' ⟨v, h1, h2, h3, _⟩ => ⟨by rw [h1, h3 hwk, hin]; simp, h2⟩
  · have := without_any (fns (toS t)) (toS t) (Nat.le_refl _) W' A d (Kd.C_below hB hW)
    rw [hwo] at this
    exact this
  · exact (fsize_any (W := W') (x := toS t) (c := d) (Kd.C_below hB hW)).mono fun e W'' ⟨v, h1, h2, h3, _⟩ => ⟨by rw [h1, h3 hwk, toS_sz], h2⟩
  · exact (fdepth_any (W := W') (x := toS t) (c := d) (Kd.C_below hB hW)).mono fun e W'' ⟨v, h1, h2, h3, _⟩ => ⟨by rw [h1, h3 hwk, toS_dp], h2⟩
/-- the protocol of a formula solves its table -/
theorem fpt_slv {t : Fx} {k : Nat} (hp : t.pl k) {f : Nat → Bool} (hf : ∀ u, u < 2 ^ k → t.val u = f u) : slv (fpt k t false) ((List.range (2 ^ k)).map f) = true := by
  have hlt : ((List.range (2 ^ k)).map f).length = 2 ^ k := by simp
  refine (slv_iff hlt).2 fun x hx hfx y hy hfy => fpt_run hx hy hp ?_ ?_
  · have h := (ask_get hx f).symm.trans hfx; rw [hf x hx]; simpa using h
  · have h := (ask_get hy f).symm.trans hfy; rw [hf y hy]; simpa using h
theorem fpt_vld {t : Fx} {k : Nat} (hk1 : 1 ≤ k) (hk : k ≤ 12) (hp : t.pl k) (hs : t.size ≤ 3000) (hd : t.dep ≤ 60) : vld k (fpt k t false).toS = true := by
  have ho := fpt_ok (neg := false) hp
  have hnd := fpt_nd (n := k) (t := t) (neg := false)
  have hdp := fpt_dep (neg := false) hp
  unfold vld
  rw [Pt.hg, hdp, Int.toNat_natCast, ok_shp ho]
  simp only [Bool.and_eq_true, decide_eq_true_eq, and_true]
  omega
theorem gq_of {W : World} {t2 : Fx} {k : Nat} {t : Pt} {f : Nat → Bool} (hk : k ≤ 12) (hm : Mg k t t2) (hv : wok 0 1 (toS t2) = true) (hval : ∀ u, u < 2 ^ k → t2.val u = f u) : Gq W t2 k (max 0 t2.inp) t2.dep (t2.has 1) (fun w v => Bs w v (2 ^ k) f) := by
  have ho16 : t2.ok 16 := Fx.ok_mono (by omega) hm.ok
  obtain ⟨w1, w2, w3⟩ := wok_true.1 hv
  have hfn : fnd (toS t2) ≤ 20000 := by omega
  refine ⟨fun w x y z hb hf => ?_, fun w x y z hb hf => ?_, fun w x y z hb hf => ?_, fun w x y z hb hf => ?_, fun w x y z hb hf => ?_, fun w x y z hb hf => ?_⟩
  · obtain ⟨A, c, rfl, rfl, rfl, l2, hC⟩ := fm_arg hf
    have h := rvalid (W := w) (c := c) hfn hC
    rw [show fvl (toS t2) = true by unfold fvl; rw [w1]; simp; omega] at h
    exact h
  · obtain ⟨A, c, rfl, rfl, rfl, l2, hC⟩ := fm_arg hf
    have h := rinputs (fns (toS t2)) (toS t2) (W := w) (c := c) (Nat.le_refl _) w1 hC
    rw [toS_in t2 ho16] at h
    exact h
  · obtain ⟨A, c, rfl, rfl, rfl, l2, hC⟩ := fm_arg hf
    have h := rdepth (fns (toS t2)) (toS t2) (W := w) (c := c) (Nat.le_refl _) (by omega) hC
    rw [toS_dp] at h
    exact h
  · obtain ⟨A, c, rfl, rfl, rfl, l2, hC⟩ := fm_arg hf
    have h := rhas 5 (fns (toS t2)) (toS t2) (W := w) (c := c) (Nat.le_refl _) hC
    rw [toS_has, hm.no5] at h
    exact h
  · obtain ⟨A, c, rfl, rfl, rfl, l2, hC⟩ := fm_arg hf
    have h := rhas 1 (fns (toS t2)) (toS t2) (W := w) (c := c) (Nat.le_refl _) hC
    rw [toS_has] at h
    exact h
  · refine (truth_any hk hf ho16).mono fun e w' h => ?_
    obtain ⟨a, c, h1, h2, _, h4⟩ := h
    exact ⟨_, h1, h2.congr hval, h4⟩
set_option maxHeartbeats 4000000 in
theorem there_law {W : World} {x : S24} {A : Option Addr} {c : Nat} (hC : Kd.C k24 W A x.f2.length x.f2) (hl : x.f2.length ≤ c) (n : Int) : Calls Try.prog 11 #[fArg x A c, I n] W fun e W' => e = .returned (.bool true) ∧ Below W.heap.size W W' := by
  have HG : ∀ W', Below W.heap.size W W' → _ := fun W' hW => great_any (W := W') (x := x) (c := c) (Kd.C_below hC hW)
  cases eg : fhv 3000 0 0 x with
  | true => exact there_great (fun W' hW => by have := HG W' hW; rw [eg] at this; exact this)
  | false =>
    replace HG := fun W' hW => by have := HG W' hW; rw [eg] at this; exact this
    obtain ⟨g1, g2⟩ := fhv_false.1 eg
    have hnd : fnd x ≤ 3000 := by omega
    have HV : ∀ W', Below W.heap.size W W' → _ := fun W' hW => rvalid (W := W') (x := x) (c := c) (by omega) (Kd.C_below hC hW)
    have hwk : wok 0 1 x = fvl x := by
      unfold wok fvl
      rw [decide_eq_true (show 0 + fnd x ≤ 20000 by omega), Bool.and_true, Bool.and_comm]
      congr 1
      exact decide_eq_decide.2 ⟨fun h => by omega, fun h => by omega⟩
    cases ev : fvl x with
    | false => exact there_form HG (fun W' hW => by have := HV W' hW; rw [ev] at this; exact this)
    | true =>
      rw [ev] at hwk
      replace HV := fun W' hW => by have := HV W' hW; rw [ev] at this; exact this
      obtain ⟨w1, w2, w3⟩ := wok_true.1 hwk
      obtain ⟨t, rfl, ho16, hf⟩ := fm_of (fns x) x (Nat.le_refl _) w1 (k24_mk W x (A2 := A) (c2 := c) hl hC)
      have hin := toS_in t ho16
      have hinp := Fx.inp_le (m := 16) (by omega) ho16
      have HI : ∀ W', Below W.heap.size W W' → Calls Try.prog 16 #[fArg (toS t) A c] W' fun e W'' => e = .returned (I (fin (toS t))) ∧ Below W'.heap.size W' W'' := fun W' hW => rinputs (fns (toS t)) (toS t) (W := W') (c := c) (Nat.le_refl _) w1 (Kd.C_below hC hW)
      have HX : ∀ W', Below W.heap.size W W' → _ := fun W' hW => rhas 5 (fns (toS t)) (toS t) (W := W') (c := c) (Nat.le_refl _) (Kd.C_below hC hW)
      have HK : ∀ W', Below W.heap.size W W' → _ := fun W' hW => rhas 1 (fns (toS t)) (toS t) (W := W') (c := c) (Nat.le_refl _) (Kd.C_below hC hW)
      have HS : ∀ W', Below W.heap.size W W' → Calls Try.prog 33 #[fArg (toS t) A c] W' fun e W'' => e = .returned (I (t.size : Nat)) ∧ Below W'.heap.size W' W'' := fun W' hW => by
        have := rsize (fns (toS t)) (toS t) (W := W') (c := c) (Nat.le_refl _) (by omega) (Kd.C_below hC hW)
        rw [toS_sz] at this
        exact this
      have HD : ∀ W', Below W.heap.size W W' → Calls Try.prog 45 #[fArg (toS t) A c] W' fun e W'' => e = .returned (I (t.dep : Nat)) ∧ Below W'.heap.size W' W'' := fun W' hW => by
        have := rdepth (fns (toS t)) (toS t) (W := W') (c := c) (Nat.le_refl _) (by omega) (Kd.C_below hC hW)
        rw [toS_dp] at this
        exact this
      cases eb : (decide (n < 1) || decide (6 < n) || decide (n < fin (toS t)) || fhas 5 (toS t) || fhas 1 (toS t) || decide ((200 : Int) < (t.size : Nat)) || decide ((60 : Int) < (t.dep : Nat))) with
      | true => exact there_awake HG HV rfl rfl HI rfl HX HK HS rfl HD rfl eb
      | false =>
        simp only [Bool.or_eq_false_iff, decide_eq_false_iff_not] at eb
        obtain ⟨⟨⟨⟨⟨⟨b1, b2⟩, b3⟩, b4⟩, b5⟩, b6⟩, b7⟩ := eb
        obtain ⟨k, rfl⟩ := Int.eq_ofNat_of_zero_le (show 0 ≤ n by omega)
        have hk1 : 1 ≤ k := by omega
        have hk6 : k ≤ 6 := by omega
        have hk : k ≤ 12 := by omega
        have hok : t.ok k := ok_inp ho16 (by omega)
        have h5 : t.has 5 = false := by rw [← toS_has]; exact b4
        have h1 : t.has 1 = false := by rw [← toS_has]; exact b5
        have hp : t.pl k := pl_of hok h5 h1
        replace HX := fun W' hW => by have := HX W' hW; rw [b4] at this; exact this
        replace HK := fun W' hW => by have := HK W' hW; rw [b5] at this; exact this
        have hS16 : 2 ^ 16 ≤ 2 ^ (22 - k) := Nat.pow_le_pow_right (by decide) (by omega)
        have hd60 : t.dep ≤ 60 := by omega
        have hs200 : t.size ≤ 200 := by omega
        have hq := pq_of hk1 hk hp (by omega) (by omega) hd60
        have hoq := fpt_ok (neg := false) hp
        have hdq := fpt_dep (neg := false) hp
        have hlq := fpt_lvs (n := k) (t := t) (neg := false)
        have HCP : ∀ W', Below W.heap.size W W' → Calls Try.prog 47 #[fArg (toS t) A c] W' fun e W'' => ∃ c, e = .returned c ∧ Cp1 W'' c k (fun W2 => FfR W2 (fpt k t false)) ∧ Below W'.heap.size W' W'' := fun W' hW => by
          refine (copyf_any (W := W') (x := toS t) (c := c) (by omega) (Kd.C_below hC hW) hl).mono fun e W'' h => ?_
          obtain ⟨B, d, he, k1, k2, hb⟩ := h
          exact ⟨_, he, fun w' hw => ff_ok_of hk1 hk hp hok (by omega) (by omega) hd60 hwk h5 h1 k1 (Kd.C_below k2 hw), hb⟩
        obtain ⟨l, hll⟩ : ∃ l, l = (List.range (2 ^ k)).map fun u => t.val u := ⟨_, rfl⟩
        have hlt : l.length = 2 ^ k := by rw [hll]; simp
        have hsv : slv (fpt k t false) l = true := by rw [hll]; exact fpt_slv hp fun u _ => rfl
        have hms : (md (fpt k t false) (ons l 0 l.length) (zrs l 0 l.length)).2 = true := by rw [md_slv hoq l, hsv]
        have hmg := md_good (fpt k t false) hoq _ _ hms
        have hval : ∀ u, u < 2 ^ k → (md (fpt k t false) (ons l 0 l.length) (zrs l 0 l.length)).1.val u = t.val u := fun u hu => by
          rw [md_table hoq l hms u (by omega), hll]; exact getD_range (fun u => t.val u) hu
        obtain ⟨t2, ht2⟩ : ∃ t2, t2 = (md (fpt k t false) (ons l 0 l.length) (zrs l 0 l.length)).1 := ⟨_, rfl⟩
        have hmd : (md (fpt k t false) (ons l 0 l.length) (zrs l 0 l.length)) = (t2, true) := by rw [ht2, ← hms]
        rw [← ht2] at hmg hval
        have m1 := hmg.nodes
        have m2 := hmg.nest
        have m3 := hmg.dep
        have m4 := hmg.size
        have hwok2 : wok 0 1 (toS t2) = true := wok_true.2 ⟨toS_sh _ (Fx.ok_mono (by omega) hmg.ok), by rw [toS_nd]; omega, by rw [toS_ns]; omega⟩
        have hin2 := Fx.inp_le (m := (k : Int)) (by omega) hmg.ok
        have HSO : ∀ (q : Pt) (hq : q.ok k) (hvq : vld k q.toS = true) (w : World) (A3 A4 : Option Addr) (c3 c4 : Nat) (a : Option Addr) (d : Nat), Po w q A3 A4 c3 c4 → Bs w (.slice a (2 ^ k) d) (2 ^ k) (fun u => t.val u) → ∀ W', Below w.heap.size w W' → Calls Try.prog 100 #[pAgg q A3 A4 c3 c4, .slice a (2 ^ k) d] W' (SR W' (md q (ons l 0 l.length) (zrs l 0 l.length))) := fun q hq hvq w A3 A4 c3 c4 a d hPo hb W' hW => by
          have hPo2 := hPo.keep hW
          have hb2 := hb.keep hW
          have hCt := hb2.C
          rw [← hll] at hCt
          have hdl : 2 ^ k ≤ d := by obtain ⟨a', c', e1, e2, _⟩ := hb2.ex; cases e1; exact e2
          have := solved_ok (c4 := c4) hk1 hk hq hvq hlt hPo2.a hPo2.la hPo2.k hCt (by rw [hlt]; exact hdl)
          rw [hlt] at this
          rw [hlt]
          exact this
        refine there_ok (TV := fun w v => Bs w v (2 ^ k) (fun u => t.val u)) (t2 := t2) (b := t2.has 1) (q2 := fpt k t2 false) HG HV HI HX HK HS HD (decide_eq_false b1) (decide_eq_false b2) (decide_eq_false b3) (decide_eq_false b6) (decide_eq_false b7) HCP hq (decide_eq_false (by omega)) (fun W' hW => ?_) (fun w A3 c3 A4 c4 tv hW hPo htv => ?_) (fun w w' tv hb h => h.keep hb) (gq_of hk hmg hwok2 hval) (fun w a1 a2 u1 u2 => ?_) (decide_eq_false (by omega)) (decide_eq_false (by omega)) (fun hb w x y z hW hf => ?_) (fun hb w A3 c3 A4 c4 tv hPo htv => ?_) (fun hb w A3 c3 A4 c4 hPo => ?_) (d2 := (t2.dep : Nat)) (decide_eq_true (by omega))
        · refine (truth_any hk (hf.keep hW) ho16).mono fun e W2 h => ?_
          obtain ⟨a, d, e1, e2, _, e4⟩ := h
          exact ⟨_, e1, e2, e4⟩
        · obtain ⟨a, d, rfl⟩ := htv.shape
          have := tf_okS (W := w) (q := (t2, true)) rfl hwok2 (fun W' hW' => by have := HSO _ hoq (fpt_vld hk1 hk hp (by omega) hd60) w A3 A4 c3 c4 a d hPo htv W' hW'; rw [hmd] at this; exact this)
          exact this
        · obtain ⟨a, d, rfl⟩ := u1.shape
          obtain ⟨a', d', rfl⟩ := u2.shape
          exact equal34 u1 u2
        · obtain ⟨B, d, rfl, rfl, rfl, l2, hC2⟩ := fm_arg hf
          exact ff_ok_of hk1 hk (pl_of hmg.ok hmg.no5 hb) hmg.ok (by omega) (by omega) (by omega) hwok2 hmg.no5 hb l2 hC2
        · obtain ⟨a, d, rfl⟩ := htv.shape
          have hp2 := pl_of hmg.ok hmg.no5 hb
          refine solv57 fun W' hW' => (HSO _ (fpt_ok (neg := false) hp2) (fpt_vld hk1 hk hp2 (by omega) (by omega)) w A3 A4 c3 c4 a d hPo htv W' hW').mono fun e w'' h => ?_
          obtain ⟨kk, nn, A', l', c', e1, _, e3⟩ := h
          have hs2 : slv (fpt k t2 false) l = true := by rw [hll]; exact fpt_slv hp2 hval
          rw [md_slv (fpt_ok (neg := false) hp2) l, hs2] at e1
          exact ⟨kk, nn, A', l', c', e1, e3⟩
        · have hp2 := pl_of hmg.ok hmg.no5 hb
          have := bDepth_any (W := w) (x := (fpt k t2 false).toS) (A3 := A3) (c3 := c3) ⟨hPo.k, hPo.lk, hPo.pl⟩
          rw [dpt_toS, fpt_dep (neg := false) hp2, Nat.min_eq_left (by omega)] at this
          exact this
end Go.Proofs.Ytpfbommaddaijaa

