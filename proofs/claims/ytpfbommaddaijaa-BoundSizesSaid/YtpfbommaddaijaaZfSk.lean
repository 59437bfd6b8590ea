/- The law BoundSizes. -/
import Derived.Test.YtpfbommaddaijaaZfSg
import Derived.Test.YtpfbommaddaijaaZfSh
import Derived.Test.YtpfbommaddaijaaZfSi
import Derived.Test.YtpfbommaddaijaaZfSd
import Derived.Test.YtpfbommaddaijaaZfJ1
import Derived.Test.YtpfbommaddaijaaZfKc
namespace Go.Proofs.Ytpfbommaddaijaa
open Go.RowKit Go.Proofs.YtpfbommaddaijaaW.PrintWords Go.Proofs.YtpfbommaddaijaaW.PrintLast PBoundTo
set_option linter.unusedVariables false
set_option linter.unusedSimpArgs false

theorem ok_inpS {n : Int} : ∀ {t : Fx}, t.ok 16 → t.inp ≤ n → t.ok n
  | .leaf k v, h, hi => by
    rcases h with ⟨rfl, h0, h1⟩ | h
    · simp [Fx.inp] at hi
      exact .inl ⟨rfl, h0, by omega⟩
    · exact .inr h
  | .not a, h, hi => by
    rw [Fx.inp] at hi
    exact ok_inpS (t := a) h (by omega)
  | .bin k a b, h, hi => by
    obtain ⟨hk, ha, hb⟩ := h
    rw [Fx.inp] at hi
    exact ⟨hk, ok_inpS ha (by omega), ok_inpS hb (by omega)⟩
theorem wr_mid {x : Int} (h0 : 0 ≤ x) (h : x ≤ 1000000000) : wrap64 x = x := by unfold wrap64; omega
theorem mul_mid {s y : Nat} (h1 : s ≤ 3000) (h2 : y ≤ 65536) : wrap64 ((s : Int) * (y : Int)) = ((s * y : Nat) : Int) := by
  have h : s * y ≤ 3000 * 65536 := Nat.mul_le_mul h1 h2
  rw [← Int.natCast_mul]
  exact wr_mid (Int.natCast_nonneg _) (by omega)
set_option maxHeartbeats 4000000 in
theorem sizes_law {W : World} {x : S24} {A T : Option Addr} {c tl tc : Nat} {Z : Nat → Int} (hC : Kd.C k24 W A x.f2.length x.f2) (hl : x.f2.length ≤ c) (n : Int) (hZ : Is W (.slice T tl tc) tl Z) : Calls Try.prog 7 #[fArg x A c, I n, .slice T tl tc] W fun e W' => e = .returned (.bool true) ∧ Below W.heap.size W W' := by
  have HG : ∀ W', Below W.heap.size W W' → _ := fun W' hW => great_any (W := W') (x := x) (c := c) (Kd.C_below hC hW)
  cases eg : fhv 3000 0 0 x with
  | true => exact sizes_great (fun W' hW => by have := HG W' hW; rw [eg] at this; exact this)
  | false =>
    replace HG := fun W' hW => by have := HG W' hW; rw [eg] at this; exact this
    obtain ⟨g1, g2⟩ := fhv_false.1 eg
    have hnd : fnd x ≤ 3000 := by omega
    have HV : ∀ W', Below W.heap.size W W' → _ := fun W' hW => rvalid (W := W') (x := x) (c := c) (by omega) (Kd.C_below hC hW)
    have hwk : wok 0 1 x = fvl x := by
      unfold wok fvl
      rw [decide_eq_true (show 0 + fnd x ≤ 20000 by omega), Bool.and_true, Bool.and_comm]
      congr 1
      exact decide_eq_decide.2 ⟨fun h => by omega, fun h => by omega⟩
    cases ev : fvl x with
    | false => exact sizes_form HG (fun W' hW => by have := HV W' hW; rw [ev] at this; exact this)
    | true =>
      rw [ev] at hwk
      replace HV := fun W' hW => by have := HV W' hW; rw [ev] at this; exact this
      obtain ⟨w1, w2, w3⟩ := wok_true.1 hwk
      obtain ⟨t, rfl, ho16, hf⟩ := fm_of (fns x) x (Nat.le_refl _) w1 (k24_mk W x (A2 := A) (c2 := c) hl hC)
      have hin := toS_in t ho16
      have hinp := Fx.inp_le (m := 16) (by omega) ho16
      have HI : ∀ W', Below W.heap.size W W' → Calls Try.prog 16 #[fArg (toS t) A c] W' fun e W'' => e = .returned (I (fin (toS t))) ∧ Below W'.heap.size W' W'' := fun W' hW => rinputs (fns (toS t)) (toS t) (W := W') (c := c) (Nat.le_refl _) w1 (Kd.C_below hC hW)
      have HX : ∀ W', Below W.heap.size W W' → Calls Try.prog 32 #[fArg (toS t) A c, I 5] W' fun e W'' => e = .returned (.bool (t.has 5)) ∧ Below W'.heap.size W' W'' := fun W' hW => by
        have := rhas 5 (fns (toS t)) (toS t) (W := W') (c := c) (Nat.le_refl _) (Kd.C_below hC hW)
        rw [toS_has] at this
        exact this
      have HS : ∀ W', Below W.heap.size W W' → Calls Try.prog 33 #[fArg (toS t) A c] W' fun e W'' => e = .returned (I (t.size : Nat)) ∧ Below W'.heap.size W' W'' := fun W' hW => by
        have := rsize (fns (toS t)) (toS t) (W := W') (c := c) (Nat.le_refl _) (by omega) (Kd.C_below hC hW)
        rw [toS_sz] at this
        exact this
      have HD : ∀ W', Below W.heap.size W W' → Calls Try.prog 45 #[fArg (toS t) A c] W' fun e W'' => e = .returned (I (t.dep : Nat)) ∧ Below W'.heap.size W' W'' := fun W' hW => by
        have := rdepth (fns (toS t)) (toS t) (W := W') (c := c) (Nat.le_refl _) (by omega) (Kd.C_below hC hW)
        rw [toS_dp] at this
        exact this
      cases eb : (decide (n < 1) || decide (8 < n) || decide (n < fin (toS t)) || decide ((1000 : Int) < (tl : Nat))) with
      | true => exact sizes_awake HG HV rfl rfl HI rfl rfl (decide_eq_decide.2 ⟨fun h => by omega, fun h => by omega⟩) eb
      | false =>
        simp only [Bool.or_eq_false_iff, decide_eq_false_iff_not] at eb
        obtain ⟨⟨⟨b1, b2⟩, b3⟩, b4⟩ := eb
        obtain ⟨k, rfl⟩ := Int.eq_ofNat_of_zero_le (show 0 ≤ n by omega)
        have hk1 : 1 ≤ k := by omega
        have hk8 : k ≤ 8 := by omega
        have hk : k ≤ 12 := by omega
        have hok : t.ok k := ok_inpS ho16 (by omega)
        have h256 : 2 ^ k ≤ 256 := Nat.pow_le_pow_right (n := 2) (by decide) hk8
        have hNp := Nat.two_pow_pos k
        have hsz : t.size ≤ t.nodes := by
          have : ∀ u : Fx, u.size ≤ u.nodes := fun u => by
            induction u with
            | leaf k n => exact Nat.le_refl _
            | not a ih => rw [Fx.size, Fx.nodes]; omega
            | bin k a b iha ihb => rw [Fx.size, Fx.nodes]; omega
          exact this t
        have hsz3 : t.size ≤ 3000 := by rw [toS_nd] at hnd; omega
        obtain ⟨f, hfd⟩ : ∃ f : Nat → Bool, f = fun u => t.val u := ⟨_, rfl⟩
        have hfv : ∀ u, f u = t.val u := fun u => by rw [hfd]
        obtain ⟨la, hla⟩ : ∃ la, la = (laz (skp Z tl) f (2 ^ k)).length := ⟨_, rfl⟩
        obtain ⟨lb, hlb⟩ : ∃ lb, lb = (lbz (skp Z tl) f (2 ^ k)).length := ⟨_, rfl⟩
        have ha256 := laz_len (skp Z tl) f (2 ^ k)
        have hb256 := lbz_len (skp Z tl) f (2 ^ k)
        obtain ⟨es0, hes⟩ : ∃ e : Nat, e = es (fun i => (laz (skp Z tl) f (2 ^ k)).getD i 0) (fun i => (lbz (skp Z tl) f (2 ^ k)).getD i 0) (lbz (skp Z tl) f (2 ^ k)).length (laz (skp Z tl) f (2 ^ k)).length := ⟨_, rfl⟩
        -- the pair that Khrapchenko answers
        obtain ⟨X, Y, hX, hY, hXY⟩ : ∃ X Y : Nat, (t.has 5 = false → X = es0 * es0) ∧ (t.has 5 = false → Y = la * lb) ∧ X ≤ t.size * Y ∧ Y ≤ 65536 := by
          cases e5 : t.has 5 with
          | true => exact ⟨0, 0, fun h => absurd h (by decide), fun h => absurd h (by decide), Nat.zero_le _, Nat.zero_le _⟩
          | false =>
            refine ⟨es0 * es0, la * lb, fun _ => rfl, fun _ => rfl, ?_, ?_⟩
            · have := khr_lists (sk := skp Z tl) (N := 2 ^ k) (f := f) h256 e5 ho16 fun u _ => hfv u
              rw [← hes, ← hla, ← hlb] at this
              exact this
            · exact Nat.mul_le_mul (show la ≤ 256 by omega) (show lb ≤ 256 by omega)
        -- the least costs
        obtain ⟨ls, ld, bi, hLs, hLd, hBi⟩ : ∃ ls ld bi : Int, (k ≤ 3 → Lc k (2 ^ 2 ^ k - 1) 1 false Js (tn f (2 ^ k)) ls) ∧ (k ≤ 3 → Lc k (2 ^ 2 ^ k - 1) 0 false Jm (tn f (2 ^ k)) ld) ∧ (k ≤ 3 → Lc k (2 ^ 2 ^ k - 1) 1 true Js (tn f (2 ^ k)) bi) := by
          by_cases h3 : k ≤ 3
          · have hM : (2 ^ 2 ^ k - 1) + 1 = 2 ^ 2 ^ k := by have := Nat.two_pow_pos (2 ^ k); omega
            obtain ⟨a, ha⟩ := lc_ex (xor := false) h3 hM js_ok (by decide) (by decide) (tn_le f hM) (leaf := 1)
            obtain ⟨b, hb⟩ := lc_ex (xor := false) h3 hM jm_ok (by decide) (by decide) (tn_le f hM) (leaf := 0)
            obtain ⟨d, hd⟩ := lc_ex (xor := true) h3 hM js_ok (by decide) (by decide) (tn_le f hM) (leaf := 1)
            exact ⟨a, b, d, fun _ => ha, fun _ => hb, fun _ => hd⟩
          · exact ⟨0, 0, 0, fun h => absurd h h3, fun h => absurd h h3, fun h => absurd h h3⟩
        have hM : (2 ^ 2 ^ k - 1) + 1 = 2 ^ 2 ^ k := by have := Nat.two_pow_pos (2 ^ k); omega
        have hnb := nech_blocks (t := t) (f := f) (n := k) (jtp Z tl) fun u _ => hfv u
        have hsum : ¬ (wrap64 (4 * ((t.size : Nat) : Int)) < sums f k (bkz (dpd ((List.range (2 ^ k)).map f) k) (jtp Z tl) k)) := by
          rw [wr_mid (by omega) (by omega)]; omega
        refine sizes_ok (f := f) (dp := dpd ((List.range (2 ^ k)).map f) k) (X := (X : Int)) (Y := (Y : Int)) (S := sums f k (bkz (dpd ((List.range (2 ^ k)).map f) k) (jtp Z tl) k)) (b5 := t.has 5) HG HV HI (decide_eq_false b1) (decide_eq_false b2) (decide_eq_false b3) (decide_eq_false b4) (decide_eq_false (by omega)) h256 hNp hZ (fun W' hW => ?_) HS HX (fun w tv hb => ?_) (fun q1 q2 q3 w tv va vb hb hva hvb => ?_) ?_ (fun w tv v hv hb => ?_) (fun w tv A' c' hb hc' hC' => ?_) hsum HD (ls := ls) (ld := ld) (bi := bi) (fun w tv h3 hb => ls_c h3 hM hb (hLs h3)) (fun w tv h3 hb => ld_c h3 hM hb (hLd h3)) (fun w tv h3 hb => bi_c h3 hM hb (hBi h3)) (fun h3 => ?_) (fun h3 h5 => ?_)
        · refine (truth_any hk (hf.keep hW) ho16).mono fun e W2 h => ?_
          obtain ⟨a, d, e1, e2, _, e4⟩ := h
          exact ⟨a, d, e1, e2.congr fun u _ => (hfv u).symm, e4⟩
        · obtain ⟨a, cc, rfl⟩ := hb.shape
          obtain ⟨a', c', e1, _, _, e4, _⟩ := hb.ex
          cases e1
          obtain ⟨b, rfl⟩ := e4 hNp
          refine (bools_some hb (by omega)).mono fun e w' h => ?_
          obtain ⟨v, h1, h2, h3⟩ := h
          obtain ⟨a2, c2, rfl⟩ := h2.shape
          exact ⟨a2, c2, h1, h2, h3⟩
        · have h := khr_ok hb hva hvb (by omega) (by omega) (by omega) (inp_pow hk) (al_of q1 (laz_rise _ _ _) fun y hy => laz_mem hy) (al_of q2 (lbz_rise _ _ _) fun y hy => lbz_mem hy)
          rw [← hes, ← hla, ← hlb] at h
          rw [hX q3, hY q3] 
          rw [Int.natCast_mul, Int.natCast_mul]
          exact h
        · rw [mul_mid hsz3 hXY.2]
          have := hXY.1
          omega
        · obtain ⟨a, cc, rfl⟩ := hb.shape
          have hCt := hb.C
          have hdl : 2 ^ k ≤ cc := by obtain ⟨a', c', e1, e2, _⟩ := hb.ex; cases e1; exact e2
          have hlen : ((List.range (2 ^ k)).map f).length = 2 ^ k := by simp
          have h := depends_any hCt (by rw [hlen]; exact hdl) hlen hv hk
          rw [hlen] at h
          exact h
        · obtain ⟨a, cc, rfl⟩ := hb.shape
          refine (nech_ok hb hk hC' (bkz_sm _ _ (by omega)) (bkz_chk _ _ _)).mono fun e w' h => ?_
          obtain ⟨A2, c2, h1, _, h3⟩ := h
          exact ⟨_, h1, h3⟩
        · have hd := fx_der h3 hM (leaf := 1) (xor := true) (J := Js) hok (.inl rfl)
          rw [cst_size] at hd
          exact (hBi h3).m _ (by rw [hfd]; exact hd)
        · have hd := fx_der h3 hM (leaf := 1) (xor := false) (J := Js) hok (.inr h5)
          rw [cst_size] at hd
          have hd2 := fx_der h3 hM (leaf := 0) (xor := false) (J := Jm) hok (.inr h5)
          rw [cst_dep ho16 h5] at hd2
          exact ⟨(hLs h3).m _ (by rw [hfd]; exact hd), (hLd h3).m _ (by rw [hfd]; exact hd2)⟩
theorem sizes_all {W : World} {x : S24} {A T : Option Addr} {c tl tc : Nat} {Z : Nat → Int} (hC : Kd.C k24 W A x.f2.length x.f2) (hl : x.f2.length ≤ c) (n : Int) (hZ : Is W (.slice T tl tc) tl Z) (h1 : T = none → tc = 0) (h2 : tl ≤ 2 ^ 50) : Calls Try.prog 7 #[fArg x A c, I n, .slice T tl tc] W fun e W' => e = .returned (.bool true) ∧ Below W.heap.size W W' := sizes_law hC hl n hZ
end Go.Proofs.Ytpfbommaddaijaa

