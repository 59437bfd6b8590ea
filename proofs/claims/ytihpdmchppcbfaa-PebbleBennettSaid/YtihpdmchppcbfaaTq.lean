/- The program's Count: the pebbles of a complete play. -/
import Derived.Test.YtihpdmchppcbfaaTp
namespace Go.Proofs.Ytihpdmchppcbfaa
open Go.RowKit
set_option linter.unusedVariables false
set_option linter.unusedSimpArgs false

theorem cnt_upd {f : Nat → Bool} {x : Nat} {p : Bool} (h : f x ≠ p) : ∀ i, (cnt (upd f (p, (x : Int))) i : Int) = if x < i then step1 (p, (x : Int)) (cnt f i : Nat) else (cnt f i : Nat)
  | 0 => by simp [cnt]
  | i + 1 => by
    have ih := cnt_upd h i
    simp only [cnt]
    have hu : upd f (p, (x : Int)) i = if i = x then p else f i := by simp [upd]
    rw [hu]
    by_cases hx : i = x
    · subst hx
      rw [if_neg (Nat.lt_irrefl _)] at ih
      rw [if_pos rfl, if_pos (Nat.lt_succ_self _)]
      cases p with
      | true =>
        have : f i = false := by simpa using h
        simp [this, step1]
        omega
      | false =>
        have : f i = true := by simpa using h
        simp [this, step1]
        omega
    · rw [if_neg hx]
      by_cases hl : x < i
      · have h1 : x < i + 1 := by omega
        simp only [hl, if_true] at ih
        simp only [h1, if_true]
        simp only [step1] at ih ⊢
        cases f i <;> cases p <;> simp at ih ⊢ <;> omega
      · have h1 : ¬ x < i + 1 := by omega
        simp only [hl, if_false] at ih
        simp only [h1, if_false]
        cases f i <;> simp <;> omega
theorem cnt_all_false {f : Nat → Bool} : ∀ i, cnt f i = 0 → ∀ v, v < i → f v = false
  | 0, _, v, hv => by omega
  | i + 1, h, v, hv => by
    simp only [cnt] at h
    by_cases e : v = i
    · subst e
      cases hf : f v with
      | false => rfl
      | true => rw [hf] at h; simp at h
    · exact cnt_all_false i (by omega) v (by omega)
theorem cnt_false {f : Nat → Bool} : ∀ i, (∀ v, v < i → f v = false) → cnt f i = 0
  | 0, _ => rfl
  | i + 1, h => by
    simp only [cnt]
    rw [cnt_false i (fun v hv => h v (by omega)), h i (by omega)]
    simp
theorem one_iff {f : Nat → Bool} {n : Nat} (hn : 1 ≤ n) : (cnt f n = 1 ∧ f (n - 1) = true) ↔ ∀ u, u < n → f u = decide (u = n - 1) := by
  obtain ⟨m, rfl⟩ : ∃ m, n = m + 1 := ⟨n - 1, by omega⟩
  simp only [Nat.add_sub_cancel]
  constructor
  · intro ⟨h1, h2⟩ u hu
    simp only [cnt, h2, if_true] at h1
    by_cases e : u = m
    · subst e; simp [h2]
    · rw [cnt_all_false (f := f) m (by omega) u (by omega)]; simp [e]
  · intro h
    have h2 : f m = true := by rw [h m (by omega)]; simp
    refine ⟨?_, h2⟩
    simp only [cnt, h2, if_true]
    rw [cnt_false m (fun v hv => by rw [h v (by omega)]; simp; omega)]
theorem CR_some {n : Nat} (hn : 1 ≤ n) (f : Nat → Bool) (mo : Int) : CR n (some (f, mo)) = if cnt f n = 1 ∧ f (n - 1) = true then (mo, true) else (0, false) := by
  simp only [CR]
  by_cases h : cnt f n = 1 ∧ f (n - 1) = true
  · rw [if_pos ((one_iff hn).1 h), if_pos h]
  · rw [if_neg (fun h' => h ((one_iff hn).2 h')), if_neg h]

open Classical in
/-- what Count returns -/
noncomputable def CNT (n : Nat) (L : Nat → Nat) (Z : Nat → Nat → Int) (rev : Bool) (ms : List (Bool × Int)) : Int × Int :=
  if okDag n L Z then if MV n ms then if (CR n (run L Z rev ms (fun _ => false) 0 0)).2 = true then ((CR n (run L Z rev ms (fun _ => false) 0 0)).1, 0) else (0, 6) else (0, 2) else (0, 1)

set_option maxHeartbeats 8000000 in
set_option maxRecDepth 100000 in
theorem count_ok {w : World} {v pv : Value} {n : Nat} {A : Nat → Option Addr} {L C : Nat → Nat} {Z : Nat → Nat → Int} (hd : Dg w v n A L C Z) (hr : okDag n L Z) {ms : List (Bool × Int)} (hp : Pl w pv ms) (hmv : MV n ms) (rev : Bool) {N E : Int} (hres : (if (CR n (run L Z rev ms (fun _ => false) 0 0)).2 = true then ((CR n (run L Z rev ms (fun _ => false) 0 0)).1, (0 : Int)) else ((0 : Int), (6 : Int))) = (N, E)) :
    Calls Try.prog 27 #[v, pv, .bool rev] w fun e w' => e = .returned (.tuple #[I N, I E]) ∧ Below w.heap.size w w' := by
  have hn1 := hr.1
  have hn1000 := hr.2.1
  have hl := hmv.1
  obtain ⟨a, cap, rfl⟩ : ∃ a cap, v = .slice a n cap := by
    obtain ⟨a, cap, h, _⟩ := hd.top
    exact ⟨a, cap, h⟩
  obtain ⟨pa, pc, rfl⟩ := hp.shape
  have Hd := Lib.hid hd
  have HR := Lib.hid hr
  have HP := Lib.hid hp
  have HMV := Lib.hid hmv
  obtain ⟨R, hR⟩ : ∃ R, R = run L Z rev ms (fun _ => false) 0 0 := ⟨_, rfl⟩
  rw [← hR] at hres
  have HRR := Lib.hid hR
  have HRES := Lib.hid hres
  have hmk := run_make_row' (P := Try.prog) 50 4 (.bool false) 1 Try.underlying50 Try.info4 rfl .i64 .i64 n (by omega) (by omega)
  generalize hk : ms.length = k at *
  have HK := Lib.hid hk
  clear hk hd hr hp hmv hR hres
  go_enter Try.func27, Try.ntmps27
  go_upto_region 1 with fail
  obtain ⟨W0, hW0⟩ : ∃ W0, W0 = w.alloc (.cells #[.slice a n cap] 23) := ⟨_, rfl⟩
  have hB0 : Below w.heap.size w W0 := by rw [hW0]; exact (Below.refl _ _).alloc (Nat.le_refl _) _
  have hb0 : w.heap.size < W0.heap.size := by rw [hW0]; simp
  have c0 : W0.cell? ⟨w.heap.size, 0, none⟩ = some (.slice a n cap) := by rw [hW0]; simp [go_sem]
  rw [← hW0]
  clear hW0
  have HB0 := Lib.hid hB0
  have HV := Lib.hid (valid_any (Hd.out.keep hB0) (r := true) (by simp [HR.out]))
  clear hB0
  have hgt : ¬ (200000 : Int) < k := by omega
  have HC1 : Hid (∀ w1, Below W0.heap.size W0 w1 → w1.cell? ⟨w.heap.size, 0, none⟩ = some (.slice a n cap)) := Lib.hid (fun w1 hb => (hb.cell (p := ⟨w.heap.size, 0, none⟩) hb0).trans c0)
  have HC := Lib.hid (fun (w1 : World) (hb : Below W0.heap.size W0 w1) => cont35 (r := false) (Nat.lt_of_lt_of_le hb0 hb.size) (HC1.out w1 hb) (by omega) (HP.out.keep (HB0.out.trans (hb.mono HB0.out.size))) (by rw [HK.out]; omega) (by simp only [Bool.false_eq_true, false_iff]; exact fun ⟨i, hi, hn⟩ => hn (HMV.out.2 i hi)))
  go_upto_region 5 with (first | (go_at_call 26; refine HV.out.mono ?_; rintro e w1 ⟨rfl, hb1⟩; have HB1 := Lib.hid hb1; have c1 := HC1.out _ hb1; clear hb1) | (go_at_call 35; refine (HC.out _ HB1.out).mono ?_; rintro e w2 ⟨rfl, hb2⟩; have HB2 := Lib.hid (HB1.out.trans (hb2.mono HB1.out.size)); have c2 := HC1.out _ (HB1.out.trans (hb2.mono HB1.out.size)); clear hb2))
  have HBw := Lib.hid (HB0.out.trans (HB2.out.mono HB0.out.size))
  have hsz : w.heap.size < w2.heap.size := Nat.lt_of_lt_of_le hb0 HB2.out.size
  clear HB2 HB1 c1 c0 HC HC1 HV hb0 HB0
  go_upto_region 6 with fail
  obtain ⟨Bn, hBn⟩ : ∃ Bn, Bn = w2.heap.size := ⟨_, rfl⟩
  rw [← hBn]
  obtain ⟨W5, hW5⟩ : ∃ W5, W5 = (w2.alloc (.cells (madeCells #[.bool false] n) 4)).alloc (.cells #[.slice (some ⟨Bn, 0, none⟩) n n] 50) := ⟨_, rfl⟩
  rw [← hW5]
  have hrow : Rw W5 Bn 4 n (fun _ => .bool false) := by
    have h1 := World.rowIs_made w2 (.bool false) n 4
    rw [← hBn] at h1
    obtain ⟨c, e1, e2, e3⟩ := h1
    rw [hW5]
    exact ⟨c, by rw [Deep.blk_alloc_lt _ _ _ (by rw [World.size_alloc]; omega)]; exact e1, by omega, e3⟩
  have hcp : W5.cell? ⟨Bn + 1, 0, none⟩ = some (.slice (some ⟨Bn, 0, none⟩) n n) := by
    rw [hW5, hBn]
    have := Deep.blk_alloc_new (w2.alloc (.cells (madeCells #[.bool false] n) 4)) (.cells #[.slice (some ⟨w2.heap.size, 0, none⟩) n n] 50)
    rw [World.size_alloc] at this
    simp only [World.cell?]
    rw [this]
    rfl
  have hcd : W5.cell? ⟨w.heap.size, 0, none⟩ = some (.slice a n cap) := by
    rw [hW5]
    exact cell_alloc (cell_alloc c2 _) _
  have hB5 : Below w.heap.size w W5 := by
    rw [hW5]
    exact (HBw.out.alloc HBw.out.size _).alloc (by rw [World.size_alloc]; exact Nat.le_succ_of_le HBw.out.size) _
  have hsz5 : Bn + 2 = W5.heap.size := by rw [hW5, hBn]; simp
  have hsz0 : w.heap.size < Bn := by omega
  have HROW := Lib.hid hrow
  have HCP := Lib.hid hcp
  have HCD := Lib.hid hcd
  have HB5 := Lib.hid hB5
  clear hW5 hBn hrow hcp hcd hB5 hmk c2 HBw hsz
  have HS5 : Hid (Bn + 2 ≤ W5.heap.size) := Lib.hid (by omega)
  clear hsz5
  go_wp2
  go_loopw [9, 10, 12, 13, 32] (fun x y _ _ z wr => ∃ (i : Nat) (fi : Nat → Bool) (now most : Int), i ≤ k ∧ x = I now ∧ y = I most ∧ z = I i ∧ -(i : Int) ≤ now ∧ now ≤ i ∧ 0 ≤ most ∧ most ≤ i ∧ Hid (R = run L Z rev (ms.drop i) fi now most) ∧ Hid (now = (cnt fi n : Nat)) ∧ Hid (Rw wr Bn 4 n (fun u => .bool (fi u))) ∧ Hid (wr.cell? ⟨Bn + 1, 0, none⟩ = some (.slice (some ⟨Bn, 0, none⟩) n n)) ∧ Hid (wr.cell? ⟨w.heap.size, 0, none⟩ = some (.slice a n cap)) ∧ Hid (Bn + 2 ≤ wr.heap.size) ∧ Hid (Below w.heap.size w wr)) (fun _ _ _ _ z _ => k - (intOf z).toNat)
  case atStart => exact ⟨0, fun _ => false, 0, 0, by omega, rfl, rfl, rfl, by omega, by omega, by omega, by omega, Lib.hid (by rw [HRR.out]; rfl), Lib.hid (by rw [cnt_zero]; rfl), HROW, HCP, HCD, HS5, HB5⟩
  case round =>
    clear HROW HCP HCD HS5 HB5 HRR
    obtain ⟨i, fi, now, most, hik, rfl, rfl, rfl, b1, b2, b3, b4, HRR, HNOW, hrow, hcp, hcd, hs, hB⟩ := hrel
    by_cases hlt : i < k
    · have hpl := Lib.hid (HP.out.keep hB.out)
      obtain ⟨pb, rfl, cp0, cp1⟩ := hpl.out.at' (i := i) (by rw [HK.out]; exact hlt)
      have hom := HMV.out.2 i (by rw [HK.out]; exact hlt)
      have hdc := drop_cons dm (l := ms) (i := i) (by rw [HK.out]; exact hlt)
      obtain ⟨m, hm⟩ : ∃ m, m = ms.getD i dm := ⟨_, rfl⟩
      rw [← hm] at cp0 cp1 hom hdc
      obtain ⟨x, hx⟩ : ∃ x : Nat, m.2 = x := ⟨m.2.toNat, by have := hom.1; omega⟩
      have hxn : x < n := by have := hom.2; omega
      rw [hx] at cp1
      obtain ⟨p, hp⟩ : ∃ p, p = m.1 := ⟨_, rfl⟩
      rw [← hp] at cp0
      have hmm : m = (p, (x : Int)) := by rw [hp, ← hx]
      have HMM := Lib.hid hmm
      have HDC := Lib.hid hdc
      clear hm hx hp hmm hdc hom
      go_upto_region 10 with fail
      obtain ⟨g, hg⟩ : ∃ g, g = wr.heap.size := ⟨_, rfl⟩
      obtain ⟨W1, hW1⟩ : ∃ W1, W1 = wr.alloc (.cells #[.bool p, I x] 49) := ⟨_, rfl⟩
      have hb1 : Below wr.heap.size wr W1 := by rw [hW1]; exact (Below.refl _ _).alloc (Nat.le_refl _) _
      have cb0 : W1.cell? ⟨g, 0, none⟩ = some (.bool p) := by rw [hW1, hg]; simp [go_sem]
      have cb1 : W1.cell? ⟨g, 1, none⟩ = some (I x) := by rw [hW1, hg]; simp [go_sem]
      rw [← hW1, ← hg]
      have hgs : Bn + 2 ≤ g := by rw [hg]; exact hs.out
      have HS1 : Hid (Bn + 2 ≤ W1.heap.size) := Lib.hid (Nat.le_trans hs.out hb1.size)
      have HB1 := Lib.hid (hB.out.trans (hb1.mono hB.out.size))
      have hrow1 := Lib.hid (hrow.out.keep hb1)
      have hcp1 := (hb1.cell (p := ⟨Bn + 1, 0, none⟩) (by have := hs.out; show Bn + 1 < _; omega)).trans hcp.out
      have hcd1 := (hb1.cell (p := ⟨w.heap.size, 0, none⟩) (by have := hs.out; show w.heap.size < _; omega)).trans hcd.out
      clear hb1 hW1 hg hrow hcp hcd hs hB hpl cp0 cp1
      have hd := Lib.hid (Hd.out.keep HB1.out)
      have hbs := Lib.hid (rw_bs hrow1.out (Nat.le_refl n) (by unfold maxLen; omega))
      obtain ⟨ad, rfl⟩ : ∃ ad, a = some ad := by
        obtain ⟨a', c', e1, _, _, e4, _⟩ := hd.out.top
        cases e1
        cases a with
        | none => have := e4 rfl; omega
        | some b => exact ⟨b, rfl⟩
      have hck := hd.out.outer hxn
      have hx1 : (0 : Int) ≤ x := by omega
      have hx2 : (x : Int) < n := by omega
      obtain ⟨fr, hfr⟩ : ∃ fr : Bool, fr = true ↔ ∃ j, j < L x ∧ fi (Z x j).toNat = false := by
        by_cases h : ∃ j, j < L x ∧ fi (Z x j).toNat = false
        · exact ⟨true, by simp [h]⟩
        · exact ⟨false, by simp [h]⟩
      have HFR := Lib.hid hfr
      have HC37 := Lib.hid (cont37 (C := C x) (w := W1) hcp1 hbs.out (hd.out.row x hxn).2.1 (fun h => by have := hd.out.row x hxn; have := this.2.2.1 h; omega) (hd.out.row x hxn).2.2.2 (fun j hj => by
        have h := HR.out.2.2 x hxn j hj
        exact ⟨(Z x j).toNat, by have := h.1; have := h.2.1; omega, by have := h.1; omega⟩) hfr)
      clear hfr
      go_upto_region 11 with (go_at_call 37; refine HC37.out.mono ?_; rintro e w3 ⟨rfl, rfl⟩)
      obtain ⟨_, e, cf⟩ := hbs.out.at' hxn
      cases e
      obtain ⟨fx, hfx⟩ : ∃ fx, fx = fi x := ⟨_, rfl⟩
      rw [add_z, ← hfx] at cf
      have HFX := Lib.hid hfx
      have frx := hrow1.out.frozen x
      clear hfx HC37 hck
      have HAL : Hid (AL L Z fi (p, (x : Int)) rev ↔ (fx ≠ p ∧ ((p = true ∨ rev = true) → fr = false))) := Lib.hid (by
        unfold AL
        simp only [Int.toNat_natCast]
        rw [HFX.out]
        refine and_congr Iff.rfl ⟨fun h h1 => ?_, fun h h1 j hj => ?_⟩
        · cases fr with
          | false => rfl
          | true =>
            obtain ⟨j, hj, hz⟩ := HFR.out.1 rfl
            rw [h h1 j hj] at hz
            cases hz
        · cases hz : fi (Z x j).toNat with
          | true => rfl
          | false =>
            have := HFR.out.2 ⟨j, hj, hz⟩
            rw [h h1] at this
            cases this)
      clear HFR hbs hd
      obtain ⟨al, hal⟩ : ∃ al : Bool, al = (fx != p && (!(p || rev) || !fr)) := ⟨_, rfl⟩
      have HA : Hid (AL L Z fi (p, (x : Int)) rev ↔ al = true) := Lib.hid (by
        rw [HAL.out, hal]
        cases fx <;> cases p <;> cases rev <;> cases fr <;> simp)
      have Hal := Lib.hid hal
      clear hal HAL
      go_cut [60] from 43 to 76 (fun y wi => y = .bool (!al) ∧ ∃ m, wi = W1.drewN m)
      case first =>
        clear HFX
        have Hy : Hid ((!al) = !(fx != p && (!(p || rev) || !fr))) := Lib.hid (by rw [Hal.out])
        clear Hal HA HRR HMM HDC
        cases fx <;> cases p <;> cases rev <;> cases fr
        all_goals
          go_quiet (fail)
          go_wp2
          go_meet
          exact ⟨by rw [Hy.out]; rfl, _, rfl⟩
      case rest =>
        obtain ⟨rfl, m, rfl⟩ := hcut
        cases al with
        | false =>
          have HRN : Hid (R = none) := Lib.hid (by rw [HRR.out, HDC.out, HMM.out, run, if_neg (fun h => by have := HA.out.1 h; cases this)])
          clear HA HRR Hal
          have he : N = 0 ∧ E = 6 := by
            have h := HRES.out
            rw [HRN.out] at h
            simp [CR] at h
            exact ⟨h.1.symm, h.2.symm⟩
          obtain ⟨rfl, rfl⟩ := he
          go_wp2
          go_ret2
          exact ⟨rfl, below_drewN HB1.out _⟩
        | true =>
          have hne : fi x ≠ p := (HA.out.2 rfl).1 |> fun h => by simpa using h
          have hcn := cnt_upd (f := fi) (x := x) (p := p) hne n
          rw [if_pos hxn] at hcn
          have HCN := Lib.hid hcn
          have HRN : Hid (R = run L Z rev (ms.drop (i + 1)) (upd fi (p, (x : Int))) (step1 (p, (x : Int)) now) (max most (step1 (p, (x : Int)) now))) := Lib.hid (by rw [HRR.out, HDC.out, HMM.out, run, if_pos (HA.out.2 rfl)])
          clear HA HRR Hal hne hcn
          have cf' := (hrow1.out.drew m).cell hxn
          have fr' := (hrow1.out.drew m).frozen x
          go_upto_region 14 with fail
          obtain ⟨W2, hW2⟩ : ∃ W2, W2 = (W1.drewN m).setCell ⟨Bn, x, none⟩ (.bool p) := ⟨_, rfl⟩
          have NR : Rw W2 Bn 4 n (fun u => .bool (upd fi (p, (x : Int)) u)) := by
            rw [hW2]
            exact (hrow1.out.drew m).set x (.bool p) (fun u => by simp only [upd, Int.toNat_natCast]; split <;> rfl)
          have NB : Below w.heap.size w W2 := by
            rw [hW2]
            exact (below_drewN HB1.out m).setCell (p := ⟨Bn, x, none⟩) (Nat.le_of_lt hsz0) (.bool p)
          have oth : ∀ b o v, b ≠ Bn → W1.cell? ⟨b, o, none⟩ = some v → W2.cell? ⟨b, o, none⟩ = some v := fun b o v hb hv => by
            rw [hW2, ← hv]
            exact World.cell?_of_block (Deep.blk_setCell_other _ _ _ _ (fun h => hb h))
          have d0 := oth g 0 _ (by omega) cb0
          have d1 := oth g 1 _ (by omega) cb1
          have dcp := oth (Bn + 1) 0 _ (by omega) hcp1
          have dcd := oth w.heap.size 0 _ (by omega) hcd1
          have hS2 : Bn + 2 ≤ W2.heap.size := by rw [hW2, Deep.nblk_setCell]; exact HS1.out
          rw [← hW2]
          have NR := Lib.hid NR
          have NB := Lib.hid NB
          have NCP := Lib.hid dcp
          have NCD := Lib.hid dcd
          have NS := Lib.hid hS2
          clear oth hW2 cf' fr' cb0 cb1 hcp1 hcd1 frx cf hrow1 HB1 d1 hS2
          have hcl := cnt_le (upd fi (p, (x : Int))) n
          cases p with
          | true =>
            go_wp2
            go_roundw
            case rel => exact ⟨i + 1, _, now + 1, max most (now + 1), by omega, rfl, by rw [max_if], by go_num, by omega, by omega, by omega, by omega, by simpa [step1] using HRN, Lib.hid (by rw [HCN.out, HNOW.out]; simp [step1]), NR, NCP, NCD, NS, NB⟩
            case measure => simp [intOf]; omega
          | false =>
            go_wp2
            go_roundw
            case rel => exact ⟨i + 1, _, now - 1, max most (now - 1), by omega, rfl, by rw [max_if], by go_num, by omega, by omega, by omega, by omega, by simpa [step1] using HRN, Lib.hid (by rw [HCN.out, HNOW.out]; simp [step1]), NR, NCP, NCD, NS, NB⟩
            case measure => simp [intOf]; omega
    · obtain rfl : i = k := by omega
      have HRN : Hid (R = some (fi, most)) := Lib.hid (by
        have : ms.drop i = [] := List.drop_eq_nil_of_le (by rw [HK.out]; exact Nat.le_refl _)
        rw [HRR.out, this]; rfl)
      have hnow := HNOW.out
      have cl := hrow.out.cell (i := n - 1) (by omega)
      have hz1 : (0 : Int) ≤ (n : Int) - 1 := by omega
      have hz2 : (n : Int) - 1 < n := by omega
      have hz3 : ((n : Int) - 1).toNat = n - 1 := by omega
      have hz4 : 1 ≤ (n : Int) := by omega
      obtain ⟨fl, hfl⟩ : ∃ fl, fl = fi (n - 1) := ⟨_, rfl⟩
      rw [← hfl] at cl
      have HRS := HRES.out
      rw [HRN.out, CR_some hn1, ← hfl] at HRS
      have HRS := Lib.hid HRS
      generalize cnt fi n = c at *
      clear HRN HRES hfl HRR HNOW
      have hcp := hcp.out
      have hcd := hcd.out
      by_cases hc1 : c = 1
      · have hn1' : (now != 1) = false := by simp [hnow, hc1]
        cases fl with
        | true =>
          have he : N = most ∧ E = 0 := by
            have h := HRS.out
            simp [hc1] at h
            exact ⟨h.1.symm, h.2.symm⟩
          obtain ⟨rfl, rfl⟩ := he
          clear hnow HRS
          go_wp2
          go_ret2
          exact ⟨rfl, hB.out⟩
        | false =>
          have he : N = 0 ∧ E = 6 := by
            have h := HRS.out
            simp at h
            exact ⟨h.1.symm, h.2.symm⟩
          obtain ⟨rfl, rfl⟩ := he
          clear hnow HRS
          go_wp2
          go_ret2
          exact ⟨rfl, hB.out⟩
      · have hn1' : (now != 1) = true := by simp [hnow]; omega
        have he : N = 0 ∧ E = 6 := by
          have h := HRS.out
          simp [hc1] at h
          exact ⟨h.1.symm, h.2.symm⟩
        obtain ⟨rfl, rfl⟩ := he
        clear hnow HRS
        go_wp2
        go_ret2
        exact ⟨rfl, hB.out⟩
end Go.Proofs.Ytihpdmchppcbfaa
