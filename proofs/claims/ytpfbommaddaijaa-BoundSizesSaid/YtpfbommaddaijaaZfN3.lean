/- Nechiporuk: the walk; The law BoundNechiporuk; The law BoundNechiporuk: blocks that are not as asked; blocks that are. -/
import Derived.Test.YtpfbommaddaijaaZfN2
import Derived.Deep.RegionHeld3
namespace Go.Proofs.Ytpfbommaddaijaa
open Go.RowKit Go.Proofs.YtpfbommaddaijaaW.PrintWords PBoundNechiporuk
set_option linter.unusedVariables false
set_option linter.unusedSimpArgs false

theorem sums_snoc (f : Nat → Bool) (n : Nat) (r : List Int) : ∀ l, sums f n (l ++ [r]) = sums f n l + (((bl 13 (cntR f n r) : Nat) : Int) - 1)
  | [] => by simp [sums]
  | a :: l => by simp only [List.cons_append, sums, sums_snoc f n r l]; omega
theorem bl_pos {x : Nat} (h : 1 ≤ x) : 1 ≤ bl 13 x := by rw [bl_half (by omega)]; omega
theorem sums_le (f : Nat → Bool) (n : Nat) : ∀ l, 0 ≤ sums f n l ∧ sums f n l ≤ 12 * l.length
  | [] => by simp [sums]
  | a :: l => by
    have := sums_le f n l
    have h1 := bl_le 13 (cntR f n a)
    have h2 := bl_pos (cntR_pos f n a)
    simp only [sums, List.length_cons]
    omega
def Sk (n S : Nat) (met : List Int) : Prop := S < 2 ^ n ∧ ∀ v : Nat, v < n → S.testBit v = decide ((v : Int) ∈ met)
theorem Sk.set {n S : Nat} {met : List Int} (h : Sk n S met) {v : Nat} (hv : v < n) : Sk n (S ||| 2 ^ v) ((v : Int) :: met) := by
  refine ⟨Nat.or_lt_two_pow h.1 (Nat.pow_lt_pow_right (by decide) hv), fun u hu => ?_⟩
  rw [Nat.testBit_or, Nat.testBit_two_pow, h.2 u hu]
  by_cases e : v = u
  · subst e; simp
  · have : ¬ (u : Int) = v := by omega
    simp [e, this]
def RN (w : World) (b : Bool) (CL : List Int) (S : Int) (e : Ending) (w' : World) : Prop :=
  (b = false ∧ e = .returned (.tuple #[.slice none 0 0, I 0, I 2]) ∨ b = true ∧ ∃ v, e = .returned (.tuple #[v, I S, I 0]) ∧ Kd.R (Kd.int .i64) 3 w' w.heap.size (fun _ => True) v CL) ∧ Below w.heap.size w w'
/-- what the rest of a block's numbers and the blocks behind say -/
def rest (n : Int) (l : List (List Int)) (i : Nat) (met : List Int) (r : List Int) (j : Nat) : Bool := match rowChk n met (prev r j) (r.drop j) with
  | none => false
  | some m => blkChk n m (l.drop (i + 1))
theorem rest_bad {n : Int} {l : List (List Int)} {i : Nat} {met : List Int} {r : List Int} {j : Nat} (hj : j < r.length) (h : r.getD j 0 < 0 ∨ n ≤ r.getD j 0 ∨ r.getD j 0 ∈ met ∨ lePrev (prev r j) (r.getD j 0) = true) : rest n l i met r j = false := by
  unfold rest
  rw [drop_next _ hj, rowChk, if_pos h]
theorem rest_good {n : Int} {l : List (List Int)} {i : Nat} {met : List Int} {r : List Int} {j : Nat} (hj : j < r.length) (h : ¬ (r.getD j 0 < 0 ∨ n ≤ r.getD j 0 ∨ r.getD j 0 ∈ met ∨ lePrev (prev r j) (r.getD j 0) = true)) : rest n l i met r j = rest n l i (r.getD j 0 :: met) r (j + 1) := by
  unfold rest
  rw [drop_next _ hj, rowChk, if_neg h]
  simp [prev]
theorem rest_end {n : Int} {l : List (List Int)} {i : Nat} {met : List Int} {r : List Int} : rest n l i met r r.length = blkChk n met (l.drop (i + 1)) := by
  unfold rest
  rw [List.drop_length, rowChk]
theorem rest_start {n : Int} {l : List (List Int)} {i : Nat} {met : List Int} (hi : i < l.length) (hr : l.getD i [] ≠ []) : blkChk n met (l.drop i) = rest n l i met (l.getD i []) 0 := by
  rw [drop_nextL _ hi, blkChk, if_neg hr]
  rfl
theorem rest_none {n : Int} {l : List (List Int)} {i : Nat} {met : List Int} (hi : i < l.length) (hr : l.getD i [] = []) : blkChk n met (l.drop i) = false := by
  rw [drop_nextL _ hi, blkChk, if_pos hr]
set_option maxHeartbeats 8000000 in
set_option maxRecDepth 100000 in
theorem nech_any {w : World} {ta A : Option Addr} {tc c n : Nat} {f : Nat → Bool} {l : List (List Int)} (ht : Bs w (.slice ta (2 ^ n) tc) (2 ^ n) f) (hn : n ≤ 12) (hl : Kd.C (Kd.slice 3 (Kd.int .i64)) w A l.length l) (hs : Sm l) :
    Calls Try.prog 40 #[.slice ta (2 ^ n) tc, .slice A l.length c] w (RN w (blkChk n [] l) (cnts f n l) (sums f n l)) := by
  obtain ⟨b, hb⟩ : ∃ b, b = blkChk n [] l := ⟨_, rfl⟩
  have HBL0 : Hid (blkChk n [] (l.drop 0) = b) := Lib.hid (by rw [hb]; rfl)
  have HBB := Lib.hid hb
  rw [← hb]
  have HT := Lib.hid ht
  have HL := Lib.hid hl
  have HSL := Lib.hid hs
  have hp12 : 2 ^ n ≤ 4096 := Nat.pow_le_pow_right (n := 2) (by decide) hn
  have HI := Lib.hid (fun w : World => inputs_any (w := w) (a := ta) (len := 2 ^ n) (cap := tc) (by omega) (inp_pow hn))
  have hlen := hs.len
  have HSK0 : Hid (Sk n 0 []) := Lib.hid ⟨Nat.two_pow_pos n, fun v _ => by simp⟩
  have hn0 : (0 : Int) ≤ n := by omega
  obtain ⟨N, hN⟩ : ∃ N, N = 2 ^ n := ⟨_, rfl⟩
  have HN := Lib.hid hN
  rw [← hN] at HT HI hp12 ⊢
  obtain ⟨L, hL⟩ : ∃ L, L = l.length := ⟨_, rfl⟩
  have HLL := Lib.hid hL
  rw [← hL] at HL hlen ⊢
  clear ht hl hs hb hN hL
  go_enter Try.func40, Try.ntmps40
  go_wp2_with (go_at_call 84; refine (HI.out _).mono ?_; rintro e w' ⟨rfl, mm, rfl⟩)
  go_loopw [9, 31] (fun s x wr => ∃ (i : Nat) (met : List Int) (S m : Nat), i ≤ L ∧ s = I S ∧ x = I i ∧ Hid (Sk n S met) ∧ Hid (blkChk n met (l.drop i) = b) ∧ wr = w.drewN m) (fun _ x _ => L - (intOf x).toNat)
  case atStart => exact ⟨0, [], 0, _, by omega, rfl, rfl, HSK0, HBL0, rfl⟩
  case round =>
    clear HSK0 HBL0
    obtain ⟨i, met, S, m, hi, rfl, rfl, HSK, HBL, rfl⟩ := hrel
    by_cases hiL : i < L
    · have hi0 : (0 : Int) ≤ i := by omega
      have hi1 : (i : Int) < L := by omega
      obtain ⟨ad, A0, c0, rfl, hrc, hrn⟩ := rowAt HL.out hiL
      have HRN := Lib.hid hrn
      have hre := HSL.out.each i
      have HRS : Hid (l.getD i [] ≠ [] → rest n l i met (l.getD i []) 0 = b) := Lib.hid (fun h => (rest_start (by rw [← HLL.out]; exact hiL) h).symm.trans HBL.out)
      have HRZ : Hid (l.getD i [] = [] → b = false) := Lib.hid (fun h => HBL.out.symm.trans (rest_none (by rw [← HLL.out]; exact hiL) h))
      have HRE : Hid (∀ met', rest n l i met' (l.getD i []) (l.getD i []).length = blkChk n met' (l.drop (i + 1))) := Lib.hid (fun met' => rest_end)
      clear hrn HBL
      generalize hr : l.getD i [] = r at *
      clear hr
      have HRP : Hid (r.length = 0 → r = []) := Lib.hid List.eq_nil_of_length_eq_zero
      obtain ⟨R, hR⟩ : ∃ R, R = r.length := ⟨_, rfl⟩
      have HRL := Lib.hid hR
      rw [← hR] at hrc HRN hre HRE HRP
      clear hR
      go_wp2
      go_loopw [9, 37] (fun s x wr => ∃ (j : Nat) (met : List Int) (S m : Nat), j ≤ R ∧ s = I S ∧ x = I j ∧ Hid (Sk n S met) ∧ Hid (r ≠ [] → rest n l i met r j = b) ∧ wr = w.drewN m) (fun _ x _ => R - (intOf x).toNat)
      case atStart => exact ⟨0, met, S, _, by omega, rfl, rfl, HSK, HRS, rfl⟩
      case round =>
        clear HSK HRS
        obtain ⟨j, met, S, m, hj, rfl, rfl, HSK, HRS, rfl⟩ := hrel
        by_cases hjR : j < R
        · obtain ⟨eb, rfl, ce⟩ := HRN.out.at' hjR
          have hj0 : (0 : Int) ≤ j := by omega
          have hj1 : (j : Int) < R := by omega
          have hrne : r ≠ [] := fun e => by rw [HRL.out, e] at hjR; simp at hjR
          have HBd : Hid (r.getD j 0 < 0 ∨ (n : Int) ≤ r.getD j 0 ∨ r.getD j 0 ∈ met ∨ lePrev (prev r j) (r.getD j 0) = true → b = false) := Lib.hid (fun h => (HRS.out hrne).symm.trans (rest_bad (by rw [← HRL.out]; exact hjR) h))
          have HG : Hid (¬ (r.getD j 0 < 0 ∨ (n : Int) ≤ r.getD j 0 ∨ r.getD j 0 ∈ met ∨ lePrev (prev r j) (r.getD j 0) = true) → rest n l i (r.getD j 0 :: met) r (j + 1) = b) := Lib.hid (fun h => (rest_good (by rw [← HRL.out]; exact hjR) h).symm.trans (HRS.out hrne))
          have hS := HSK.out.1
          rw [← HN.out] at hS
          clear hrne HRS
          generalize r.getD j 0 = v at *
          by_cases c1 : v < 0
          · have d1 : decide (v < 0) = true := decide_eq_true c1
            clear HG
            go_wp2
            go_ret3
            exact ⟨.inl ⟨HBd.out (.inl c1), rfl⟩, below_drewN (Below.refl _ _) _⟩
          have d1 : decide (v < 0) = false := decide_eq_false c1
          by_cases c2 : (n : Int) ≤ v
          · have d2 : decide ((n : Int) ≤ v) = true := decide_eq_true c2
            clear HG
            go_wp2
            go_ret3
            exact ⟨.inl ⟨HBd.out (.inr (.inl c2)), rfl⟩, below_drewN (Below.refl _ _) _⟩
          have d2 : decide ((n : Int) ≤ v) = false := decide_eq_false c2
          obtain ⟨vn, rfl⟩ : ∃ vn : Nat, v = vn := ⟨v.toNat, by omega⟩
          have hvn : vn < n := by omega
          have hvn0 : (0 : Int) ≤ vn := by omega
          have htb := HSK.out.2 vn hvn
          have hsa := shr_and (y := S) (i := vn) (by omega)
          have hpl : 2 ^ vn < 8192 := Nat.lt_of_lt_of_le (Nat.pow_lt_pow_right (by decide) (show vn < 12 by omega)) (by decide)
          have hw := w2i vn (by omega)
          have hor := or_k (a := S) (b := 2 ^ vn) (by omega) hpl
          have HSV := Lib.hid (HSK.out.set hvn)
          clear HSK
          generalize 2 ^ vn = V at *
          by_cases c3 : (vn : Int) ∈ met
          · have hsa' : bits BinOp.and IntKind.i64 ((S : Int) / 2 ^ vn) 1 = 1 := by rw [hsa, htb]; simp [c3]
            clear hsa htb
            by_cases hz : j = 0
            · subst hz
              have ce0 : w.cell? eb = some (I (vn : Int)) := by simpa [Addr.add] using ce
              clear HG
              go_wp2
              go_ret3
              exact ⟨.inl ⟨HBd.out (.inr (.inr (.inl c3))), rfl⟩, below_drewN (Below.refl _ _) _⟩
            · have di : decide ((0 : Int) < (j : Int)) = true := decide_eq_true (by omega)
              obtain ⟨eb', e1, cp⟩ := HRN.out.at' (i := j - 1) (by omega)
              cases e1
              have hip : (0 : Int) < j := by omega
              have hip1 : (0 : Int) ≤ (j : Int) - 1 := by omega
              have hip2 : (j : Int) - 1 < R := by omega
              have hip3 : ((j : Int) - 1).toNat = j - 1 := by omega
              clear hz
              generalize r.getD (j - 1) 0 = y at *
              by_cases c4 : (vn : Int) ≤ y
              · have d4 : decide ((vn : Int) ≤ y) = true := decide_eq_true c4
                clear HG
                go_wp2
                go_ret3
                exact ⟨.inl ⟨HBd.out (.inr (.inr (.inl c3))), rfl⟩, below_drewN (Below.refl _ _) _⟩
              · have d4 : decide ((vn : Int) ≤ y) = false := decide_eq_false c4
                clear HG
                go_wp2
                go_ret3
                exact ⟨.inl ⟨HBd.out (.inr (.inr (.inl c3))), rfl⟩, below_drewN (Below.refl _ _) _⟩
          · have hsa' : bits BinOp.and IntKind.i64 ((S : Int) / 2 ^ vn) 1 = 0 := by rw [hsa, htb]; simp [c3]
            clear hsa htb
            by_cases hz : j = 0
            · subst hz
              have ce0 : w.cell? eb = some (I (vn : Int)) := by simpa [Addr.add] using ce
              have hlp : Hid (lePrev (prev r 0) (vn : Int) = false) := Lib.hid (by simp [prev, lePrev])
              have HGG : Hid (rest n l i ((vn : Int) :: met) r (0 + 1) = b) := Lib.hid (HG.out (fun h => by rcases h with h | h | h | h; exact c1 h; exact c2 h; exact c3 h; rw [hlp.out] at h; cases h))
              clear HG HBd
              go_wp2
              go_roundw
              case rel => exact ⟨0 + 1, _, _, _, by omega, rfl, by go_num, HSV, Lib.hid (fun _ => HGG.out), rfl⟩
              case measure => simp [intOf]; omega
            · have di : decide ((0 : Int) < (j : Int)) = true := decide_eq_true (by omega)
              obtain ⟨eb', e1, cp⟩ := HRN.out.at' (i := j - 1) (by omega)
              cases e1
              have hip : (0 : Int) < j := by omega
              have hip1 : (0 : Int) ≤ (j : Int) - 1 := by omega
              have hip2 : (j : Int) - 1 < R := by omega
              have hip3 : ((j : Int) - 1).toNat = j - 1 := by omega
              have hlp : Hid (lePrev (prev r j) (vn : Int) = decide ((vn : Int) ≤ r.getD (j - 1) 0)) := Lib.hid (by simp [prev, hz, lePrev])
              clear hz
              generalize r.getD (j - 1) 0 = y at *
              by_cases c4 : (vn : Int) ≤ y
              · have d4 : decide ((vn : Int) ≤ y) = true := decide_eq_true c4
                clear HG
                go_wp2
                go_ret3
                exact ⟨.inl ⟨HBd.out (.inr (.inr (.inr (by rw [hlp.out]; exact d4)))), rfl⟩, below_drewN (Below.refl _ _) _⟩
              · have d4 : decide ((vn : Int) ≤ y) = false := decide_eq_false c4
                have HGG : Hid (rest n l i ((vn : Int) :: met) r (j + 1) = b) := Lib.hid (HG.out (fun h => by rcases h with h | h | h | h; exact c1 h; exact c2 h; exact c3 h; rw [hlp.out, d4] at h; cases h))
                clear HG HBd
                go_wp2
                go_roundw
                case rel => exact ⟨j + 1, _, _, _, by omega, rfl, by go_num, HSV, Lib.hid (fun _ => HGG.out), rfl⟩
                case measure => simp [intOf]; omega
        · obtain rfl : j = R := by omega
          by_cases hz : j = 0
          · have hres : Hid (b = false) := Lib.hid (HRZ.out (HRP.out hz))
            subst hz
            go_wp2
            go_ret3
            exact ⟨.inl ⟨hres.out, rfl⟩, below_drewN (Below.refl _ _) _⟩
          · have hne : ((j : Int) == 0) = false := by simp; omega
            have HNX : Hid (blkChk n met (l.drop (i + 1)) = b) := Lib.hid ((HRE.out met).symm.trans (HRS.out (fun e => hz (by rw [HRL.out, e]; rfl))))
            clear hz
            go_wp2
            go_roundw
            case rel => exact ⟨i + 1, met, S, _, by omega, rfl, by go_num, HSK, HNX, rfl⟩
            case measure => simp [intOf]; omega
    · obtain rfl : L = i := by omega
      have hbt : b = true := by rw [← HBL.out, List.drop_eq_nil_of_le (by rw [← HLL.out]; omega), blkChk]
      subst hbt
      have HROW : Hid (∀ i, i < L → Blk (fun j => (l.getD i []).getD j 0) (pl (l.getD i [])) (l.getD i []).length n ∧ (l.getD i []).length ≤ n) := Lib.hid (fun i hi => by
        obtain ⟨h1, met', m', h2⟩ := blk_row HBB.out.symm i (by rw [← HLL.out]; exact hi)
        exact row_blk h2 h1)
      clear HSK HBL HBB HI
      go_wp2
      go_loopw [14, 15, 80] (fun vv s x wr => ∃ (i : Nat) (v : Value), i ≤ L ∧ vv = v ∧ s = I (sums f n (l.take i)) ∧ x = I i ∧ Hid (Kd.R (Kd.int .i64) 3 wr w.heap.size (fun _ => True) v (cnts f n (l.take i))) ∧ Hid (Below w.heap.size w wr)) (fun _ _ x _ => L - (intOf x).toNat)
      case atStart => exact ⟨0, _, by omega, rfl, rfl, rfl, Lib.hid (Kd.R_nil _ _ _ _ _), Lib.hid (below_drewN (Below.refl _ _) _)⟩
      case round =>
        obtain ⟨i, v14, hi, hv14, rfl, rfl, HO, HB⟩ := hrel
        subst hv14
        by_cases hiL : i < L
        · have hi0 : (0 : Int) ≤ i := by omega
          have hi1 : (i : Int) < L := by omega
          obtain ⟨ad, A0, c0, rfl, hrc, hrn⟩ := rowAt (Kd.C_below HL.out HB.out) hiL
          have HRN := Lib.hid hrn
          obtain ⟨hbk, hrn12⟩ := HROW.out i hiL
          have HBK := Lib.hid hbk
          have HTN := take_next l (show i < l.length by rw [← HLL.out]; exact hiL)
          have HSN : Hid (sums f n (l.take (i + 1)) = sums f n (l.take i) + (((bl 13 (cntR f n (l.getD i [])) : Nat) : Int) - 1)) := Lib.hid (by rw [HTN, sums_snoc])
          have HCN : Hid (cnts f n (l.take (i + 1)) = cnts f n (l.take i) ++ [(cntR f n (l.getD i []) : Int)]) := Lib.hid (by rw [HTN]; simp [cnts])
          have HLE : Hid ((cnts f n (l.take i)).length = i) := Lib.hid (by simp [cnts]; rw [← HLL.out]; omega)
          have hsl := sums_le f n (l.take i)
          have htl : (l.take i).length = i := by simp; rw [← HLL.out]; omega
          rw [htl] at hsl
          have hC1 := cntR_pos f n (l.getD i [])
          have hC2 := cntR_le f hn (l.getD i [])
          clear hrn hbk HTN htl
          generalize l.getD i [] = r at *
          have HSUB : Hid (∀ W, Below w.heap.size w W → Calls Try.prog 85 #[.slice ta N tc, I (msk (pl r) r.length)] W (RF W (cntR f n r))) := Lib.hid (fun W hB => by
            have h := HT.out.keep hB
            rw [HN.out] at h ⊢
            exact subfunctions_any h HBK.out.lt HBK.out.rise hn (by omega))
          have hbl1 := bl_le 13 (cntR f n r)
          have hbl2 := bl_pos hC1
          have HLEN := Lib.hid (fun w : World => len_any (w := w) (cntR f n r) (by omega))
          generalize cntR f n r = C at *
          generalize sums f n (l.take i) = SU at *
          generalize cnts f n (l.take i) = XS at *
          generalize bl 13 C = BL at *
          have HRR := Lib.hid (show ∃ R, R = r.length from ⟨_, rfl⟩)
          obtain ⟨R, hR⟩ := HRR.out
          rw [← hR] at hrc HRN HBK hrn12 HSUB
          clear hR HRR
          obtain ⟨W1, hW1⟩ : ∃ W1, W1 = wr := ⟨_, rfl⟩
          subst hW1
          go_wp2
          go_loopw [18, 86] (fun s x wr => ∃ (j m : Nat), j ≤ R ∧ s = I (msk (pl r) j) ∧ x = I j ∧ wr = W1.drewN m) (fun _ x _ => R - (intOf x).toNat)
          case atStart => exact ⟨0, 0, by omega, rfl, rfl, rfl⟩
          case round =>
            obtain ⟨j, m2, hj, rfl, rfl, rfl⟩ := hrel
            by_cases hjR : j < R
            · obtain ⟨eb, rfl, ce⟩ := HRN.out.at' hjR
              have hej : (r.getD j 0) = ((pl r j : Nat) : Int) := HBK.out.eq j hjR
              have ce1 : W1.cell? (eb.add j) = some (I ((pl r j : Nat) : Int)) := by rw [← hej]; exact ce
              clear ce
              have hj0 : (0 : Int) ≤ j := by omega
              have hj1 : (j : Int) < R := by omega
              have hlt := HBK.out.lt j
              have hmk := msk_lt' HBK.out.lt j
              have hpl : 2 ^ pl r j < 8192 := Nat.lt_of_lt_of_le (Nat.pow_lt_pow_right (by decide) (show pl r j < 12 by omega)) (by decide)
              have hw := w2i (pl r j) (by omega)
              rw [← HN.out] at hmk
              have hor := or_k (a := msk (pl r) j) (b := 2 ^ pl r j) (by omega) hpl
              have HMS : Hid (msk (pl r) (j + 1) = msk (pl r) j ||| 2 ^ pl r j) := Lib.hid rfl
              clear hej hpl
              generalize msk (pl r) j = M at *
              generalize pl r j = v at *
              have hv0 : (0 : Int) ≤ v := by omega
              generalize 2 ^ v = V at *
              go_wp2
              go_roundw
              case rel => exact ⟨j + 1, _, by omega, by rw [HMS.out], by go_num, rfl⟩
              case measure => simp [intOf]; omega
            · obtain rfl : R = j := by omega
              have HB1 : Hid (Below w.heap.size w (W1.drewN m2)) := Lib.hid (below_drewN HB.out m2)
              have HO1 : Hid (Kd.R (Kd.int .i64) 3 (W1.drewN m2) w.heap.size (fun _ => True) u14 XS) := Lib.hid (Kd.R_below HO.out (below_drewN (Below.refl _ _) m2))
              generalize msk (pl r) R = M at *
              have hl8 : (XS.length + 1) * 8 ≤ 140737488355328 := by rw [HLE.out]; omega
              go_wp2_with (first
                | (go_at_call 85; refine (HSUB.out _ HB1.out).mono ?_; rintro e w2 ⟨rfl, hb⟩; have HB2 := Lib.hid (HB1.out.trans (hb.mono HB1.out.size)); have HO2 := Lib.hid (Kd.R_below HO1.out hb); clear hb)
                | (at_builtin; refine Kd.R_append (P := Try.prog) (Kd.int .i64) w.heap.size rfl (.tmp 98) (.tmp 100) 52 3 (.int .i64 0) 8 rfl Try.underlying52 Try.info3 rfl (by decide) (by decide) _ _ (C : Int) [.int .i64 C] (fun _ => True) (fun _ => False) rfl rfl rfl (fun _ h => h.elim) (fun _ _ => trivial) HO2.out HB2.out HB2.out.size hl8 ?_; intro v2 w3 ho hb hg hat; have HO3 := Lib.hid ho; have HB3 := Lib.hid hb; clear ho hb hg hat)
                | (go_at_call 86; refine (HLEN.out _).mono ?_; rintro e w' ⟨rfl, rfl⟩))
              go_roundw
              case rel => exact ⟨i + 1, _, by omega, rfl, by rw [HSN.out], by go_num, Lib.hid (by rw [HCN.out]; exact HO3.out), HB3⟩
              case measure => simp [intOf]; omega
        · obtain rfl : L = i := by omega
          have HTA : Hid (l.take L = l) := Lib.hid (List.take_of_length_le (by rw [← HLL.out]; omega))
          go_wp2
          go_ret3
          rw [HTA.out] at HO ⊢
          exact ⟨.inr ⟨rfl, _, rfl, HO.out⟩, HB.out⟩
end Go.Proofs.Ytpfbommaddaijaa
namespace Go.Proofs.Ytpfbommaddaijaa
open Go.RowKit Go.Proofs.YtpfbommaddaijaaW.PrintWords PBoundNechiporuk
set_option linter.unusedVariables false
set_option linter.unusedSimpArgs false

theorem nech_ok {w : World} {ta A : Option Addr} {tc c n : Nat} {f : Nat → Bool} {l : List (List Int)} (ht : Bs w (.slice ta (2 ^ n) tc) (2 ^ n) f) (hn : n ≤ 12) (hl : Kd.C (Kd.slice 3 (Kd.int .i64)) w A l.length l) (hs : Sm l) (h : blkChk n [] l = true) :
    Calls Try.prog 40 #[.slice ta (2 ^ n) tc, .slice A l.length c] w fun e w' => ∃ A' c', e = .returned (.tuple #[.slice A' l.length c', I (sums f n l), I 0]) ∧ Kd.C (Kd.int .i64) w' A' l.length (cnts f n l) ∧ Below w.heap.size w w' := by
  refine (nech_any ht hn hl hs).mono ?_
  rintro e w' ⟨hc, hb⟩
  rw [h] at hc
  rcases hc with ⟨h1, _⟩ | ⟨_, v, rfl, hR⟩
  · cases h1
  · obtain ⟨A', c', rfl, _, hC⟩ := Kd.R_reads hR
    have hlen : (cnts f n l).length = l.length := by simp [cnts]
    rw [hlen] at hC ⊢
    exact ⟨A', c', rfl, hC, hb⟩
end Go.Proofs.Ytpfbommaddaijaa
namespace Go.Proofs.Ytpfbommaddaijaa
open Go.RowKit Go.Proofs.YtpfbommaddaijaaW.PrintWords PBoundNechiporuk
set_option linter.unusedVariables false
set_option linter.unusedSimpArgs false

end Go.Proofs.Ytpfbommaddaijaa

