/- The reference's Size: the walk; Plain: the reference's Levels; The reference's Levels: the walk. -/
import Derived.Test.YtpfbommaddaijaaXa
namespace Go.Proofs.Ytpfbommaddaijaa
open Go.RowKit Go.Proofs.YtpfbommaddaijaaW.PrintWords
set_option linter.unusedVariables false
set_option linter.unusedSimpArgs false

theorem hp4 : ∀ n : Fin 4, wrap64 ((2 : Int) ^ 2 ^ n.val) = ((2 ^ 2 ^ n.val : Nat) : Int) := by decide +kernel
set_option maxHeartbeats 16000000 in
set_option maxRecDepth 100000 in
theorem refSize_any {w : World} {v : Value} {n : Nat} {f : Nat → Bool} (hn : n ≤ 3) (hb : Bs w v (2 ^ n) f) (xor : Bool) {M : Nat} (hM : M + 1 = 2 ^ 2 ^ n) {c : Int} (hd : Der n M 1 xor Js (tn f (2 ^ n)) c) (hmin : ∀ c', Der n M 1 xor Js (tn f (2 ^ n)) c' → c ≤ c') (hc : c < BIG) :
    Calls Try.prog 25 #[v, .bool xor] w fun e w' => e = .returned (I c) ∧ Below w.heap.size w w' := by
  obtain ⟨a, cap, rfl⟩ := hb.shape
  have hLS : ∀ l, LS n l → l ≤ M := fun l h => by have := LS_lt hn h; omega
  have hle : ∀ {f : Nat} {c : Int}, Der n M 1 xor Js f c → f ≤ M := fun {f c} h => by
    have hxo : ∀ x y, x ≤ M → y ≤ M → x ^^^ y ≤ M := fun x y hx hy => by have := Nat.xor_lt_two_pow (n := 2 ^ n) (x := x) (y := y) (by omega) (by omega); omega
    induction h with
    | leaf hl => exact hLS _ hl
    | neg hf _ _ => omega
    | and hx _ _ _ _ _ => exact Nat.le_trans Nat.and_le_left hx
    | xor _ hx hy _ _ _ _ => exact hxo _ _ hx hy
  have h256 : M ≤ 255 := by have := (hp3 ⟨n, by omega⟩).2.2; simp only at this; omega
  have hG0 := Lib.hid (good_st (xor := xor) hLS)
  have HLE : Hid (∀ (f : Nat) (c : Int), Der n M 1 xor Js f c → f ≤ M) := Lib.hid (fun f c h => hle h)
  have HB := Lib.hid hb
  have HD := Lib.hid hd
  have HMIN := Lib.hid hmin
  have HM := Lib.hid hM
  have hc1 := der_pos hd
  have hcB : c < 1048576 := hc
  clear hc
  have ht := hle hd
  have HRI := Lib.hid (fun w : World => refInputs_any (w := w) (a := a) (cap := cap) (len := 2 ^ n) (by have : 2 ^ n ≤ 2 ^ 3 := Nat.pow_le_pow_right (by decide) hn; omega) (inp_pow (by omega)))
  have hL8 : 2 ^ n ≤ 8 := Nat.pow_le_pow_right (n := 2) (by decide) hn
  have HCO := Lib.hid (fun (W : World) (hW : Below w.heap.size w W) => code_any (hb.keep hW) hL8)
  have hw1 := hp2 ⟨n, by omega⟩
  have hw2 := hp4 ⟨n, by omega⟩
  have hHLV : Hid (∀ t, t < n → lf t (2 ^ n) ≤ M) := Lib.hid (fun t ht => hLS _ (.inr ⟨t, ht, rfl⟩))
  simp only [← hM] at hw1 hw2
  obtain ⟨N, hN⟩ : ∃ N, N = M + 1 := ⟨_, rfl⟩
  have HN := Lib.hid hN
  rw [← hN] at hw1 hw2
  have hST : Hid (st n M = set2 M (ini M (2 ^ n) n) 0) := Lib.hid rfl
  have HST := Lib.hid (fun (j v : Nat) (h1 : v < 3) (h2 : j < 8) => bit_step ⟨v, h1⟩ ⟨j, h2⟩)
  obtain ⟨L, hL⟩ : ∃ L, L = 2 ^ n := ⟨_, rfl⟩
  have HL := Lib.hid hL
  rw [← hL] at HB HRI HCO hw1 hw2 hHLV hST hL8 HD HMIN ht ⊢
  clear hb hd hmin hM hLS hle hL
  obtain ⟨t, htt⟩ : ∃ t, t = tn f L := ⟨_, rfl⟩
  rw [← htt] at HD HMIN HCO ht
  have hmk := run_make_row' (P := Try.prog) 52 3 (.int .i64 0) 8 Try.underlying52 Try.info3 rfl .i64 .i64 N (by omega) (by omega)
  have HR0 : Hid (Lr (w.alloc (.cells (madeCells #[Value.int .i64 0] N) 3)) w.heap.size N (ini M L 0)) := Lib.hid ((World.rowIs_made w _ N 3).congr fun u hu => by
    have : at' (ini M L 0) u = 0 := by simp only [at', ini, List.getD_eq_getElem?_getD, List.getElem?_replicate]; split <;> rfl
    rw [this])
  have HB0 : Hid (Below w.heap.size w (w.alloc (.cells (madeCells #[Value.int .i64 0] N) 3))) := Lib.hid ((Below.refl _ _).alloc (Nat.le_refl _) _)
  have hn0 : (0 : Int) ≤ n := by omega
  have hN256 : N ≤ 256 := by omega
  have hN1 : 1 ≤ N := by omega
  clear htt hN
  go_enter Try.func25, Try.ntmps25
  go_wp2_with (go_at_call 17; refine (HRI.out _).mono ?_; rintro e w' ⟨rfl, rfl⟩)
  go_loopw [8] (fun x wr => ∃ v : Nat, v ≤ n ∧ x = I v ∧ Hid (Lr wr w.heap.size N (ini M L v)) ∧ Hid (Below w.heap.size w wr)) (fun x _ => n - (intOf x).toNat)
  case atStart => exact ⟨0, by omega, rfl, HR0, HB0⟩
  case round =>
    clear HR0 HB0
    obtain ⟨v, hv, rfl, HR, HBL⟩ := hrel
    by_cases hvn : v < n
    · have hv0 : (0 : Int) ≤ v := by omega
      obtain ⟨W1, hW1⟩ : ∃ W1, W1 = wr := ⟨_, rfl⟩
      subst hW1
      go_wp2
      go_loopw [9, 10] (fun x y wr => ∃ j : Nat, j ≤ L ∧ x = I (lf v j) ∧ y = I j ∧ wr = W1) (fun _ y _ => L - (intOf y).toNat)
      case atStart => exact ⟨0, by omega, rfl, rfl, rfl⟩
      case round =>
        obtain ⟨j, hj, rfl, rfl, rfl⟩ := hrel
        by_cases hjL : j < L
        · have hst := HST.out j v (by omega) (by omega)
          have hj0 : (0 : Int) ≤ j := by omega
          generalize hL1 : lf v (j + 1) = L1 at *
          generalize lf v j = L0 at *
          have HL1 := Lib.hid hL1
          clear hL1
          go_wp2
          go_roundw
          case rel => exact ⟨j + 1, by omega, by rw [HL1.out], by go_num, by first | rfl | trivial⟩
          case measure => simp [intOf]; omega
        · obtain rfl : L = j := by omega
          have hlM := hHLV.out v hvn
          have HIN : Hid (ini M L (v + 1) = set2 M (ini M L v) (lf v L)) := Lib.hid rfl
          have hil := ini_len M L v
          generalize lf v L = l at *
          generalize ini M L v = X at *
          obtain ⟨d, hd⟩ : ∃ d, d = M - l := ⟨_, rfl⟩
          have hl0 : (0 : Int) ≤ l := by omega
          have hNd : (N : Int) - 1 - l = d := by have := HN.out; omega
          have hlN : l < N := by have := HN.out; omega
          have hdN : d < N := by have := HN.out; omega
          have c1 := HR.out.cell hlN
          have q1 := HR.out.frozen l
          have h3 := HR.out.set l (I 1)
          have c3 := h3.cell hdN
          have q3 := h3.frozen d
          obtain ⟨z3, hz3⟩ : ∃ z3, z3 = (if d = l then I 1 else I (at' X d)) := ⟨_, rfl⟩
          rw [← hz3] at c3
          have HR2 : Hid (Lr ((wr.setCell ⟨w.heap.size, l, none⟩ (I 1)).setCell ⟨w.heap.size, d, none⟩ (I 1)) w.heap.size N (ini M L (v + 1))) := Lib.hid ((h3.set d (I 1)).congr fun u hu => by
            rw [HIN.out, at_set2 hil hlM, ← hd]
            by_cases e1 : u = d
            · rw [if_pos e1, if_pos (.inl e1)]
            · rw [if_neg e1]
              by_cases e2 : u = l
              · rw [if_pos e2, if_pos (.inr e2)]
              · rw [if_neg e2, if_neg (by rintro (h | h); exact e1 h; exact e2 h)])
          have HB2 : Hid (Below w.heap.size w ((wr.setCell ⟨w.heap.size, l, none⟩ (I 1)).setCell ⟨w.heap.size, d, none⟩ (I 1))) := Lib.hid ((HBL.out.setCell (Nat.le_refl _) _).setCell (Nat.le_refl _) _)
          clear hz3 h3 hd hil
          go_wp2
          go_roundw
          case rel => exact ⟨v + 1, by omega, by go_num, HR2, HB2⟩
          case measure => simp [intOf]; omega
    · obtain rfl : n = v := by omega
      have hil := ini_len M L n
      generalize ini M L n = X at *
      have c1 := HR.out.cell (i := 0) hN1
      have q1 := HR.out.frozen 0
      have hMN : M < N := by have := HN.out; omega
      have hN1M : (N : Int) - 1 = M := by have := HN.out; omega
      have h3 := HR.out.set 0 (I 1)
      have c3 := h3.cell hMN
      have q3 := h3.frozen M
      obtain ⟨z3, hz3⟩ : ∃ z3, z3 = (if M = 0 then I 1 else I (at' X M)) := ⟨_, rfl⟩
      rw [← hz3] at c3
      have HR2 : Hid (Lr ((wr.setCell ⟨w.heap.size, 0, none⟩ (I 1)).setCell ⟨w.heap.size, M, none⟩ (I 1)) w.heap.size N (st n M)) := Lib.hid ((h3.set M (I 1)).congr fun u hu => by
        rw [hST.out, at_set2 hil (Nat.zero_le _)]
        by_cases e1 : u = M
        · rw [if_pos e1, if_pos (.inl (by omega))]
        · rw [if_neg e1]
          by_cases e2 : u = 0
          · rw [if_pos e2, if_pos (.inr e2)]
          · rw [if_neg e2, if_neg (by rintro (h | h); exact e1 (by omega); exact e2 h)])
      have HB2 : Hid (Below w.heap.size w ((wr.setCell ⟨w.heap.size, 0, none⟩ (I 1)).setCell ⟨w.heap.size, M, none⟩ (I 1))) := Lib.hid ((HBL.out.setCell (Nat.le_refl _) _).setCell (Nat.le_refl _) _)
      clear hz3 h3 hil
      go_wp2
      simp only [hw2]
      clear hw1 hw2
      go_loopw [11] (fun x wr => ∃ (X : List Int) (s : Int), x = I s ∧ 2 ≤ s ∧ s ≤ c + 1 ∧ Hid (Good n M xor X s) ∧ Hid (Lr wr w.heap.size N X) ∧ Hid (Below w.heap.size w wr)) (fun x _ => (c + 1 - intOf x).toNat)
      case atStart => exact ⟨_, 2, rfl, by omega, by omega, hG0, HR2, HB2⟩
      case round =>
        clear hG0 HR2 HB2 c1 q1 c3 q3 HR HBL
        obtain ⟨X, s, rfl, hs2, hsc, HG, HR, HBL⟩ := hrel
        have htN : t < N := by omega
        have ct := HR.out.cell htN
        have hsd := HG.out.sound t (by omega)
        have hfl := HG.out.full t c HD.out
        have ht0 : (0 : Int) ≤ t := by omega
        generalize at' X t = z at *
        by_cases h0 : z = 0
        · subst h0
          have hcs : s ≤ c := Decidable.byContradiction fun h => (hfl (by omega)).1 rfl
          clear hsd hfl
          have HRD : Hid (∀ m, Lr (wr.drewN m) w.heap.size N X) := Lib.hid (fun m => HR.out)
          go_wp2_with (go_at_call 75; refine (HCO.out _ HBL.out).mono ?_; rintro e w' ⟨rfl, m, rfl⟩)
          go_loopw [12] (fun x wr => ∃ (a : Nat) (Y : List Int), a ≤ N ∧ x = I a ∧ Hid (Mid n M xor X Y s a 0) ∧ Hid (Lr wr w.heap.size N Y) ∧ Hid (Below w.heap.size w wr)) (fun x _ => N - (intOf x).toNat)
          case atStart => exact ⟨0, X, by omega, rfl, Lib.hid (Mid.start HG.out), Lib.hid (HRD.out m), Lib.hid (below_drewN HBL.out m)⟩
          case round =>
            clear HRD HR HBL ct
            obtain ⟨a, Y, haN, rfl, HMD, HR, HBL⟩ := hrel
            by_cases ha : a < N
            · have ha0 : (0 : Int) ≤ a := by omega
              go_wp2
              go_loopw [13] (fun x wr => ∃ (b : Nat) (Y : List Int), b ≤ a + 1 ∧ x = I b ∧ Hid (Mid n M xor X Y s a b) ∧ Hid (Lr wr w.heap.size N Y) ∧ Hid (Below w.heap.size w wr)) (fun x _ => a + 1 - (intOf x).toNat)
              case atStart => exact ⟨0, Y, by omega, rfl, HMD, HR, HBL⟩
              case round =>
                clear HMD HR HBL
                obtain ⟨b, Y, hb1, rfl, HMD, HR, HBL⟩ := hrel
                by_cases hba : b ≤ a
                · have hb0 : (0 : Int) ≤ b := by omega
                  have haM : a ≤ M := by have := HN.out; omega
                  have bd1 := HMD.out.bd HG.out hs2 haM
                  have bd2 := HMD.out.bd HG.out hs2 (u := b) (by omega)
                  have ca := HR.out.cell (i := a) ha
                  have cb := HR.out.cell (i := b) (by omega)
                  have hbN : (b : Int) < N := by omega
                  have haN1 : (a : Int) < N := by omega
                  have HSKP : Hid ((at' Y a = 0 ∨ at' Y b = 0 ∨ at' Y a + at' Y b ≠ s) → Mid n M xor X Y s a (b + 1)) := Lib.hid (fun h => HMD.out.skip h hba)
                  have HTK := Lib.hid (fun h1 h2 h3 => HMD.out.take HG.out HM.out hs2 hba haM h1 h2 h3)
                  have HYL := Lib.hid HMD.out.len
                  simp only at HTK
                  obtain ⟨x1, hx1⟩ : ∃ x1, x1 = at' Y a := ⟨_, rfl⟩
                  obtain ⟨y1, hy1⟩ : ∃ y1, y1 = at' Y b := ⟨_, rfl⟩
                  rw [← hx1] at ca bd1 HSKP HTK
                  rw [← hy1] at cb bd2 HSKP HTK
                  clear hx1 hy1 HMD
                  by_cases z1 : x1 = 0
                  · subst z1
                    have HSK : Hid (Mid n M xor X Y s a (b + 1)) := Lib.hid (HSKP.out (.inl rfl))
                    clear HSKP HTK
                    go_upto_region 23 with fail
                    go_quiet (fail)
                    go_wp2
                    go_roundw
                    case rel => exact ⟨b + 1, Y, by omega, by go_num, HSK, Lib.hid HR.out, Lib.hid (below_drewN HBL.out _)⟩
                    case measure => simp [intOf]; omega
                  have t1 : (x1 == 0) = false := by simpa using z1
                  by_cases z2 : y1 = 0
                  · subst z2
                    have HSK : Hid (Mid n M xor X Y s a (b + 1)) := Lib.hid (HSKP.out (.inr (.inl rfl)))
                    clear HSKP HTK
                    go_upto_region 23 with fail
                    go_quiet (fail)
                    go_wp2
                    go_roundw
                    case rel => exact ⟨b + 1, Y, by omega, by go_num, HSK, Lib.hid HR.out, Lib.hid (below_drewN HBL.out _)⟩
                    case measure => simp [intOf]; omega
                  have t2 : (y1 == 0) = false := by simpa using z2
                  have hxy : IntKind.i64.wrap (x1 + y1) = x1 + y1 := IntWalk.i64_in _ (by omega)
                  by_cases z3 : x1 + y1 = s
                  · have t3 : (x1 + y1 != s) = false := by simpa using z3
                    have HT2 := Lib.hid (HTK.out z1 z2 z3)
                    have hbM : b ≤ M := by omega
                    have hm1 : a &&& b ≤ M := Nat.le_trans Nat.and_le_left haM
                    have hm2 : a ||| b ≤ M := by have := Nat.or_lt_two_pow (n := 2 ^ n) (x := a) (y := b) (by have := HM.out; omega) (by have := HM.out; omega); have := HM.out; omega
                    have hm3 : a ^^^ b ≤ M := by have := Nat.xor_lt_two_pow (n := 2 ^ n) (x := a) (y := b) (by have := HM.out; omega) (by have := HM.out; omega); have := HM.out; omega
                    have hk1 := and_k (a := a) (b := b) (by omega) (by omega)
                    have hk2 := or_k (a := a) (b := b) (by omega) (by omega)
                    have hk3 := xor_k (a := a) (b := b) (by omega) (by omega)
                    have HAN : Hid (∀ W, Lr W w.heap.size N Y → Calls Try.prog 76 #[.slice (some ⟨w.heap.size, 0, none⟩) N N, I ((a &&& b : Nat) : Int), I s] W fun e w' => e = .returned (.tuple #[]) ∧ Lr w' w.heap.size N (putL M Y (a &&& b) s) ∧ W.grownBy w' (some w.heap.size)) := Lib.hid (fun W h => by rw [HN.out] at h ⊢; exact put_any h HYL.out hm1 h256)
                    have HOR : Hid (∀ W, Lr W w.heap.size N (putL M Y (a &&& b) s) → Calls Try.prog 76 #[.slice (some ⟨w.heap.size, 0, none⟩) N N, I ((a ||| b : Nat) : Int), I s] W fun e w' => e = .returned (.tuple #[]) ∧ Lr w' w.heap.size N (putL M (putL M Y (a &&& b) s) (a ||| b) s) ∧ W.grownBy w' (some w.heap.size)) := Lib.hid (fun W h => by rw [HN.out] at h ⊢; exact put_any h (by rw [putL_len]; exact HYL.out) hm2 h256)
                    have HXO : Hid (∀ W, Lr W w.heap.size N (putL M (putL M Y (a &&& b) s) (a ||| b) s) → Calls Try.prog 76 #[.slice (some ⟨w.heap.size, 0, none⟩) N N, I ((a ^^^ b : Nat) : Int), I s] W fun e w' => e = .returned (.tuple #[]) ∧ Lr w' w.heap.size N (putL M (putL M (putL M Y (a &&& b) s) (a ||| b) s) (a ^^^ b) s) ∧ W.grownBy w' (some w.heap.size)) := Lib.hid (fun W h => by rw [HN.out] at h ⊢; exact put_any h (by rw [putL_len, putL_len]; exact HYL.out) hm3 h256)
                    generalize putL M (putL M (putL M Y (a &&& b) s) (a ||| b) s) (a ^^^ b) s = Y3 at *
                    generalize putL M (putL M Y (a &&& b) s) (a ||| b) s = Y2 at *
                    generalize putL M Y (a &&& b) s = Y1 at *
                    clear HSKP HTK z3
                    generalize a &&& b = ab at *
                    generalize a ||| b = ob at *
                    generalize a ^^^ b = xb at *
                    have HBD0 : Hid (∀ m, Below w.heap.size w (wr.drewN m)) := Lib.hid (fun m => below_drewN HBL.out m)
                    have HRD0 : Hid (∀ m, Lr (wr.drewN m) w.heap.size N Y) := Lib.hid (fun m => HR.out)
                    go_upto_region 23 with fail
                    go_quiet (fail)
                    have HBD := Lib.hid (HBD0.out nq)
                    have HRD := Lib.hid (HRD0.out nq)
                    clear HBD0 HRD0 hxy t1 t2 t3 z1 z2
                    cases xor with
                    | false =>
                      go_wp2_with (first
                  | (go_at_call 76; refine (HXO.out _ HR3.out).mono ?_; rintro e w4 ⟨rfl, hr, hg⟩; have HR4 := Lib.hid hr; have HB4 := Lib.hid (HB3.out.grown hg HB3.out.size (fun j hj => by cases hj; exact Nat.le_refl _)); clear hr hg)
                  | (go_at_call 76; refine (HOR.out _ HR2.out).mono ?_; rintro e w3 ⟨rfl, hr, hg⟩; have HR3 := Lib.hid hr; have HB3 := Lib.hid (HB2.out.grown hg HB2.out.size (fun j hj => by cases hj; exact Nat.le_refl _)); clear hr hg)
                  | (go_at_call 76; refine (HAN.out _ HRD.out).mono ?_; rintro e w2 ⟨rfl, hr, hg⟩; have HR2 := Lib.hid hr; have HB2 := Lib.hid (HBD.out.grown hg HBD.out.size (fun j hj => by cases hj; exact Nat.le_refl _)); clear hr hg))
                      go_roundw
                      case rel => exact ⟨b + 1, Y2, by omega, by go_num, HT2, HR3, HB3⟩
                      case measure => simp [intOf]; omega
                    | true =>
                      go_wp2_with (first
                  | (go_at_call 76; refine (HXO.out _ HR3.out).mono ?_; rintro e w4 ⟨rfl, hr, hg⟩; have HR4 := Lib.hid hr; have HB4 := Lib.hid (HB3.out.grown hg HB3.out.size (fun j hj => by cases hj; exact Nat.le_refl _)); clear hr hg)
                  | (go_at_call 76; refine (HOR.out _ HR2.out).mono ?_; rintro e w3 ⟨rfl, hr, hg⟩; have HR3 := Lib.hid hr; have HB3 := Lib.hid (HB2.out.grown hg HB2.out.size (fun j hj => by cases hj; exact Nat.le_refl _)); clear hr hg)
                  | (go_at_call 76; refine (HAN.out _ HRD.out).mono ?_; rintro e w2 ⟨rfl, hr, hg⟩; have HR2 := Lib.hid hr; have HB2 := Lib.hid (HBD.out.grown hg HBD.out.size (fun j hj => by cases hj; exact Nat.le_refl _)); clear hr hg))
                      go_roundw
                      case rel => exact ⟨b + 1, Y3, by omega, by go_num, HT2, HR4, HB4⟩
                      case measure => simp [intOf]; omega
                  · have t3 : (x1 + y1 != s) = true := by simpa using z3
                    have HSK : Hid (Mid n M xor X Y s a (b + 1)) := Lib.hid (HSKP.out (.inr (.inr z3)))
                    clear HSKP HTK
                    go_upto_region 23 with fail
                    go_quiet (fail)
                    go_wp2
                    go_roundw
                    case rel => exact ⟨b + 1, Y, by omega, by go_num, HSK, Lib.hid HR.out, Lib.hid (below_drewN HBL.out _)⟩
                    case measure => simp [intOf]; omega
                · obtain rfl : b = a + 1 := by omega
                  go_wp2
                  go_roundw
                  case rel => exact ⟨a + 1, Y, by omega, by go_num, Lib.hid HMD.out.row, HR, HBL⟩
                  case measure => simp [intOf]; omega
            · have haM : Hid (a = M + 1) := Lib.hid (by have := HN.out; omega)
              have HG2 : Hid (Good n M xor Y (s + 1)) := Lib.hid (Mid.done HG.out (by have := HMD.out; rw [haM.out] at this; exact this) (fun {f c} h => HLE.out f c h) hs2)
              go_wp2
              go_roundw
              case rel => exact ⟨Y, s + 1, rfl, by omega, by omega, HG2, HR, HBL⟩
              case measure => simp [intOf]; omega
        · obtain ⟨h1, h2⟩ := hsd h0
          have h3 := HMIN.out z h2
          obtain ⟨h4, h5⟩ := hfl (by omega)
          obtain rfl : z = c := by omega
          have hz0 : (z == 0) = false := by simpa using h0
          clear hfl h3 h4 h5 h0 h2
          go_wp2_with (go_at_call 75; refine (HCO.out _ (by first | exact HBL.out | exact below_drewN HBL.out _)).mono ?_; rintro e w' ⟨rfl, m, rfl⟩)
          go_ret
          exact ⟨rfl, by first | exact below_drewN HBL.out _ | exact below_drewN (below_drewN HBL.out _) _⟩
end Go.Proofs.Ytpfbommaddaijaa
namespace Go.Proofs.Ytpfbommaddaijaa
open Go.RowKit Go.Proofs.YtpfbommaddaijaaW.PrintWords
set_option linter.unusedVariables false
set_option linter.unusedSimpArgs false

def bt' (X : List Bool) (f : Nat) : Bool := X.getD f false
theorem bt_set {X : List Bool} {f u : Nat} {b : Bool} (hf : f < X.length) : bt' (X.set f b) u = if u = f then b else bt' X u := by
  simp only [bt', List.getD_eq_getElem?_getD, List.getElem?_set]
  by_cases e : f = u
  · subst e; simp [hf]
  · rw [if_neg e, if_neg (fun h => e h.symm)]
/-- a function and its negation are marked -/
def mrk (M : Nat) (X : List Bool) (l : Nat) : List Bool := (X.set l true).set (M - l) true
theorem mrk_len {M l : Nat} {X : List Bool} : (mrk M X l).length = X.length := by simp [mrk]
theorem bt_mrk {M l u : Nat} {X : List Bool} (hl : X.length = M + 1) (h : l ≤ M) : bt' (mrk M X l) u = true ↔ u = M - l ∨ u = l ∨ bt' X u = true := by
  rw [mrk, bt_set (by simp; omega), bt_set (by omega)]
  by_cases h1 : u = M - l <;> by_cases h2 : u = l <;> simp [h1, h2]
def inb (M L : Nat) : Nat → List Bool
  | 0 => mrk M (List.replicate (M + 1) false) 0
  | v + 1 => mrk M (inb M L v) (lf v L)
theorem inb_len (M L : Nat) : ∀ v, (inb M L v).length = M + 1
  | 0 => by simp [inb, mrk_len]
  | v + 1 => by rw [inb, mrk_len, inb_len M L v]
theorem inb_at {M L : Nat} (u : Nat) : ∀ v, (∀ t, t < v → lf t L ≤ M) → (bt' (inb M L v) u = true ↔ u = 0 ∨ u = M ∨ ∃ t, t < v ∧ (u = lf t L ∨ u = M - lf t L))
  | 0, _ => by
    have e : bt' (List.replicate (M + 1) false) u = false := by simp only [bt', List.getD_eq_getElem?_getD, List.getElem?_replicate]; split <;> rfl
    rw [inb, bt_mrk (by simp) (by omega), e]
    refine ⟨fun h => ?_, fun h => ?_⟩
    · rcases h with h | h | h
      · exact .inr (.inl (by omega))
      · exact .inl h
      · cases h
    · rcases h with h | h | ⟨t, ht, _⟩
      · exact .inr (.inl h)
      · exact .inl (by omega)
      · omega
  | v + 1, h => by
    have ih := inb_at (M := M) (L := L) u v fun t ht => h t (by omega)
    rw [inb, bt_mrk (inb_len M L v) (h v (by omega)), ih]
    refine ⟨fun h => ?_, fun h => ?_⟩
    · rcases h with h | h | h | h | ⟨t, ht, h⟩
      · exact .inr (.inr ⟨v, by omega, .inr h⟩)
      · exact .inr (.inr ⟨v, by omega, .inl h⟩)
      · exact .inl h
      · exact .inr (.inl h)
      · exact .inr (.inr ⟨t, by omega, h⟩)
    · rcases h with h | h | ⟨t, ht, h9⟩
      · exact .inr (.inr (.inl h))
      · exact .inr (.inr (.inr (.inl h)))
      · by_cases e : t = v
        · subst e
          rcases h9 with h9 | h9
          · exact .inr (.inl h9)
          · exact .inl h9
        · exact .inr (.inr (.inr (.inr ⟨t, by omega, h9⟩)))
theorem dep_pos {n M : Nat} {f : Nat} {c : Int} (h : Der n M 0 false Jm f c) : 0 ≤ c := by
  induction h with
  | leaf _ => omega
  | neg _ _ ih => exact ih
  | and _ _ _ _ i1 i2 => show 0 ≤ 1 + max _ _; omega
  | xor _ _ _ _ _ i1 i2 => show 0 ≤ 1 + max _ _; omega
/-- the functions of depth d -/
structure GoodL (n M : Nat) (X : List Bool) (d : Int) : Prop where
  len : X.length = M + 1
  iff : ∀ f, f ≤ M → (bt' X f = true ↔ ∃ c, Der n M 0 false Jm f c ∧ c ≤ d)
structure MidL (n M : Nat) (X Y : List Bool) (d : Int) (a b : Nat) : Prop where
  len : Y.length = M + 1
  old : ∀ f, f ≤ M → bt' X f = true → bt' Y f = true
  sound : ∀ f, f ≤ M → bt' Y f = true → ∃ c, Der n M 0 false Jm f c ∧ c ≤ d + 1
  sym : ∀ f, f ≤ M → bt' Y f = true → bt' Y (M - f) = true
  did : ∀ x y, y < x → x ≤ M → (x < a ∨ (x = a ∧ y < b)) → bt' X x = true → bt' X y = true → bt' Y (x &&& y) = true
theorem good_inb {n M : Nat} (hM : ∀ l, LS n l → l ≤ M) : GoodL n M (inb M (2 ^ n) n) 0 where
  len := inb_len M _ n
  iff f hf := by
    rw [inb_at f n (fun t ht => hM _ (.inr ⟨t, ht, rfl⟩))]
    constructor
    · intro h
      have key : LS n f ∨ LS n (M - f) := by
        rcases h with h | h | ⟨t, ht, h | h⟩
        · exact .inl (.inl h)
        · exact .inr (.inl (by omega))
        · exact .inl (.inr ⟨t, ht, h⟩)
        · have := hM _ (.inr ⟨t, ht, rfl⟩)
          exact .inr (.inr ⟨t, ht, by rw [h]; exact Nat.sub_sub_self this⟩)
      rcases key with h | h
      · exact ⟨0, .leaf h, by omega⟩
      · have := Der.neg (n := n) (leaf := 0) (xor := false) (J := Jm) (M := M) (f := M - f) (by omega) (.leaf h)
        rw [show M - (M - f) = f by omega] at this
        exact ⟨0, this, by omega⟩
    · rintro ⟨c, hc, h0⟩
      have main : ∀ {f : Nat} {c : Int}, Der n M 0 false Jm f c → c ≤ 0 → f ≤ M ∧ (LS n f ∨ LS n (M - f)) := by
        intro f c h
        induction h with
        | leaf hl => exact fun _ => ⟨hM _ hl, .inl hl⟩
        | @neg f c hf _ ih =>
          intro hc
          obtain ⟨_, h2⟩ := ih hc
          refine ⟨by omega, ?_⟩
          rw [show M - (M - f) = f by omega]
          exact h2.symm
        | @and x y a b _ _ h1 h2 _ _ => intro hc; have := dep_pos h1; have := dep_pos h2; have : 1 + max a b ≤ 0 := hc; omega
        | xor hx _ _ _ _ _ _ => cases hx
      rcases (main hc h0).2 with (h | ⟨t, ht, h⟩) | (h | ⟨t, ht, h⟩)
      · exact .inl h
      · exact .inr (.inr ⟨t, ht, .inl h⟩)
      · exact .inr (.inl (by omega))
      · exact .inr (.inr ⟨t, ht, .inr (by omega)⟩)
theorem inb_sym {n M : Nat} {X : List Bool} {d : Int} (h : GoodL n M X d) {f : Nat} (hf : f ≤ M) (hx : bt' X f = true) : bt' X (M - f) = true := by
  obtain ⟨c, hc, hd⟩ := (h.iff f hf).1 hx
  exact (h.iff _ (by omega)).2 ⟨c, .neg hf hc, hd⟩
theorem MidL.start {n M : Nat} {X : List Bool} {d : Int} (h : GoodL n M X d) : MidL n M X X d 0 0 :=
  ⟨h.len, fun _ _ h => h, fun f hf hx => by obtain ⟨c, h1, h2⟩ := (h.iff f hf).1 hx; exact ⟨c, h1, by omega⟩, fun f hf hx => inb_sym h hf hx, fun x y _ _ h => by omega⟩
section
variable {n M : Nat} {X Y : List Bool} {d : Int} {a b : Nat}
theorem MidL.mark (h : MidL n M X Y d a b) {f : Nat} (hf : f ≤ M) {c : Int} (hd : Der n M 0 false Jm f c) (hc : c ≤ d + 1) : MidL n M X (mrk M Y f) d a b ∧ bt' (mrk M Y f) f = true ∧ ∀ u, bt' Y u = true → bt' (mrk M Y f) u = true := by
  have hp := fun u => bt_mrk (u := u) h.len hf
  refine ⟨⟨by rw [mrk_len]; exact h.len, fun u hu h0 => (hp u).2 (.inr (.inr (h.old u hu h0))), fun u hu h0 => ?_, fun u hu h0 => ?_, fun x y h1 h2 h3 h4 h5 => (hp _).2 (.inr (.inr (h.did x y h1 h2 h3 h4 h5)))⟩, (hp f).2 (.inr (.inl rfl)), fun u hu => (hp u).2 (.inr (.inr hu))⟩
  · rcases (hp u).1 h0 with rfl | rfl | h0
    · exact ⟨c, .neg hf hd, hc⟩
    · exact ⟨c, hd, hc⟩
    · exact h.sound u hu h0
  · rw [hp] at h0 ⊢
    rcases h0 with rfl | rfl | h0
    · exact .inr (.inl (by omega))
    · exact .inl rfl
    · exact .inr (.inr (h.sym u hu h0))
theorem MidL.skip (h : MidL n M X Y d a b) (hno : bt' X a = false ∨ bt' X b = false) : MidL n M X Y d a (b + 1) :=
  ⟨h.len, h.old, h.sound, h.sym, fun x y h1 h2 h3 h4 h5 => by
    by_cases e : x = a ∧ y = b
    · obtain ⟨rfl, rfl⟩ := e
      rcases hno with hno | hno
      · rw [hno] at h4; cases h4
      · rw [hno] at h5; cases h5
    · exact h.did x y h1 h2 (by omega) h4 h5⟩
theorem MidL.take (hg : GoodL n M X d) (h : MidL n M X Y d a b) {k : Nat} (hM : M + 1 = 2 ^ k) (hb : b < a) (ha : a ≤ M) (h1 : bt' X a = true) (h2 : bt' X b = true) :
    MidL n M X (mrk M (mrk M Y (a &&& b)) (a ||| b)) d a (b + 1) := by
  obtain ⟨c1, d1, e1⟩ := (hg.iff a ha).1 h1
  obtain ⟨c2, d2, e2⟩ := (hg.iff b (by omega)).1 h2
  have hand : a &&& b ≤ M := Nat.le_trans Nat.and_le_left ha
  have hor : a ||| b ≤ M := by have := Nat.or_lt_two_pow (n := k) (x := a) (y := b) (by omega) (by omega); omega
  have hj : Jm c1 c2 ≤ d + 1 := by show 1 + max c1 c2 ≤ d + 1; omega
  obtain ⟨m1, n1, z1⟩ := h.mark hand (.and ha (by omega) d1 d2) hj
  obtain ⟨m2, n2, z2⟩ := m1.mark hor (Der.or hM ha (by omega) d1 d2) hj
  exact ⟨m2.len, m2.old, m2.sound, m2.sym, fun x y h1 h2 h3 h4 h5 => by
    by_cases e : x = a ∧ y = b
    · obtain ⟨rfl, rfl⟩ := e; exact z2 _ n1
    · exact m2.did x y h1 h2 (by omega) h4 h5⟩
theorem MidL.row (h : MidL n M X Y d a a) : MidL n M X Y d (a + 1) 0 :=
  ⟨h.len, h.old, h.sound, h.sym, fun x y h1 h2 h3 h4 h5 => h.did x y h1 h2 (by omega) h4 h5⟩
theorem MidL.none (h : MidL n M X Y d a b) (hno : bt' X a = false) : MidL n M X Y d (a + 1) 0 :=
  ⟨h.len, h.old, h.sound, h.sym, fun x y h1 h2 h3 h4 h5 => by
    by_cases e : x = a
    · subst e; rw [hno] at h4; cases h4
    · exact h.did x y h1 h2 (by omega) h4 h5⟩
theorem MidL.done (hg : GoodL n M X d) (h : MidL n M X Y d (M + 1) 0) (hle : ∀ (f : Nat) (c : Int), Der n M 0 false Jm f c → f ≤ M) (hd0 : 0 ≤ d) : GoodL n M Y (d + 1) := by
  refine ⟨h.len, fun f hf => ⟨h.sound f hf, fun ⟨c, hc, hcd⟩ => ?_⟩⟩
  have main : ∀ {f : Nat} {c : Int}, Der n M 0 false Jm f c → c ≤ d + 1 → bt' Y f = true := by
    intro f c hc
    induction hc with
    | leaf hl => exact fun _ => h.old _ (hle _ _ (.leaf hl)) ((hg.iff _ (hle _ _ (.leaf hl))).2 ⟨0, .leaf hl, hd0⟩)
    | neg hf' _ ih => exact fun hc => h.sym _ hf' (ih hc)
    | @and x y a b hx hy h1 h2 _ _ =>
      intro hc
      have e : 1 + max a b ≤ d + 1 := hc
      have b1 := (hg.iff x hx).2 ⟨a, h1, by omega⟩
      have b2 := (hg.iff y hy).2 ⟨b, h2, by omega⟩
      rcases Nat.lt_trichotomy y x with hyx | hyx | hyx
      · exact h.did x y hyx hx (by omega) b1 b2
      · subst hyx; rw [Nat.and_self]; exact h.old _ hy b2
      · rw [Nat.and_comm]; exact h.did y x hyx hy (by omega) b2 b1
    | xor hx _ _ _ _ _ _ => cases hx
  exact main hc hcd
end
end Go.Proofs.Ytpfbommaddaijaa
namespace Go.Proofs.Ytpfbommaddaijaa
open Go.RowKit Go.Proofs.YtpfbommaddaijaaW.PrintWords
set_option linter.unusedVariables false
set_option linter.unusedSimpArgs false

/-- marks in memory -/
def Lb (w : World) (base g N c : Nat) (X : List Bool) : Prop := Kd.R Kd.bool 4 w base (fun _ => True) (.slice (some ⟨g, 0, none⟩) N c) X
theorem Lb.cell {w : World} {base g N c : Nat} {X : List Bool} (h : Lb w base g N c X) {i : Nat} (hi : i < N) : w.cell? ⟨g, i, none⟩ = some (.bool (bt' X i)) := by
  have := (Kd.R_celln false h (i : Int) (by omega) (by omega)).1
  simpa [rdOf, bt'] using this
theorem Lb.frozen {w : World} {base g N c : Nat} {X : List Bool} (h : Lb w base g N c X) {i : Nat} (hi : i < N) : w.frozen? ⟨g, i, none⟩ = false := by
  have := (Kd.R_celln false h (i : Int) (by omega) (by omega)).2
  simpa using this
theorem Lb.put {w : World} {base g N c : Nat} {X : List Bool} (h : Lb w base g N c X) (i : Nat) (b : Bool) : Lb (w.setCell ⟨g, i, none⟩ (.bool b)) base g N c (X.set i b) := by
  have := Kd.R_putn h (i : Int) b
  rw [Int.toNat_natCast] at this
  exact this
theorem Lb.base {w : World} {base g N c : Nat} {X : List Bool} (h : Lb w base g N c X) : base ≤ g := Kd.R_base h g rfl
theorem Lb.keep {w w' : World} {base g N c : Nat} {X : List Bool} (h : Lb w base g N c X) (hb : Below w.heap.size w w') : Lb w' base g N c X := Kd.R_below h hb
theorem Lb.lower {w : World} {base base' g N c : Nat} {X : List Bool} (h : Lb w base g N c X) (hb : base' ≤ base) : Lb w base' g N c X := Kd.R_lower h hb
theorem Lb.drew {w : World} {base g N c : Nat} {X : List Bool} (h : Lb w base g N c X) (m : Nat) : Lb (w.drewN m) base g N c X := Kd.R_drewN h m
/-- two marks set: l and M - l -/
theorem Lb.mark {w : World} {base g N c M l d : Nat} {X : List Bool} (h : Lb w base g N c X) (hd : d = M - l) : Lb ((w.setCell ⟨g, l, none⟩ (.bool true)).setCell ⟨g, d, none⟩ (.bool true)) base g N c (mrk M X l) := by
  rw [hd]
  exact (h.put l true).put _ true
theorem lb_made (w : World) (N : Nat) (hN : N ≤ 256) : Lb (w.alloc (.cells (madeCells #[Value.bool false] N) 4)) w.heap.size w.heap.size N N (List.replicate N false) := by
  have h := World.ownsRow_lit (base := w.heap.size) (e := 4) (size := 1) w (madeCells #[Value.bool false] N) N (Nat.le_refl _) (by unfold maxLen; omega) (by simp [madeCells])
  have e : (madeCells #[Value.bool false] N).toList = encs Value.bool (List.replicate N false) := by
    apply List.ext_getElem?
    intro i
    by_cases hi : i < N
    · simp [madeCells, encs, hi, Nat.mod_one]
    · simp [madeCells, encs, hi]
  rw [e] at h
  have hl : (List.replicate N false).length = N := by simp
  refine Kd.R_of_own ?_ (fun _ _ => trivial)
  rw [hl]
  exact h
theorem lb_shape {w : World} {base : Nat} {v : Value} {X : List Bool} (h : Kd.R Kd.bool 4 w base (fun _ => True) v X) (h0 : 0 < X.length) : ∃ g c, v = .slice (some ⟨g, 0, none⟩) X.length c := by
  have ho := Kd.own_of_R h
  rcases ho.2 with ⟨_, h2⟩ | ⟨g, cap, cur, h1, _⟩
  · omega
  · exact ⟨g, cap, h1⟩
set_option maxHeartbeats 16000000 in
set_option maxRecDepth 100000 in
theorem refLevels_any {w : World} {v : Value} {n : Nat} {f : Nat → Bool} (hn : n ≤ 3) (hb : Bs w v (2 ^ n) f) {M : Nat} (hM : M + 1 = 2 ^ 2 ^ n) {c : Int} (hd : Der n M 0 false Jm (tn f (2 ^ n)) c) (hmin : ∀ c', Der n M 0 false Jm (tn f (2 ^ n)) c' → c ≤ c') (hc : c < BIG) :
    Calls Try.prog 26 #[v] w fun e w' => e = .returned (I c) ∧ Below w.heap.size w w' := by
  obtain ⟨a, cap, rfl⟩ := hb.shape
  have hLS : ∀ l, LS n l → l ≤ M := fun l h => by have := LS_lt hn h; omega
  have hle : ∀ (f : Nat) (c : Int), Der n M 0 false Jm f c → f ≤ M := fun f c h => by
    induction h with
    | leaf hl => exact hLS _ hl
    | neg hf _ _ => omega
    | and hx _ _ _ _ _ => exact Nat.le_trans Nat.and_le_left hx
    | xor hx _ _ _ _ _ _ => cases hx
  have h256 : M ≤ 255 := by have := (hp3 ⟨n, by omega⟩).2.2; simp only at this; omega
  have hG0 := Lib.hid (good_inb hLS)
  have HLE := Lib.hid hle
  have HB := Lib.hid hb
  have HD := Lib.hid hd
  have HMIN := Lib.hid hmin
  have HM := Lib.hid hM
  have hc1 := dep_pos hd
  have hcB : c < 1048576 := hc
  have ht := hle _ _ hd
  have HRI := Lib.hid (fun w : World => refInputs_any (w := w) (a := a) (cap := cap) (len := 2 ^ n) (by have : 2 ^ n ≤ 2 ^ 3 := Nat.pow_le_pow_right (by decide) hn; omega) (inp_pow (by omega)))
  have hL8 : 2 ^ n ≤ 8 := Nat.pow_le_pow_right (n := 2) (by decide) hn
  have HCO := Lib.hid (fun (W : World) (hW : Below w.heap.size w W) => code_any (hb.keep hW) hL8)
  have hw1 := hp2 ⟨n, by omega⟩
  have hw2 := hp4 ⟨n, by omega⟩
  have hHLV : Hid (∀ t, t < n → lf t (2 ^ n) ≤ M) := Lib.hid (fun t ht => hLS _ (.inr ⟨t, ht, rfl⟩))
  simp only [← hM] at hw1 hw2
  obtain ⟨N, hN⟩ : ∃ N, N = M + 1 := ⟨_, rfl⟩
  have HN := Lib.hid hN
  rw [← hN] at hw1 hw2
  have HST := Lib.hid (fun (j v : Nat) (h1 : v < 3) (h2 : j < 8) => bit_step ⟨v, h1⟩ ⟨j, h2⟩)
  obtain ⟨L, hL⟩ : ∃ L, L = 2 ^ n := ⟨_, rfl⟩
  rw [← hL] at hG0 HB HRI HCO hw1 hw2 hHLV hL8 HD HMIN ht ⊢
  clear hb hd hmin hM hLS hle hL hc
  obtain ⟨t, htt⟩ : ∃ t, t = tn f L := ⟨_, rfl⟩
  rw [← htt] at HD HMIN HCO ht
  have hmk := run_make_row' (P := Try.prog) 29 4 (.bool false) 1 Try.underlying29 Try.info4 rfl .i64 .i64 N (by omega) (by omega)
  have HR00 : Hid (Lb (w.alloc (.cells (madeCells #[Value.bool false] N) 4)) w.heap.size w.heap.size N N (List.replicate N false)) := Lib.hid (lb_made w N (by omega))
  have HB00 : Hid (Below w.heap.size w (w.alloc (.cells (madeCells #[Value.bool false] N) 4))) := Lib.hid ((Below.refl _ _).alloc (Nat.le_refl _) _)
  have hn0 : (0 : Int) ≤ n := by omega
  have hN256 : N ≤ 256 := by omega
  have hN1 : 1 ≤ N := by omega
  have hMN : M < N := by omega
  have hN1M : (N : Int) - 1 = M := by omega
  have HIN0 : Hid (mrk M (List.replicate N false) 0 = inb M L 0) := Lib.hid (by rw [hN]; rfl)
  clear htt hN
  go_enter Try.func26, Try.ntmps26
  go_upto_region 4 with (go_at_call 17; refine (HRI.out _).mono ?_; rintro e w' ⟨rfl, rfl⟩)
  simp only [hw2]
  have c1 := HR00.out.cell (i := 0) hN1
  have q1 := HR00.out.frozen (i := 0) hN1
  have h3 := HR00.out.put 0 true
  have c3 := h3.cell hMN
  have q3 := h3.frozen hMN
  have HR0 : Hid (Lb (((w.alloc (.cells (madeCells #[Value.bool false] N) 4)).setCell ⟨w.heap.size, 0, none⟩ (.bool true)).setCell ⟨w.heap.size, M, none⟩ (.bool true)) w.heap.size w.heap.size N N (inb M L 0)) := Lib.hid (by rw [← HIN0.out]; exact HR00.out.mark (by omega))
  have HB0 : Hid (Below w.heap.size w (((w.alloc (.cells (madeCells #[Value.bool false] N) 4)).setCell ⟨w.heap.size, 0, none⟩ (.bool true)).setCell ⟨w.heap.size, M, none⟩ (.bool true))) := Lib.hid ((HB00.out.setCell (Nat.le_refl _) _).setCell (Nat.le_refl _) _)
  generalize bt' ((List.replicate N false).set 0 true) M = z3 at *
  generalize bt' (List.replicate N false) 0 = z1 at *
  clear h3 HR00 HB00 hmk HIN0
  generalize hWW : (w.alloc (.cells (madeCells #[Value.bool false] N) 4)) = WW at *
  clear hWW
  go_wp2
  clear c1 q1 c3 q3
  go_loopw [6] (fun x wr => ∃ v : Nat, v ≤ n ∧ x = I v ∧ Hid (Lb wr w.heap.size w.heap.size N N (inb M L v)) ∧ Hid (Below w.heap.size w wr)) (fun x _ => n - (intOf x).toNat)
  case atStart => exact ⟨0, by omega, rfl, HR0, HB0⟩
  case round =>
    clear HR0 HB0
    obtain ⟨v, hv, rfl, HR, HBL⟩ := hrel
    by_cases hvn : v < n
    · have hv0 : (0 : Int) ≤ v := by omega
      obtain ⟨W1, hW1⟩ : ∃ W1, W1 = wr := ⟨_, rfl⟩
      subst hW1
      go_wp2
      go_loopw [7, 8] (fun x y wr => ∃ j : Nat, j ≤ L ∧ x = I (lf v j) ∧ y = I j ∧ wr = W1) (fun _ y _ => L - (intOf y).toNat)
      case atStart => exact ⟨0, by omega, rfl, rfl, rfl⟩
      case round =>
        obtain ⟨j, hj, rfl, rfl, rfl⟩ := hrel
        by_cases hjL : j < L
        · have hst := HST.out j v (by omega) (by omega)
          have hj0 : (0 : Int) ≤ j := by omega
          generalize hL1 : lf v (j + 1) = L1 at *
          generalize lf v j = L0 at *
          have HL1 := Lib.hid hL1
          clear hL1
          go_wp2
          go_roundw
          case rel => exact ⟨j + 1, by omega, by rw [HL1.out], by go_num, by first | rfl | trivial⟩
          case measure => simp [intOf]; omega
        · obtain rfl : L = j := by omega
          have hlM := hHLV.out v hvn
          have HIN : Hid (inb M L (v + 1) = mrk M (inb M L v) (lf v L)) := Lib.hid rfl
          generalize lf v L = l at *
          generalize inb M L v = X at *
          obtain ⟨d, hd⟩ : ∃ d, d = M - l := ⟨_, rfl⟩
          have hl0 : (0 : Int) ≤ l := by omega
          have hNd : (M : Int) - l = d := by omega
          have hlN : l < N := by omega
          have hdN : d < N := by omega
          have c1 := HR.out.cell hlN
          have q1 := HR.out.frozen hlN
          have h3 := HR.out.put l true
          have c3 := h3.cell hdN
          have q3 := h3.frozen hdN
          have HR2 : Hid (Lb ((wr.setCell ⟨w.heap.size, l, none⟩ (.bool true)).setCell ⟨w.heap.size, d, none⟩ (.bool true)) w.heap.size w.heap.size N N (inb M L (v + 1))) := Lib.hid (by rw [HIN.out]; exact HR.out.mark hd)
          have HB2 : Hid (Below w.heap.size w ((wr.setCell ⟨w.heap.size, l, none⟩ (.bool true)).setCell ⟨w.heap.size, d, none⟩ (.bool true))) := Lib.hid ((HBL.out.setCell (Nat.le_refl _) _).setCell (Nat.le_refl _) _)
          generalize bt' (X.set l true) d = z3 at *
          generalize bt' X l = z1 at *
          clear h3 hd
          go_wp2
          go_roundw
          case rel => exact ⟨v + 1, by omega, by go_num, HR2, HB2⟩
          case measure => simp [intOf]; omega
    · obtain rfl : n = v := by omega
      have htN : t < N := by omega
      have ht0 : (0 : Int) ≤ t := by omega
      go_wp2
      clear hw1 hw2
      go_loopw [5, 9] (fun vv x wr => ∃ (g cp : Nat) (X : List Bool) (d : Int), vv = .slice (some ⟨g, 0, none⟩) N cp ∧ x = I d ∧ 0 ≤ d ∧ d ≤ c ∧ Hid (GoodL n M X d) ∧ Hid (Lb wr w.heap.size g N cp X) ∧ Hid (Below w.heap.size w wr)) (fun _ x _ => (c - intOf x).toNat)
      case atStart => exact ⟨_, _, _, 0, rfl, rfl, by omega, by omega, hG0, HR, HBL⟩
      case round =>
        clear hG0 HR HBL
        obtain ⟨g, cp, X, d, rfl, rfl, hd0, hdc, HG, HR, HBL⟩ := hrel
        have ct := HR.out.cell htN
        have hiff := HG.out.iff t (by omega)
        cases hz : bt' X t with
        | true =>
          rw [hz] at ct
          obtain ⟨c', h1, h2⟩ := hiff.1 hz
          have h3 := HMIN.out c' h1
          obtain rfl : d = c := by omega
          clear hiff h1 h2 h3 hz
          go_wp2_with (go_at_call 75; refine (HCO.out _ HBL.out).mono ?_; rintro e w' ⟨rfl, m, rfl⟩)
          go_ret
          exact ⟨rfl, below_drewN HBL.out _⟩
        | false =>
          rw [hz] at ct
          have hdlt : d < c := Decidable.byContradiction fun h => by
            have := hiff.2 ⟨c, HD.out, by omega⟩
            rw [hz] at this; cases this
          have hlX : X.length = N := by rw [HG.out.len]; exact HN.out.symm
          have hgl := HR.out.base
          clear hiff hz
          obtain ⟨W0, hW0⟩ : ∃ W0, W0 = wr := ⟨_, rfl⟩
          subst hW0
          have HRO : Hid (∀ m, Kd.R Kd.bool 4 ((W0.drewN m).alloc (.cells #[] 4)) W0.heap.size (fun _ => True) (.slice (some ⟨W0.heap.size, 0, none⟩) 0 0) []) := Lib.hid (fun m => Kd.R_of_own (World.ownsRow_made (base := W0.heap.size) (e := 4) (size := 1) (W0.drewN m) #[] 0 (Nat.le_refl _) (by decide) rfl) (fun _ _ => trivial))
          have HRX : Hid (∀ m, ReadsRow (Kd.bool.K ((W0.drewN m).alloc (.cells #[] 4))) Kd.bool.sz ((W0.drewN m).alloc (.cells #[] 4)) (some ⟨g, 0, none⟩) N X) := Lib.hid (fun m => by
            obtain ⟨A', c', he, _, hC⟩ := Kd.R_reads HR.out
            rw [hlX] at he hC
            cases he
            exact Kd.C_below hC ((below_drewN (Below.refl _ _) m).alloc (Nat.le_refl _) _))
          have HBO : Hid (∀ m, Below W0.heap.size W0 ((W0.drewN m).alloc (.cells #[] 4))) := Lib.hid (fun m => (below_drewN (Below.refl _ _) m).alloc (Nat.le_refl _) _)
          have hl8 : (([] : List Bool).length + N) * 1 ≤ 140737488355328 := by simp; omega
          go_wp2_with (first
            | (go_at_call 75; refine (HCO.out _ HBL.out).mono ?_; rintro e w' ⟨rfl, m, rfl⟩)
            | (at_builtin; refine Kd.R_append_rows (P := Try.prog) Kd.bool W0.heap.size rfl (.tmp 62) (.tmp 63) 29 4 (.bool false) 1 rfl Try.underlying29 Try.info4 rfl (by decide) (by decide) _ [] X (some ⟨g, 0, none⟩) N cp (fun _ => True) (fun _ => False) rfl rfl (HRO.out m) (HRX.out m) (fun _ _ h => h) (fun _ h => h.elim) (fun _ _ => trivial) (HBO.out m) (HBO.out m).size hl8 ?_; intro v2 w3 ho hb hg hat; obtain ⟨g2, cp2, rfl⟩ := lb_shape ho (by simp; omega); rw [List.nil_append, hlX] at ho; rw [List.nil_append, hlX]; have HR3 : Hid (Lb w3 W0.heap.size g2 N cp2 X) := Lib.hid ho; have HB3 := Lib.hid hb; clear ho hb hg hat))
          clear HRO HRX HBO hl8
          have hg2 := HR3.out.base
          have HGX : Hid (∀ W : World, Below W0.heap.size W0 W → ∀ i, i < N → W.cell? ⟨g, i, none⟩ = some (.bool (bt' X i))) := Lib.hid (fun W hW i hi => (HR.out.keep hW).cell hi)
          clear ct HR
          go_loopw [11] (fun x wr => ∃ (a : Nat) (Y : List Bool), a ≤ N ∧ x = I a ∧ Hid (MidL n M X Y d a 0) ∧ Hid (Lb wr W0.heap.size g2 N cp2 Y) ∧ Hid (Below W0.heap.size W0 wr)) (fun x _ => N - (intOf x).toNat)
          case atStart => exact ⟨0, X, by omega, rfl, Lib.hid (MidL.start HG.out), HR3, HB3⟩
          case round =>
            clear HR3 HB3
            obtain ⟨a, Y, haN, rfl, HMD, HR, HB⟩ := hrel
            by_cases ha : a < N
            · have ha0 : (0 : Int) ≤ a := by omega
              have haN1 : (a : Int) < N := by omega
              go_wp2
              go_loopw [12] (fun x wr => ∃ (b : Nat) (Y : List Bool), b ≤ a ∧ x = I b ∧ Hid (MidL n M X Y d a b) ∧ Hid (Lb wr W0.heap.size g2 N cp2 Y) ∧ Hid (Below W0.heap.size W0 wr)) (fun x _ => a - (intOf x).toNat)
              case atStart => exact ⟨0, Y, by omega, rfl, HMD, HR, HB⟩
              case round =>
                clear HMD HR HB
                obtain ⟨b, Y, hb1, rfl, HMD, HR, HB⟩ := hrel
                have ca := HGX.out wr HB.out a ha
                by_cases hba : b < a
                · have hb0 : (0 : Int) ≤ b := by omega
                  have hbN : (b : Int) < N := by omega
                  have cb := HGX.out wr HB.out b (by omega)
                  have haM : a ≤ M := by omega
                  cases za : bt' X a with
                  | false =>
                    rw [za] at ca
                    have HNO := Lib.hid (HMD.out.none za)
                    clear za
                    go_wp2
                    go_roundw
                    case rel => exact ⟨a + 1, Y, by omega, by go_num, HNO, HR, HB⟩
                    case measure => simp [intOf]; omega
                  | true =>
                    rw [za] at ca
                    cases zb : bt' X b with
                    | false =>
                      rw [zb] at cb
                      have HSK := Lib.hid (HMD.out.skip (.inr zb))
                      clear za zb
                      go_wp2
                      go_roundw
                      case rel => exact ⟨b + 1, Y, by omega, by go_num, HSK, HR, HB⟩
                      case measure => simp [intOf]; omega
                    | true =>
                      rw [zb] at cb
                      have HTK := Lib.hid (HMD.out.take HG.out HM.out hba haM za zb)
                      have hm1 : a &&& b ≤ M := Nat.le_trans Nat.and_le_left haM
                      have hm2 : a ||| b ≤ M := by have := Nat.or_lt_two_pow (n := 2 ^ n) (x := a) (y := b) (by have := HM.out; omega) (by have := HM.out; omega); have := HM.out; omega
                      have hk1 := and_k (a := a) (b := b) (by omega) (by omega)
                      have hk2 := or_k (a := a) (b := b) (by omega) (by omega)
                      generalize a &&& b = ab at *
                      generalize a ||| b = ob at *
                      have HZx : Hid (mrk M Y ab = mrk M Y ab) := Lib.hid rfl
                      clear za zb HMD
                      go_upto_region 25 with fail
                      obtain ⟨da, hda⟩ : ∃ da, da = M - ab := ⟨_, rfl⟩
                      have hnx : (M : Int) - ab = da := by omega
                      have hix : ab < N := by omega
                      have hjx : da < N := by omega
                      have hzx : (0 : Int) ≤ ab := by omega
                      have c1 := HR.out.cell hix
                      have q1 := HR.out.frozen hix
                      have h3 := HR.out.put ab true
                      have c3 := h3.cell hjx
                      have q3 := h3.frozen hjx
                      have HR2 : Hid (Lb ((wr.setCell ⟨g2, ab, none⟩ (.bool true)).setCell ⟨g2, da, none⟩ (.bool true)) W0.heap.size g2 N cp2 (mrk M Y ab)) := Lib.hid (by rw [HZx.out]; exact HR.out.mark hda)
                      have HB2 : Hid (Below W0.heap.size W0 ((wr.setCell ⟨g2, ab, none⟩ (.bool true)).setCell ⟨g2, da, none⟩ (.bool true))) := Lib.hid ((HB.out.setCell hg2 _).setCell hg2 _)
                      generalize bt' (Y.set ab true) da = z3 at *
                      generalize bt' Y ab = z1 at *
                      clear h3 hda
                      go_upto_region 26 with fail
                      clear c1 q1 c3 q3 HR HB ca cb
                      generalize (wr.setCell ⟨g2, ab, none⟩ (.bool true)).setCell ⟨g2, da, none⟩ (.bool true) = W2 at *
                      generalize hY2 : mrk M Y ab = Y2 at *
                      have HZy : Hid (mrk M Y2 ob = mrk M Y2 ob) := Lib.hid rfl
                      clear hY2
                      obtain ⟨db, hdb⟩ : ∃ db, db = M - ob := ⟨_, rfl⟩
                      have hny : (M : Int) - ob = db := by omega
                      have hiy : ob < N := by omega
                      have hjy : db < N := by omega
                      have hzy : (0 : Int) ≤ ob := by omega
                      have c1 := HR2.out.cell hiy
                      have q1 := HR2.out.frozen hiy
                      have h3 := HR2.out.put ob true
                      have c3 := h3.cell hjy
                      have q3 := h3.frozen hjy
                      have HR4 : Hid (Lb ((W2.setCell ⟨g2, ob, none⟩ (.bool true)).setCell ⟨g2, db, none⟩ (.bool true)) W0.heap.size g2 N cp2 (mrk M Y2 ob)) := Lib.hid (by rw [HZy.out]; exact HR2.out.mark hdb)
                      have HB4 : Hid (Below W0.heap.size W0 ((W2.setCell ⟨g2, ob, none⟩ (.bool true)).setCell ⟨g2, db, none⟩ (.bool true))) := Lib.hid ((HB2.out.setCell hg2 _).setCell hg2 _)
                      generalize bt' (Y2.set ob true) db = z3 at *
                      generalize bt' Y2 ob = z1 at *
                      clear h3 hdb
                      go_wp2
                      go_roundw
                      case rel => exact ⟨b + 1, _, by omega, by go_num, HTK, HR4, HB4⟩
                      case measure => simp [intOf]; omega
                · obtain rfl : b = a := by omega
                  go_wp2
                  go_roundw
                  case rel => exact ⟨b + 1, Y, by omega, by go_num, Lib.hid HMD.out.row, HR, HB⟩
                  case measure => simp [intOf]; omega
            · have haM : Hid (a = M + 1) := Lib.hid (by omega)
              have HG2 : Hid (GoodL n M Y (d + 1)) := Lib.hid (MidL.done HG.out (by have := HMD.out; rw [haM.out] at this; exact this) HLE.out hd0)
              have hBs := HBL.out.size
              go_wp2
              go_roundw
              case rel => exact ⟨g2, cp2, Y, d + 1, rfl, rfl, by omega, by omega, HG2, Lib.hid (HR.out.lower hBs), Lib.hid (HBL.out.trans (HB.out.mono hBs))⟩
              case measure => simp [intOf]; omega
end Go.Proofs.Ytpfbommaddaijaa
