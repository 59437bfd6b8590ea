/- The function best, for one of its joins. -/
import Derived.Test.YtpfbommaddaijaaZfKa
namespace Go.Proofs.Ytpfbommaddaijaa
open Go.RowKit Go.Maps
set_option linter.unusedVariables false
set_option linter.unusedSimpArgs false

set_option maxHeartbeats 8000000 in
set_option maxRecDepth 100000 in
theorem best50 {w : World} (n P M N : Nat) (leaf : Int) (xor : Bool) {J : Int → Int → Int} (hJ : Join J) (hl0 : 0 ≤ leaf) (hM4 : M = 1 ∨ M = 3 ∨ M = 15 ∨ M = 255) (hls : ∀ l, LS n l → l ≤ M) (hpow : ∃ k, M + 1 = 2 ^ k) (hjc : ∀ (w : World) (a b : Int), 0 ≤ a → 0 ≤ b → a ≤ BIG → b ≤ BIG → Calls Try.prog 72 #[I a, I b] w fun e w' => e = .returned (I (J a b)) ∧ w = w') (hn : n ≤ 3) (hp1 : IntKind.u64.wrap ((2 : Int) ^ n) = (P : Int)) (hp2 : wrap64 ((2 : Int) ^ min P 64) = (N : Int)) (hM : M + 1 = N) (hN : N ≤ 256) : Calls Try.prog 121 #[I n, I leaf, .bool xor, .func (.func 72) #[] #[]] w (BestR w n M N leaf xor J) := by
  have HAN := Lib.hid (fun f (hf : f ≤ M) => and_not M f hM4 hf)
  have HODD : Hid (M % 2 = 1) := Lib.hid (by omega)
  have HLS := Lib.hid hls
  have HPOW := Lib.hid hpow
  have HJC := Lib.hid hjc
  have HAX : Hid ((∀ a b : Nat, a < 256 → b < 256 → bits .and .i64 (a : Int) (b : Int) = ((a &&& b : Nat) : Int)) ∧ (∀ a b : Nat, a < 256 → b < 256 → bits .xor .i64 (a : Int) (b : Int) = ((a ^^^ b : Nat) : Int))) := Lib.hid ⟨and_i64, xor_i64⟩
  clear hpow hjc
  have HJ := Lib.hid hJ
  clear hls hJ hM4
  obtain ⟨Z, hZ1, hZ2, hZ3⟩ := make81 M N hM hN
  have hNM : (N : Int) - 1 = (M : Int) := by omega
  have h0 : (0 : Int) ≤ n := by omega
  have h1 : (0 : Int) ≤ P := by omega
  go_enter Try.func121, Try.ntmps121
  go_upto_region 2 with fail
  rw [hp2]
  clear hp1 hp2 hNM
  go_upto_region 3 with fail
  have HM0 := Lib.hid (bm_start (M := M) w hZ1 hZ2)
  generalize (((w.alloc (.cells #[I M] 3)).alloc (.cells Z 95)).alloc (.cells #[.slice (some ⟨w.heap.size + 1, 0, none⟩) N N] 90)) = w1 at *
  clear hZ1 hZ2 hZ3
  have cz1 := HM0.out.cz
  go_wp2
  clear cz1
  go_loopw [11, 27] (fun _ x wr => ∃ i : Nat, i ≤ N ∧ x = I i ∧ Hid (Bm w wr M N (E1 i))) (fun _ x _ => N - (intOf x).toNat)
  case atStart => exact ⟨0, by omega, rfl, HM0⟩
  case round =>
    clear HM0
    obtain ⟨i, hi, rfl, hbm⟩ := hrel
    by_cases hin : i < N
    · have cz1 := hbm.out.cz
      have r0 := hbm.out.cost hin
      have q0 := hbm.out.row.frozen (i * 5)
      have hi0 : (0 : Int) ≤ i := by omega
      have hi1 : (i : Int) < N := by omega
      have HN := Lib.hid (hbm.out.on (grown_set ⟨rfl, rfl, rfl, Nat.le_refl _, fun _ _ _ => rfl⟩ (.inl rfl) (i * 5) (I 1048576)) (row_cost hbm.out.row))
      go_wp2
      go_roundw
      case rel => exact ⟨i + 1, by omega, by go_num, HN⟩
      case measure => simp [intOf]; omega
    · obtain rfl : N = i := by omega
      go_wp2_with (first
        | (go_at_call 78; refine (leaves_any n hn).mono ?_; rintro e w2 ⟨rfl, hown, hb⟩; have HOW := Lib.hid hown; have HM2 := Lib.hid (hbm.out.keep hb); have hsz2 := hb.size; have HNE : Hid (w.heap.size + 3 ≤ wr.heap.size ∧ w.heap.size + 3 ≤ w2.heap.size) := Lib.hid (by have := hbm.out.sz; omega); clear hown hb)
        | (at_range; refine wpList_range_own _ rfl _ 97 rfl 3 24 law3 Try.underlying97 frm wr.heap.size (n + 1) _ rfl HOW.out ?_; intro w3 hrg0 hg0 hs0; have HRG := Lib.hid hrg0; have HM3 := Lib.hid (HM2.out.keep ⟨hg0.os, hg0.tape, hg0.output, hg0.size, fun i hi => hg0.block i hi (by simp)⟩); clear hrg0 hg0 hs0)
        | go_in)
      go_frame
      have HLV : Hid (Lv n M leaf xor J (Maps.has (Dl n n)) (E1 N)) := Lib.hid ⟨inv_E1 hM, fun _ h => h, fun l hl hf => by rw [LS_has hl] at hf; cases hf⟩
      clear HM2
      generalize wr.heap.size = bm at *
      generalize w2.heap.size = rm at *
      go_loopw [13] (fun _ wx => ∃ (left : Lit → Bool) (cnt : Nat) (E : Nat → Ent), Hid (wx.ranges Try.prog 3 frm bm rm (n + 1) (Dl n n) left cnt) ∧ Hid (Bm w wx M N E) ∧ Hid (Lv n M leaf xor J left E) ∧ Hid (w.heap.size + 3 ≤ bm ∧ w.heap.size + 3 ≤ rm)) (fun _ wx => wx.rangeLeft bm rm)
      case atStart => exact ⟨_, _, _, HRG, HM3, HLV, HNE⟩
      case round =>
        clear HRG HM3 HLV HNE HOW
        obtain ⟨left, cnt, E, HRG, HM3, HLV, HNE⟩ := hrel
        go_wp2_with (first
          | (at_next; refine wpList_next_ranges _ rfl _ rfl 3 law3 frm (fun x : Int => .int .i64 x) (fun p : Int × Int => .agg #[.int .i64 p.1, .int .i64 p.2, .slice none 0 0]) (fun key kl h => by obtain ⟨x, hx, _⟩ := Maps.keyOf_int_inv Try.underlying3 h; exact ⟨x, hx⟩) (fun v y h => by obtain ⟨p, hp, _⟩ := frm_inv v y h; exact ⟨p, hp⟩) bm rm (n + 1) _ _ _ rfl HRG.out ?_ ?_)
          | go_in)
        · intro h00 hleft
          have HLA : Hid (∀ l, LS n l → cs E l ≤ leaf) := Lib.hid fun l hl => HLV.out.laid l hl (hleft _)
          have HIN := Lib.hid HLV.out.inv
          clear h00 hleft HRG HLV
          go_wp2
          go_loopg [14] (phi E (M + 1) + 1) (fun gh x wx => ∃ (E : Nat → Ent) (mb : Bool), x = .bool mb ∧ gh = (if mb = true then phi E (M + 1) + 1 else 0) ∧ Hid (Bm w wx M N E) ∧ Hid (Inv n M leaf xor J E) ∧ Hid (∀ l, LS n l → cs E l ≤ leaf) ∧ Hid (mb = false → Clo n M leaf xor J E))
          case atStart => exact ⟨E, true, rfl, by simp, HM3, HIN, HLA, Lib.hid (fun h => by cases h)⟩
          case round =>
            clear HM3 HIN HLA
            obtain ⟨E, mb, rfl, hgh, HM3, HIN, HLA, HCL⟩ := hrel
            have cz1 := HM3.out.cz
            cases mb with
            | false =>
              go_wp2
              go_ret
              exact ⟨E, _, rfl, HM3.out.row, HIN.out, (by first | exact HCL.out rfl | exact HCL.out trivial), HM3.out.bel⟩
            | true =>
              have HGH := Lib.hid hgh
              have HPS := Lib.hid (Ps.start HIN.out HLA.out)
              obtain ⟨p0, hp0⟩ : ∃ p0, p0 = phi E (M + 1) := ⟨_, rfl⟩
              rw [← hp0] at HPS
              have HP0 := Lib.hid hp0
              have HN1 : Hid (M + 1 = N) := Lib.hid hM
              clear hgh hp0 HIN HLA HCL
              go_wp2
              clear cz1
              go_loopw [14, 52] (fun x y wx => ∃ (E : Nat → Ent) (mb : Bool) (a : Nat), a ≤ N ∧ x = .bool mb ∧ y = I a ∧ Hid (Bm w wx M N E) ∧ Hid (Ps n M leaf xor J p0 a 0 mb E)) (fun _ y _ => N - (intOf y).toNat)
              case atStart => exact ⟨E, false, 0, by omega, rfl, rfl, HM3, HPS⟩
              case round =>
                clear HM3 HPS
                obtain ⟨E, mb, a, ha, rfl, rfl, HM3, HPS⟩ := hrel
                by_cases haN : a < N
                · go_wp2
                  go_loopw [14, 16] (fun x y wx => ∃ (E : Nat → Ent) (mb : Bool) (b : Nat), b ≤ a + 1 ∧ x = .bool mb ∧ y = I b ∧ Hid (Bm w wx M N E) ∧ Hid (Ps n M leaf xor J p0 a b mb E)) (fun _ y _ => a + 1 - (intOf y).toNat)
                  case atStart => exact ⟨E, mb, 0, by omega, rfl, rfl, HM3, HPS⟩
                  case round =>
                    clear HM3 HPS
                    obtain ⟨E, mb, b, hb, rfl, rfl, HM3, HPS⟩ := hrel
                    by_cases hba : b ≤ a
                    · have _w : True := trivial
                      have haM : a ≤ M := by omega
                      have hbM : b ≤ M := by omega
                      have ha0 : (0 : Int) ≤ a := by omega
                      have ha1 : (a : Int) < N := by omega
                      have hb0 : (0 : Int) ≤ b := by omega
                      have hb1 : (b : Int) < N := by omega
                      have cz1 := HM3.out.cz
                      have ca := HM3.out.cost haN
                      have cb := HM3.out.cost (f := b) (by omega)
                      have qa := HPS.out.inv.hb a haM
                      have qb := HPS.out.inv.hb b hbM
                      have HDN := Lib.hid HPS.out.done
                      obtain ⟨c, hc⟩ : ∃ c, c = J (cs E a) (cs E b) := ⟨_, rfl⟩
                      have HCALL : Hid (∀ w : World, Calls Try.prog 72 #[I (cs E a), I (cs E b)] w fun e w' => e = .returned (I c) ∧ w' = w) := Lib.hid (fun w => by rw [hc]; exact (HJC.out w _ _ qa.1 qb.1 qa.2 qb.2).mono fun _ _ h => ⟨h.1, h.2.symm⟩)
                      have hcl : c ≤ 2 * BIG + 1 := by rw [hc]; exact HJ.out.top _ _ qa.1 qb.1 qa.2 qb.2
                      have hc0 : 0 ≤ c := by rw [hc]; have := (HJ.out.pos _ _ qa.1 qb.1).1; omega
                      have HBB : BIG = 1048576 := rfl
                      by_cases hlt : c < BIG
                      · have hd : decide ((1048576 : Int) ≤ c) = false := decide_eq_false (by omega)
                        obtain ⟨f1, hf1⟩ : ∃ f1, f1 = a &&& b := ⟨_, rfl⟩
                        obtain ⟨f2, hf2⟩ : ∃ f2, f2 = a ^^^ b := ⟨_, rfl⟩
                        have HPP : Hid (∀ (r1 : Bool) (E1 : Nat → Ent) (r2 : Bool) (E2 : Nat → Ent), r1 = decide (c < cs E f1) → E1 = (if r1 = true then setE M E f1 ⟨c, 3, a, b, false⟩ else E) → r2 = (xor && decide (c < cs E1 f2)) → E2 = (if r2 = true then setE M E1 f2 ⟨c, 5, a, b, false⟩ else E1) → Ps n M leaf xor J p0 a (b + 1) (r2 || (r1 || mb)) E2) := Lib.hid (by
                          subst hc hf1 hf2
                          intro r1 E1 r2 E2 q1 q2 q3 q4
                          exact HPS.out.pair HJ.out HODD.out HPOW.out hba haM hlt q1 q2 q3 q4)
                        have b1 : bits BinOp.and IntKind.i64 (a : Int) (b : Int) = (f1 : Int) := by rw [hf1]; exact HAX.out.1 a b (by omega) (by omega)
                        have b2 : bits BinOp.xor IntKind.i64 (a : Int) (b : Int) = (f2 : Int) := by rw [hf2]; exact HAX.out.2 a b (by omega) (by omega)
                        have f1M : f1 ≤ M := by rw [hf1]; exact Nat.le_trans Nat.and_le_left haM
                        have f2M : f2 ≤ M := by
                          obtain ⟨k, hk⟩ := HPOW.out
                          have := Nat.xor_lt_two_pow (n := k) (x := a) (y := b) (by omega) (by omega)
                          omega
                        obtain ⟨r1, hr1⟩ : ∃ r1, r1 = decide (c < cs E f1) := ⟨_, rfl⟩
                        obtain ⟨E1, hE1⟩ : ∃ E1, E1 = if r1 = true then setE M E f1 ⟨c, 3, a, b, false⟩ else E := ⟨_, rfl⟩
                        have S1 : Hid (∀ nq, Calls Try.prog 144 #[I f1, .agg #[I c, .int .i64 3, I a, I b, .bool false], .pointer (some ⟨w.heap.size + 1 + 1, 0, none⟩), .pointer (some ⟨w.heap.size, 0, none⟩)] (wr.drewN nq) fun e w' => e = .returned (.bool r1) ∧ Bm w w' M N E1) := Lib.hid (fun nq => by
                          have h := set_bm (HM3.out.drew nq) (f := f1) (by omega) hN HN1.out (HAN.out f1 f1M) c 3 a b false hr1
                          refine h.mono ?_
                          rintro e w' ⟨h1, h2, _⟩
                          exact ⟨h1, by rw [hE1]; exact h2⟩)
                        cases xor with
                        | false =>
                          have HFIN : Hid (Ps n M leaf false J p0 a (b + 1) (false || (r1 || mb)) E1) := Lib.hid (HPP.out r1 E1 false E1 hr1 hE1 (by rw [Bool.false_and]) (by rw [if_neg (by decide)]))
                          clear hr1 hE1 hf1 hf2 HPP HDN hc 
                          cases r1 with
                          | false =>
                            go_upto_region 29 with fail
                            go_quiet (first | (go_at_call 72; refine Calls.quiet_of_same (HCALL.out _)))
                            go_wp2_with (first | (go_at_call 144; (with_reducible refine (S1.out _).mono ?_); rintro e w5 ⟨rfl, hm⟩; have HM5 := Lib.hid hm; clear hm))
                            go_roundw
                            case rel => exact ⟨_, _, b + 1, by omega, rfl, by go_num, HM5, HFIN⟩
                            case measure => simp [intOf]; omega
                          | true =>
                            go_upto_region 29 with fail
                            go_quiet (first | (go_at_call 72; refine Calls.quiet_of_same (HCALL.out _)))
                            go_wp2_with (first | (go_at_call 144; (with_reducible refine (S1.out _).mono ?_); rintro e w5 ⟨rfl, hm⟩; have HM5 := Lib.hid hm; clear hm))
                            go_roundw
                            case rel => exact ⟨_, _, b + 1, by omega, rfl, by go_num, HM5, HFIN⟩
                            case measure => simp [intOf]; omega
                        | true =>
                          obtain ⟨r2, hr2⟩ : ∃ r2, r2 = decide (c < cs E1 f2) := ⟨_, rfl⟩
                          obtain ⟨E2, hE2⟩ : ∃ E2, E2 = if r2 = true then setE M E1 f2 ⟨c, 5, a, b, false⟩ else E1 := ⟨_, rfl⟩
                          have S2 : Hid (∀ W, Bm w W M N E1 → Calls Try.prog 144 #[I f2, .agg #[I c, .int .i64 5, I a, I b, .bool false], .pointer (some ⟨w.heap.size + 1 + 1, 0, none⟩), .pointer (some ⟨w.heap.size, 0, none⟩)] W fun e w' => e = .returned (.bool r2) ∧ Bm w w' M N E2) := Lib.hid (fun W hW => by
                            have h := set_bm hW (f := f2) (by omega) hN HN1.out (HAN.out f2 f2M) c 5 a b false hr2
                            refine h.mono ?_
                            rintro e w' ⟨h1, h2, _⟩
                            exact ⟨h1, by rw [hE2]; exact h2⟩)
                          have HFIN : Hid (Ps n M leaf true J p0 a (b + 1) (r2 || (r1 || mb)) E2) := Lib.hid (HPP.out r1 E1 r2 E2 hr1 hE1 (by rw [hr2, Bool.true_and]) hE2)
                          clear hr1 hE1 hf1 hf2 HPP HDN hc hr2 hE2
                          cases r1 with
                          | false =>
                            cases r2 with
                            | false =>
                              go_upto_region 29 with fail
                              go_quiet (first | (go_at_call 72; refine Calls.quiet_of_same (HCALL.out _)))
                              go_wp2_with (first | (go_at_call 144; (with_reducible refine (S2.out _ HM5.out).mono ?_); rintro e w6 ⟨rfl, hm⟩; have HM6 := Lib.hid hm; clear hm) | (go_at_call 144; (with_reducible refine (S1.out _).mono ?_); rintro e w5 ⟨rfl, hm⟩; have HM5 := Lib.hid hm; clear hm))
                              go_roundw
                              case rel => exact ⟨_, _, b + 1, by omega, rfl, by go_num, HM6, HFIN⟩
                              case measure => simp [intOf]; omega
                            | true =>
                              go_upto_region 29 with fail
                              go_quiet (first | (go_at_call 72; refine Calls.quiet_of_same (HCALL.out _)))
                              go_wp2_with (first | (go_at_call 144; (with_reducible refine (S2.out _ HM5.out).mono ?_); rintro e w6 ⟨rfl, hm⟩; have HM6 := Lib.hid hm; clear hm) | (go_at_call 144; (with_reducible refine (S1.out _).mono ?_); rintro e w5 ⟨rfl, hm⟩; have HM5 := Lib.hid hm; clear hm))
                              go_roundw
                              case rel => exact ⟨_, _, b + 1, by omega, rfl, by go_num, HM6, HFIN⟩
                              case measure => simp [intOf]; omega
                          | true =>
                            cases r2 with
                            | false =>
                              go_upto_region 29 with fail
                              go_quiet (first | (go_at_call 72; refine Calls.quiet_of_same (HCALL.out _)))
                              go_wp2_with (first | (go_at_call 144; (with_reducible refine (S2.out _ HM5.out).mono ?_); rintro e w6 ⟨rfl, hm⟩; have HM6 := Lib.hid hm; clear hm) | (go_at_call 144; (with_reducible refine (S1.out _).mono ?_); rintro e w5 ⟨rfl, hm⟩; have HM5 := Lib.hid hm; clear hm))
                              go_roundw
                              case rel => exact ⟨_, _, b + 1, by omega, rfl, by go_num, HM6, HFIN⟩
                              case measure => simp [intOf]; omega
                            | true =>
                              go_upto_region 29 with fail
                              go_quiet (first | (go_at_call 72; refine Calls.quiet_of_same (HCALL.out _)))
                              go_wp2_with (first | (go_at_call 144; (with_reducible refine (S2.out _ HM5.out).mono ?_); rintro e w6 ⟨rfl, hm⟩; have HM6 := Lib.hid hm; clear hm) | (go_at_call 144; (with_reducible refine (S1.out _).mono ?_); rintro e w5 ⟨rfl, hm⟩; have HM5 := Lib.hid hm; clear hm))
                              go_roundw
                              case rel => exact ⟨_, _, b + 1, by omega, rfl, by go_num, HM6, HFIN⟩
                              case measure => simp [intOf]; omega
                      · have hd : decide ((1048576 : Int) ≤ c) = true := decide_eq_true (by omega)
                        have HFIN : Hid (Ps n M leaf xor J p0 a (b + 1) mb E) := Lib.hid (HDN.out hba (fun _ h => absurd h (by rw [← hc]; exact hlt)))
                        clear hc HDN
                        go_upto_region 29 with fail
                        go_quiet (first | (go_at_call 72; refine Calls.quiet_of_same (HCALL.out _)))
                        go_wp2
                        go_roundw
                        case rel => exact ⟨E, mb, b + 1, by omega, rfl, by go_num, Lib.hid (HM3.out.drew _), HFIN⟩
                        case measure => simp [intOf]; omega
                    · obtain rfl : b = a + 1 := by omega
                      go_wp2
                      go_roundw
                      case rel => exact ⟨E, mb, a + 1, by omega, rfl, by go_num, HM3, Lib.hid HPS.out.row⟩
                      case measure => simp [intOf]; omega
                · obtain rfl : a = N := by omega
                  go_wp2
                  go_roundg (if mb = true then phi E (M + 1) + 1 else 0)
                  case rel => exact ⟨E, mb, rfl, rfl, HM3, Lib.hid HPS.out.inv, Lib.hid HPS.out.lv, Lib.hid (fun h => by
                    subst h
                    have h2 := HPS.out
                    rw [← HN1.out] at h2
                    exact h2.clo)⟩
                  case measure =>
                    rw [HGH.out]
                    simp only [if_true]
                    rw [← HP0.out]
                    have h2 := HPS.out
                    cases mb with
                    | false => simp
                    | true => have := h2.tr rfl; simp; omega
        · intro x c1 c2 kl y1 y2 w4 cnt1 hkey hlx hR hat hrg1 hlt hg1 hs1 hen
          obtain ⟨x', e1, e2, _⟩ := Maps.keyOf_int_inv Try.underlying3 hkey
          cases e1
          subst e2
          obtain ⟨l, hl, rfl⟩ := has_LS (HLV.out.keys _ hlx)
          have hlM := HLS.out l hl
          have HM4 := Lib.hid (HM3.out.far hg1 HNE.out.2)
          have HL := Lib.hid hl
          have HLT := Lib.hid hlt
          have HRG1 := Lib.hid hrg1
          have HLV1 := Lib.hid (HLV.out.next HJ.out HODD.out hl0 hl hlM HLS.out (r := decide (leaf < cs E l)) rfl)
          have HSET := Lib.hid (set_bm HM4.out (f := l) (by omega) hN hM (HAN.out l hlM) leaf (-1) l 0 false (r := decide (leaf < cs E l)) rfl)
          clear hkey hlx hR hat hrg1 hlt hg1 hs1 hl
          go_wp2_with (go_at_call 144; refine HSET.out.mono ?_; rintro e w5 ⟨rfl, hbm5, hg5⟩; have HM5 := Lib.hid hbm5; have HRG5 := Lib.hid (HRG1.out.kept hg5 (by have := HNE.out; simp; omega) (by have := HNE.out; simp; omega)); clear hbm5 hg5)
          go_roundw
          case rel => exact ⟨_, _, _, HRG5, HM5, HLV1, HNE⟩
          case measure => rw [HRG5.out.left_eq, HRG.out.left_eq]; exact HLT.out
end Go.Proofs.Ytpfbommaddaijaa

