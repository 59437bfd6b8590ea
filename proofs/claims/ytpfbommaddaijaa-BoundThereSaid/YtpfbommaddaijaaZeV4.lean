/- formula's walk, walked. -/
import Derived.Test.YtpfbommaddaijaaZex17
namespace Go.Proofs.Ytpfbommaddaijaa
open Go.RowKit Go.Maps Go.Proofs.YtpfbommaddaijaaW.PrintWords Go.Proofs.YtpfbommaddaijaaW.PrintLast PBoundTo
set_option linter.unusedVariables false
set_option linter.unusedSimpArgs false

set_option maxHeartbeats 8000000 in
set_option maxRecDepth 100000 in
theorem walk_any (m : Nat) : ∀ (x : S24) {w0 W : World} {A : Option Addr} {c gn N S L : Nat} {D In Ne : Int}, fns x ≤ m → Kd.C k24 w0 A x.f2.length x.f2 → Below w0.heap.size w0 W → w0.heap.size ≤ gn → N ≤ 20000 → S ≤ N → L ≤ 1001 → 0 ≤ In → W.heap[gn]? = some (.cells #[I N, I S, I D, I In, I Ne] 149 (0, 0)) →
    Calls Try.prog 145 #[.pointer (some ⟨gn, 0, none⟩), .agg #[I x.f0, I x.f1, .slice A x.f2.length c], I L] W (WkR W gn N S L D In Ne x) := by
  induction m with
  | zero => intro x _ _ _ _ _ _ _ _ _ _ _ h; exact absurd h (by have := fns_pos x; omega)
  | succ m ih =>
  intro x w0 W A c gn N S L D In Ne hm hC hB hg0 hN hS hL hIn hcell
  have hkids : x.f2.length ≤ 9223372036854775807 := by have := hC.2.1; omega
  have hm' : ∀ i, i < x.f2.length → fns (rd_T24 x.f2 i) ≤ m := fun i hi => by have := fns_kid x.f2 i hi; have := fns_eq x; omega
  have hsh := fsh_eq x
  have hfnd := fnd_pos x
  have hfns := fns_pos x
  obtain ⟨W1, hW1⟩ : ∃ W1, W1 = W.alloc (.cells #[I x.f0, I x.f1, .slice A x.f2.length c] 24) := ⟨_, rfl⟩
  have hG1 : W.grownBy W1 (some gn) := by rw [hW1]; exact World.grownBy_alloc _ _ _
  have hgn : gn < W.heap.size := blk_lt hcell
  have BK : W1.heap[W.heap.size]? = some (.cells #[I x.f0, I x.f1, .slice A x.f2.length c] 24 (0, 0)) := by rw [hW1]; exact blk_new _ _
  have hcell1 : W1.heap[gn]? = some (.cells #[I N, I S, I D, I In, I Ne] 149 (0, 0)) := by rw [hW1]; exact blk_alloc hcell _
  have d0 : W1.cell? ⟨gn, 0, none⟩ = some (I N) := (blk_cell hcell1 0).trans rfl
  have f0 := blk_frozen hcell1 0
  have hN0 : (N : Int) ≤ 20000 := by omega
  have HM := Lib.hid hm'
  have HSH := Lib.hid hsh
  have HND := Lib.hid hfnd
  have HNS := Lib.hid hfns
  have HG1 := Lib.hid hG1
  have HGN := Lib.hid hgn
  have HBK := Lib.hid BK
  have HC1 := Lib.hid hcell1
  have HKM := Lib.hid hkids
  have HC := Lib.hid hC
  have HB := Lib.hid hB
  have HG0 := Lib.hid hg0
  have HN := Lib.hid hN
  have HS := Lib.hid hS
  have HL := Lib.hid hL
  have HIN := Lib.hid hIn
  clear hm hm' hsh hfnd hfns hG1 hgn BK hcell1 hcell hkids hC hB hg0 hN hS hIn
  go_enter Try.func145, Try.ntmps145
  go_upto_region 1 with fail
  rw [← hW1]
  clear hW1
  go_upto_region 2 with fail
  obtain ⟨N1, hN1⟩ : ∃ N1 : Nat, N1 = N + 1 := ⟨_, rfl⟩
  have e1 : ((N : Int) + 1) = (N1 : Int) := by omega
  have hN1b : N1 ≤ 20001 := by have := HN.out; omega
  have HN1 := Lib.hid hN1
  rw [e1]
  have HBK2 : Hid ((W1.setCell ⟨gn, 0, none⟩ (I N1)).heap[W.heap.size]? = some (.cells #[I x.f0, I x.f1, .slice A x.f2.length c] 24 (0, 0))) := Lib.hid (blk_far HBK.out (show W.heap.size ≠ gn from Nat.ne_of_gt HGN.out) _)
  have HC2 : Hid ((W1.setCell ⟨gn, 0, none⟩ (I N1)).heap[gn]? = some (.cells #[I N1, I S, I D, I In, I Ne] 149 (0, 0))) := Lib.hid (blk_set HC1.out 0 (I N1))
  have HG2 : Hid (W.grownBy (W1.setCell ⟨gn, 0, none⟩ (I N1)) (some gn)) := Lib.hid (grown_set HG1.out (.inl rfl) _ _)
  clear HBK HC1 HG1 d0 f0 e1 hN1 hN0
  generalize W1.setCell ⟨gn, 0, none⟩ (I N1) = W2 at *
  have d0 : W2.cell? ⟨gn, 0, none⟩ = some (I N1) := (blk_cell HC2.out 0).trans rfl
  have k0 : W2.cell? ⟨W.heap.size, 0, none⟩ = some (I x.f0) := (blk_cell HBK2.out 0).trans rfl
  have k1 : W2.cell? ⟨W.heap.size, 1, none⟩ = some (I x.f1) := (blk_cell HBK2.out 1).trans rfl
  have k2 : W2.cell? ⟨W.heap.size, 2, none⟩ = some (.slice A x.f2.length c) := (blk_cell HBK2.out 2).trans rfl
  by_cases hbig : (20000 : Int) < (N1 : Int)
  · have hr : Hid (wok N L x = false) := Lib.hid (by
      cases e : wok N L x with
      | false => rfl
      | true => have := (wok_true.1 e).2.1; have := HND.out; have := HN1.out; omega)
    go_wp2
    go_ret2
    unfold WkR
    rw [hr.out]
    exact ⟨0, N1, S, In, rfl, HG2.out, HC2.out, HIN.out, fun h => by cases h⟩
  by_cases hdeep : (1000 : Int) < (L : Int)
  · have hr : Hid (wok N L x = false) := Lib.hid (by
      cases e : wok N L x with
      | false => rfl
      | true => have := (wok_true.1 e).2.2; have := HNS.out; omega)
    go_wp2
    go_ret2
    unfold WkR
    rw [hr.out]
    exact ⟨0, N1, S, In, rfl, HG2.out, HC2.out, HIN.out, fun h => by cases h⟩
  have HL0 : Hid (L ≤ 1000) := Lib.hid (by omega)
  have HN0 : Hid (N1 ≤ 20000) := Lib.hid (by omega)
  have HNK := Lib.hid (fun (w : World) => node_any (W := w) x.f0 x.f1 A x.f2.length c)
  cases hnk : nok x.f0 x.f1 x.f2.length with
  | false =>
    rw [hnk] at HNK
    have hr : Hid (wok N L x = false) := Lib.hid (by
      cases e : wok N L x with
      | false => rfl
      | true => have h1 := (wok_true.1 e).1; rw [HSH.out, hnk] at h1; cases h1)
    clear hnk
    go_wp2_with (go_at_call 152; (with_reducible refine (HNK.out _).mono ?_); rintro e w3 ⟨rfl, hb⟩; have HB3 := Lib.hid hb; clear hb)
    go_ret2
    unfold WkR
    rw [hr.out]
    exact ⟨0, N1, S, In, rfl, HG2.out.trans (grown_of_below HB3.out _), (HB3.out.block gn (blk_lt HC2.out)).trans HC2.out, HIN.out, fun h => by cases h⟩
  | true =>
    rw [hnk] at HNK
    have HK := Lib.hid hnk
    clear hnk
    by_cases hlf : 0 < x.f2.length
    · have hk0 : ¬ x.f0 = 0 := fun h0 => by
        have h := HK.out
        rw [h0] at h
        simp [nok] at h
        have h := h.2
        rw [h] at hlf
        exact absurd hlf (by simp)
      have HK0 := Lib.hid hk0
      have HLF := Lib.hid hlf
      have hz : ((x.f2.length : Int) == 0) = false := beq_eq_false_iff_ne.2 (by omega)
      have HST : Hid (Wi x N S L In 0 0 N1 S In) := Lib.hid (by
        refine ⟨?_, ?_, ?_, ?_, ?_, ?_, HN0.out, ?_, HIN.out, by omega⟩
        · rw [List.drop_zero, fnd_eq]; have := HN1.out; omega
        · rw [List.drop_zero, fsz_node x hlf]
        · rw [List.drop_zero, HSH.out, HK.out]; rfl
        · rw [List.drop_zero, fns_eq]; omega
        · rw [List.drop_zero]; omega
        · rw [List.drop_zero]
        · have := HS.out; have := HN1.out; omega)
      clear hk0 hlf
      go_upto_region 4 with (go_at_call 152; (with_reducible refine (HNK.out _).mono ?_); rintro e w3 ⟨rfl, hb⟩; have HC3 : Hid (w3.heap[gn]? = some (.cells #[I N1, I S, I D, I In, I Ne] 149 (0, 0))) := Lib.hid (blk_below HC2.out hb); have HBK3 : Hid (w3.heap[W.heap.size]? = some (.cells #[I x.f0, I x.f1, .slice A x.f2.length c] 24 (0, 0))) := Lib.hid (blk_below HBK2.out hb); have HG3 : Hid (W.grownBy w3 (some gn)) := Lib.hid (HG2.out.trans (grown_of_below hb _)); clear hb d0 k0 k1 k2)
      have k0 : w3.cell? ⟨W.heap.size, 0, none⟩ = some (I x.f0) := (blk_cell HBK3.out 0).trans rfl
      have k2 : w3.cell? ⟨W.heap.size, 2, none⟩ = some (.slice A x.f2.length c) := (blk_cell HBK3.out 2).trans rfl
      go_wp2
      go_loopw [8, 62] (fun u y wr => ∃ (i d Ni Si : Nat) (Ini : Int), i ≤ x.f2.length ∧ u = I d ∧ y = I i ∧ Hid (Wi x N S L In i d Ni Si Ini) ∧ Hid (wr.heap[gn]? = some (.cells #[I Ni, I Si, I D, I Ini, I Ne] 149 (0, 0))) ∧ Hid (wr.heap[W.heap.size]? = some (.cells #[I x.f0, I x.f1, .slice A x.f2.length c] 24 (0, 0))) ∧ Hid (W.grownBy wr (some gn))) (fun _ y _ => x.f2.length - (intOf y).toNat)
      case atStart => exact ⟨0, 0, N1, S, In, Nat.zero_le _, rfl, rfl, HST, HC3, HBK3, HG3⟩
      case round =>
        clear HST HC3 HBK3 HG3 k0 k2
        obtain ⟨i, d, Ni, Si, Ini, hi, rfl, rfl, HWI, HCr, HBr, HGr⟩ := hrel
        by_cases hin : i < x.f2.length
        · have HBW : Below w0.heap.size w0 wr := pw_below_grown HB.out (some gn) HB.out.size HGr.out (fun k hk => by cases hk; exact HG0.out)
          obtain ⟨ad, A2, c2, rfl, x0, x1, x2, l2, i2⟩ := at_T24 HC.out (i : Int) (by omega) (by omega)
          simp only [Int.toNat_natCast] at x0 x1 x2
          replace x0 := cell_keep' HBW x0
          replace x1 := cell_keep' HBW x1
          replace x2 := cell_keep' HBW x2
          have hwi : wrap64 ((i : Int) + 1) = ((i + 1 : Nat) : Int) := wr_lt hin HKM.out
          have h0i : (0 : Int) ≤ i := by omega
          have h1i : (i : Int) < x.f2.length := by omega
          have hL1 : ((L + 1 : Nat) : Int) = (L : Int) + 1 := by omega
          have HI := Lib.hid (fun (W' : World) (h : Below wr.heap.size wr W') => ih (rd_T24 x.f2 i) (W := W') (c := c2) (L := L + 1) (D := D) (Ne := Ne) (HM.out i hin) i2 (HBW.trans (h.mono HBW.size)) HG0.out HWI.out.hN HWI.out.hS (by have := HL0.out; omega) HWI.out.hI (blk_below HCr.out h))
          rw [hL1] at HI
          unfold WkR at HI
          have HIN' := Lib.hid hin
          have hdl : fdp (rd_T24 x.f2 i) ≤ 4000 ∨ wok Ni (L + 1) (rd_T24 x.f2 i) = false := by
            cases e : wok Ni (L + 1) (rd_T24 x.f2 i) with
            | false => exact .inr rfl
            | true => have := (wok_true.1 e).2.2; have := fdp_le (rd_T24 x.f2 i); left; omega
          have HDL := Lib.hid hdl
          clear hdl hL1 HBW i2 l2
          cases hok : wok Ni (L + 1) (rd_T24 x.f2 i) with
          | false =>
            rw [hok] at HI
            have hr : Hid (wok N L x = false) := Lib.hid (HWI.out.bad hin hok)
            clear hok
            go_wp2_with (go_at_call 145; (with_reducible refine (HI.out _ ?_).mono ?_); exact (Below.refl _ _).alloc (Nat.le_refl _) _; rintro e w7 ⟨d7, N7, S7, I7, rfl, hg7, hc7, hi7, _⟩; have HG7 := Lib.hid hg7; have HC7 := Lib.hid hc7; have HI7 := Lib.hid hi7; clear hg7 hc7 hi7)
            go_ret2
            unfold WkR
            rw [hr.out]
            exact ⟨0, N7, S7, I7, rfl, (HGr.out.trans (World.grownBy_alloc _ _ _)).trans HG7.out, HC7.out, HI7.out, fun h => by cases h⟩
          | true =>
            rw [hok] at HI
            have HOK := Lib.hid hok
            clear hok
            go_upto_region 16 with (go_at_call 145; (with_reducible refine (HI.out _ ?_).mono ?_); exact (Below.refl _ _).alloc (Nat.le_refl _) _; rintro e w7 ⟨d7, N7, S7, I7, rfl, hg7, hc7, hi7, hx7⟩; have HG7 := Lib.hid hg7; have HC7 := Lib.hid hc7; have HI7 := Lib.hid hi7; have HX7 := Lib.hid (hx7 rfl); clear hg7 hc7 hi7 hx7)
            by_cases hmx : d < d7
            all_goals
              go_wp2
              go_roundw
              case rel =>
                have hst := HWI.out.step HIN'.out HOK.out HX7.out (HDL.out.elim id (fun h => by rw [HOK.out] at h; cases h)) (fsz_le _).1
                exact ⟨i + 1, max d d7, N7, S7, I7, HIN'.out, by first | rw [Nat.max_eq_right (Nat.le_of_lt hmx)] | rw [Nat.max_eq_left (Nat.le_of_not_lt hmx)], by rw [hwi], Lib.hid hst, HC7, Lib.hid (blk_grown (blk_alloc HBr.out _) HG7.out (fun e => by injection e with e; exact absurd HGN.out (by omega))), Lib.hid ((HGr.out.trans (World.grownBy_alloc _ _ _)).trans HG7.out)⟩
              case measure => exact meas hwi HIN'.out
        · have hil : i = x.f2.length := by omega
          rw [hil] at HWI
          obtain ⟨l1, l2, l3, l4, l5⟩ := HWI.out.last HK0.out HL0.out HLF.out (finL_nn _ HLF.out (by have h := HWI.out.sh; rw [List.drop_length, fL_nil.2.2.2.2, fsh_eq, Bool.and_eq_true] at h; exact h.2))
          have hr : Hid (wok N L x = true) := Lib.hid l1
          have HE := Lib.hid (And.intro l2 (And.intro l3 (And.intro l4 l5)))
          have hin' : ¬ ((i : Int) < (x.f2.length : Int)) := by omega
          have hd4 : (d : Int) ≤ 4000 := by have := HWI.out.hd; omega
          have hco := cost_le x.f0
          have k0 : wr.cell? ⟨W.heap.size, 0, none⟩ = some (I x.f0) := (blk_cell HBr.out 0).trans rfl
          have HIM0 : Hid (Im (wr.alloc (.map #[] 0)) wr.heap.size []) := Lib.hid (by show (wr.heap.push _)[wr.heap.size]? = _; simp [Ime])
          have HLW : Hid (W.heap.size < wr.heap.size) := Lib.hid (blk_lt HBr.out)
          have HGA : Hid (W.grownBy (wr.alloc (.map #[] 0)) (some gn)) := Lib.hid (HGr.out.trans (World.grownBy_alloc _ _ _))
          have HCA : Hid ((wr.alloc (.map #[] 0)).heap[gn]? = some (.cells #[I Ni, I Si, I D, I Ini, I Ne] 149 (0, 0))) := Lib.hid (blk_alloc HCr.out _)
          have HBA : Hid ((wr.alloc (.map #[] 0)).heap[W.heap.size]? = some (.cells #[I x.f0, I x.f1, .slice A x.f2.length c] 24 (0, 0))) := Lib.hid (blk_alloc HBr.out _)
          have hmm := @run_makeMap Try.prog
          clear l1 l2 l3 l4 l5 hil hin
          have HNE1 : Hid (gn ≠ wr.heap.size ∧ W.heap.size ≠ wr.heap.size) := Lib.hid (by have := HGN.out; have := HLW.out; omega)
          go_wp2_with (first
            | (refine wpList_im_put (b := wr.heap.size) (l := []) (k := 3) (d := 1) rfl (.tmp 81) (.const (I 3)) (.const (I 1)) rfl rfl HIM0.out rfl rfl rfl ?_; intro w8 him hg; have HIM1 := Lib.hid him; have HGB := Lib.hid hg; clear him hg)
            | (refine wpList_im_put (b := wr.heap.size) (l := [(3, 1)]) (k := 4) (d := 1) rfl (.tmp 81) (.const (I 4)) (.const (I 1)) rfl rfl HIM1.out rfl rfl rfl ?_; intro w9 him hg; have HIM2 := Lib.hid him; have HGC := Lib.hid hg; clear him hg)
            | (refine wpList_im_put (b := wr.heap.size) (l := [(3, 1), (4, 1)]) (k := 5) (d := 2) rfl (.tmp 81) (.const (I 5)) (.const (I 2)) rfl rfl HIM2.out rfl rfl rfl ?_; intro w10 him hg; have HIM3 := Lib.hid him; have HGD := Lib.hid ((HGB.out.trans HGC.out).trans hg); clear him hg; have HBZ := Lib.hid (blk_grown HBA.out HGD.out (fun e => by injection e with e; exact HNE1.out.2 e)); have k0 : w10.cell? ⟨W.heap.size, 0, none⟩ = some (I x.f0) := (blk_cell HBZ.out 0).trans rfl)
            | (at_lookup; refine wpList_im_look (b := wr.heap.size) (l := [(3, 1), (4, 1), (5, 2)]) (k := x.f0) (v := (cost x.f0 : Int)) rfl (.tmp 82) (.tmp 84) rfl rfl HIM3.out rfl (im_cost _) ?_))
          go_ret2
          unfold WkR
          rw [hr.out]
          obtain ⟨e1, e2, e3, e4⟩ := HE.out
          refine ⟨d + cost x.f0, Ni, Si, Ini, by simp, ?_, blk_grown HCA.out HGD.out (fun e => by injection e with e; exact HNE1.out.1 e), HWI.out.hI, fun _ => ⟨e1, e2, e3, e4⟩⟩
          have hg := HGA.out
          have hd := HGD.out
          exact ⟨hd.os.trans hg.os, hd.tape.trans hg.tape, hd.output.trans hg.output, Nat.le_trans hg.size hd.size, fun k hk hne => (hd.block k (Nat.lt_of_lt_of_le hk hg.size) (fun e => by injection e with e; have := HLW.out; omega)).trans (hg.block k hk hne)⟩
    · have hnil : x.f2 = [] := List.eq_nil_of_length_eq_zero (by omega)
      have hkk : x.f0 = 0 ∨ x.f0 = 1 := by
        have h := HK.out
        rw [hnil] at h
        unfold nok at h
        by_cases q0 : x.f0 = 0
        · exact .inl q0
        by_cases q1 : x.f0 = 1
        · exact .inr q1
        rw [if_neg q0, if_neg q1] at h
        by_cases q2 : x.f0 = 2
        · rw [if_pos q2] at h; simp at h
        rw [if_neg q2] at h
        split at h <;> simp at h
      have hwk : Hid (wok N L x = true) := Lib.hid (wok_true.2 ⟨by rw [HSH.out, HK.out, hnil, fL_nil.2.2.2.2]; rfl, by rw [fnd_eq, hnil, fL_nil.1]; have := HN0.out; have := HN1.out; omega, by rw [fns_eq, hnil, fL_nil.2.1]; have := HL0.out; omega⟩)
      have hsz : Hid (fsz x = 1) := Lib.hid (fsz_leaf x hnil)
      have hnd : Hid (fnd x = 1) := Lib.hid (by rw [fnd_eq, hnil, fL_nil.1])
      have hdp : Hid (fdp x = 0) := Lib.hid (by rw [fdp_eq, hnil, fL_nil.2.2.2.1]; rcases hkk with h | h <;> rw [h] <;> rfl)
      have hfin : Hid (fin x = max (if x.f0 = 0 then x.f1 + 1 else 0) (-9223372036854775808)) := Lib.hid (by rw [fin_eq, hnil, finL])
      have hlen : Hid (x.f2.length = 0) := Lib.hid (by rw [hnil]; rfl)
      have hz : ((x.f2.length : Int) == 0) = true := by rw [hnil]; rfl
      have hS0 : (S : Int) ≤ 20000 := by have := HS.out; have := HN.out; omega
      clear hnil
      go_upto_region 4 with (go_at_call 152; (with_reducible refine (HNK.out _).mono ?_); rintro e w3 ⟨rfl, hb⟩; have HC3 : Hid (w3.heap[gn]? = some (.cells #[I N1, I S, I D, I In, I Ne] 149 (0, 0))) := Lib.hid (blk_below HC2.out hb); have HBK3 : Hid (w3.heap[W.heap.size]? = some (.cells #[I x.f0, I x.f1, .slice A x.f2.length c] 24 (0, 0))) := Lib.hid (blk_below HBK2.out hb); have HG3 : Hid (W.grownBy w3 (some gn)) := Lib.hid (HG2.out.trans (grown_of_below hb _)); clear hb d0 k0 k1 k2)
      have k0 : w3.cell? ⟨W.heap.size, 0, none⟩ = some (I x.f0) := (blk_cell HBK3.out 0).trans rfl
      have k1 : w3.cell? ⟨W.heap.size, 1, none⟩ = some (I x.f1) := (blk_cell HBK3.out 1).trans rfl
      have k2 : w3.cell? ⟨W.heap.size, 2, none⟩ = some (.slice A x.f2.length c) := (blk_cell HBK3.out 2).trans rfl
      have d1 : w3.cell? ⟨gn, 1, none⟩ = some (I S) := (blk_cell HC3.out 1).trans rfl
      have f1 := blk_frozen HC3.out 1
      go_upto_region 6 with fail
      have hne : W.heap.size ≠ gn := Nat.ne_of_gt HGN.out
      have HBK4 : Hid ((w3.setCell ⟨gn, 1, none⟩ (I ((S : Int) + 1))).heap[W.heap.size]? = some (.cells #[I x.f0, I x.f1, .slice A x.f2.length c] 24 (0, 0))) := Lib.hid (blk_far HBK3.out hne _)
      have HC4 : Hid ((w3.setCell ⟨gn, 1, none⟩ (I ((S : Int) + 1))).heap[gn]? = some (.cells #[I N1, I ((S : Int) + 1), I D, I In, I Ne] 149 (0, 0))) := Lib.hid (blk_set HC3.out 1 _)
      have HG4 : Hid (W.grownBy (w3.setCell ⟨gn, 1, none⟩ (I ((S : Int) + 1))) (some gn)) := Lib.hid (grown_set HG3.out (.inl rfl) _ _)
      clear k0 k1 k2 d1 f1 hne
      generalize w3.setCell ⟨gn, 1, none⟩ (I ((S : Int) + 1)) = W4 at *
      have k0 : W4.cell? ⟨W.heap.size, 0, none⟩ = some (I x.f0) := (blk_cell HBK4.out 0).trans rfl
      have k1 : W4.cell? ⟨W.heap.size, 1, none⟩ = some (I x.f1) := (blk_cell HBK4.out 1).trans rfl
      have d3 : W4.cell? ⟨gn, 3, none⟩ = some (I In) := (blk_cell HC4.out 3).trans rfl
      have f3 := blk_frozen HC4.out 3
      have HS4 : Hid (((S + 1 : Nat) : Int) = (S : Int) + 1) := Lib.hid (by omega)
      rcases hkk with h0 | h0
      · have h00 : (x.f0 == 0) = true := by rw [h0]; rfl
        have h16 : 0 ≤ x.f1 ∧ x.f1 < 16 := by
          have h := HK.out
          rw [h0] at h
          simp [nok] at h
          omega
        have H0 := Lib.hid h0
        obtain ⟨h16a, h16b⟩ := h16
        clear h0
        by_cases hmx : In < x.f1 + 1
        · go_wp2
          go_region
          go_wp2
          go_ret2
          unfold WkR
          rw [hwk.out]
          refine ⟨0, N1, S + 1, x.f1 + 1, rfl, ?_, ?_, by omega, fun _ => ⟨hdp.out.symm, by rw [hnd.out]; exact HN1.out, by rw [hsz.out], ?_⟩⟩
          · first | exact grown_drew (grown_set HG4.out (.inl rfl) _ _) | exact grown_set (grown_drew HG4.out) (.inl rfl) _ _
          · rw [HS4.out]; first | exact blk_drew (blk_set HC4.out 3 _) | exact blk_set (blk_drew HC4.out) 3 _
          · rw [hfin.out, if_pos H0.out]; omega
        · have hI0 := HIN.out
          go_wp2
          go_region
          go_wp2
          go_ret2
          unfold WkR
          rw [hwk.out]
          refine ⟨0, N1, S + 1, In, rfl, ?_, ?_, by omega, fun _ => ⟨hdp.out.symm, by rw [hnd.out]; exact HN1.out, by rw [hsz.out], ?_⟩⟩
          · first | exact grown_drew (grown_set HG4.out (.inl rfl) _ _) | exact grown_set (grown_drew HG4.out) (.inl rfl) _ _
          · rw [HS4.out]; first | exact blk_drew (blk_set HC4.out 3 _) | exact blk_set (blk_drew HC4.out) 3 _
          · rw [hfin.out, if_pos H0.out]; omega
      · have h00 : (x.f0 == 0) = false := by rw [h0]; rfl
        have H0 := Lib.hid h0
        clear h0
        go_wp2
        go_ret2
        unfold WkR
        rw [hwk.out]
        refine ⟨0, N1, S + 1, In, rfl, HG4.out, by rw [HS4.out]; exact HC4.out, HIN.out, fun _ => ⟨hdp.out.symm, by rw [hnd.out]; exact HN1.out, by rw [hsz.out], ?_⟩⟩
        rw [hfin.out, if_neg (by rw [H0.out]; decide)]
        have := HIN.out
        omega
end Go.Proofs.Ytpfbommaddaijaa

