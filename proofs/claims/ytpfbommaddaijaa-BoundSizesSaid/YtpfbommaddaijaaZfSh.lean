/- The law BoundSizes: the walk. -/
import Derived.Test.YtpfbommaddaijaaZfx38
import Derived.Test.YtpfbommaddaijaaZfSc
import Derived.Test.YtpfbommaddaijaaZfSf
import Derived.Deep.RegionHeld3
namespace Go.Proofs.Ytpfbommaddaijaa
open Go.RowKit Go.Proofs.YtpfbommaddaijaaW.PrintWords Go.Proofs.YtpfbommaddaijaaW.PrintLast PBoundTo
set_option linter.unusedVariables false
set_option linter.unusedSimpArgs false

theorem wr_pr {kl kk : Nat} (h : kl = kk + 1) (h2 : kl ≤ 256) : wrap64 ((kl : Int) - 1) = (kk : Int) := by unfold wrap64; omega
def jtp (Z : Nat → Int) (tl v : Nat) : Bool := decide (0 < tl) && ((Z (v % tl)).tmod 2 == 0)
theorem own_isn {w : World} {base : Nat} {v : Value} {p : List Int} (h : w.ownsRow base 3 1 v p.length (nums .i64 p)) : Is w v p.length (fun i => p.getD i 0) := by
  obtain ⟨A, c, rfl, h1, h2, h3⟩ := own_reads h
  have hc : p.length ≤ c ∧ c ≤ maxLen := by
    rcases h.2 with ⟨e, h0⟩ | ⟨g, cap, cur, e, _, _, hle, hmx, _⟩
    · injection e with e1 e2 e3; subst e3; rw [e2]; exact ⟨Nat.le_refl _, by decide⟩
    · injection e with e1 e2 e3; subst e3; exact ⟨hle, hmx⟩
  refine ⟨A, c, rfl, hc.1, hc.2, fun hn => ?_, fun b hb i hi => ?_⟩
  · obtain ⟨ad, e, _⟩ := h3 hn; exact ⟨ad, e⟩
  · obtain ⟨ad, e, hcell⟩ := h3 (by omega)
    rw [hb] at e; injection e with e; subst e
    exact hcell i hi
theorem wr_nx {i N : Nat} (h : (i : Int) < N) (h2 : N ≤ 256) : wrap64 ((i : Int) + 1) = ((i + 1 : Nat) : Int) := by unfold wrap64; omega
theorem wrap_256 {e : Nat} (h : e ≤ 256) : IntKind.i64.wrap (e : Int) = (e : Int) := by rw [IntKind.wrap_i64]; omega
theorem wr_256 {e : Nat} (h : e ≤ 256) : wrap64 (e : Int) = (e : Int) := by unfold wrap64; omega
theorem H_take {P : Program} {md : Region.Mode} {ops : Array Oper} {Q : Exit → Act → World → Prop} {S : World → Prop} {i : Nat} {oi : Oper} {d : Option Tmp} {v : Value} {fuel : Nat} {listed : Array Bool} {a : Act} {w : World} (hi : ops[i]? = some oi) (hd : oi.dst = d)
    (hs : Region.noSelect ops = true) (hf : Region.free md ops listed i = true) (hr : (Region.ready md ops listed).contains i = true)
    (hQ : ∀ c a w, Q (.panic c) (a.put d v) w → Q (.panic c) a w) (hy : YieldsIf P ops S oi v a) (hS : S w)
    (h : wpAnyH P md ops Q S fuel (listed.setIfInBounds i true) (a.put d v) w) : wpAnyH P md ops Q S (fuel + 1) listed a w := by
  subst hd
  exact wpAnyH_take hi hs hf hr hQ hy hS h
def skp (Z : Nat → Int) (tl x : Nat) : Bool := decide (0 < tl) && (bits BinOp.and .i64 (Z (x % tl) / 2 ^ (x / tl % 8)) 1 == 1)
set_option maxHeartbeats 8000000 in
set_option maxRecDepth 100000 in
theorem sizes_ok {W : World} {k m : Int} {n N : Nat} {A T : Option Addr} {l c tl tc : Nat} {f : Nat → Bool} {Z : Nat → Int} {vi sf df X Y S bi ls ld : Int} {b5 : Bool} {dp : Nat → Bool} (HG : ∀ W', Below W.heap.size W W' → Calls Try.prog 42 #[.agg #[I k, I m, .slice A l c]] W' fun e W'' => e = .returned (.bool false) ∧ Below W'.heap.size W' W'') (HV : ∀ W', Below W.heap.size W W' → Calls Try.prog 31 #[.agg #[I k, I m, .slice A l c]] W' fun e W'' => e = .returned (.bool true) ∧ Below W'.heap.size W' W'') (HI : ∀ W', Below W.heap.size W W' → Calls Try.prog 16 #[.agg #[I k, I m, .slice A l c]] W' fun e W'' => e = .returned (I vi) ∧ Below W'.heap.size W' W'') (d3 : decide ((n : Int) < 1) = false) (d4 : decide (8 < (n : Int)) = false) (d5 : decide ((n : Int) < vi) = false) (d6 : decide ((1000 : Int) < (tl : Nat)) = false) (d6' : decide (1000 < tl) = false) (hN : N ≤ 256) (hN1 : 1 ≤ N) (hZ : Is W (.slice T tl tc) tl Z) (HT : ∀ W', Below W.heap.size W W' → Calls Try.prog 35 #[.agg #[I k, I m, .slice A l c], I (n : Int)] W' fun e W'' => ∃ a c, e = .returned (.slice (some a) N c) ∧ Bs W'' (.slice (some a) N c) N f ∧ Below W'.heap.size W' W'') (HS : ∀ W', Below W.heap.size W W' → Calls Try.prog 33 #[.agg #[I k, I m, .slice A l c]] W' fun e W'' => e = .returned (I sf) ∧ Below W'.heap.size W' W'') (HX5 : ∀ W', Below W.heap.size W W' → Calls Try.prog 32 #[.agg #[I k, I m, .slice A l c], I 5] W' fun e W'' => e = .returned (.bool b5) ∧ Below W'.heap.size W' W'') (HCB : ∀ w tv, Bs w tv N f → Calls Try.prog 23 #[tv] w fun e w' => ∃ a c, e = .returned (.slice a N c) ∧ Bs w' (.slice a N c) N f ∧ Below w.heap.size w w') (HKH : 0 < (laz (skp Z tl) f N).length → 0 < (lbz (skp Z tl) f N).length → b5 = false → ∀ w tv va vb, Bs w tv N f → Is w va (laz (skp Z tl) f N).length (fun i => (laz (skp Z tl) f N).getD i 0) → Is w vb (lbz (skp Z tl) f N).length (fun i => (lbz (skp Z tl) f N).getD i 0) → Calls Try.prog 43 #[tv, va, vb] w fun e w' => e = .returned (.tuple #[I X, I Y, I 0]) ∧ Below w.heap.size w w') (kx : ¬ (wrap64 (sf * Y) < X)) (HDP : ∀ w tv v, v < n → Bs w tv N f → Calls Try.prog 44 #[tv, I (v : Int)] w fun e w' => e = .returned (.bool (dp v)) ∧ Below w.heap.size w w') (HNE : ∀ w tv A c, Bs w tv N f → (bkz dp (jtp Z tl) n).length ≤ c → Kd.C (Kd.slice 3 (Kd.int .i64)) w A (bkz dp (jtp Z tl) n).length (bkz dp (jtp Z tl) n) → Calls Try.prog 40 #[tv, .slice A (bkz dp (jtp Z tl) n).length c] w fun e w' => ∃ u, e = .returned (.tuple #[u, I S, I 0]) ∧ Below w.heap.size w w') (kn : ¬ (wrap64 (4 * sf) < S)) (HD : ∀ W', Below W.heap.size W W' → Calls Try.prog 45 #[.agg #[I k, I m, .slice A l c]] W' fun e W'' => e = .returned (I df) ∧ Below W'.heap.size W' W'') (H27 : ∀ w tv, n ≤ 3 → Bs w tv N f → Calls Try.prog 27 #[tv] w fun e w' => e = .returned (.tuple #[I ls, I 0]) ∧ Below w.heap.size w w') (H22 : ∀ w tv, n ≤ 3 → Bs w tv N f → Calls Try.prog 22 #[tv] w fun e w' => e = .returned (.tuple #[I ld, I 0]) ∧ Below w.heap.size w w') (H29 : ∀ w tv, n ≤ 3 → Bs w tv N f → Calls Try.prog 29 #[tv] w fun e w' => e = .returned (.tuple #[I bi, I 0]) ∧ Below w.heap.size w w') (k29 : n ≤ 3 → bi ≤ sf) (kp : n ≤ 3 → b5 = false → ls ≤ sf ∧ ld ≤ df) : Calls Try.prog 7 #[.agg #[I k, I m, .slice A l c], I (n : Int), .slice T tl tc] W fun e W' => e = .returned (.bool true) ∧ Below W.heap.size W W' := by
  replace HG := Lib.hid HG
  replace HV := Lib.hid HV
  replace HI := Lib.hid HI
  replace HT := Lib.hid HT
  replace HS := Lib.hid HS
  replace HX5 := Lib.hid HX5
  replace HCB := Lib.hid HCB
  replace HKH := Lib.hid HKH
  replace HDP := Lib.hid HDP
  replace HNE := Lib.hid HNE
  replace HD := Lib.hid HD
  replace H27 := Lib.hid H27
  replace H22 := Lib.hid H22
  replace H29 := Lib.hid H29
  have HNN := Lib.hid hN
  have HN1 := Lib.hid hN1
  have HZ := Lib.hid hZ
  have HNS : Hid (n ≤ 256) := Lib.hid (by have := of_decide_eq_false d4; omega)
  have HKX := Lib.hid kx
  have HKN := Lib.hid kn
  have K29 := Lib.hid k29
  have KP := Lib.hid kp
  clear hN hN1 hZ kx kn k29 kp
  obtain ⟨W1, hW1⟩ : ∃ W1, W1 = W.alloc (.cells #[I k, I m, .slice A l c] 24) := ⟨_, rfl⟩
  have HB1 : Hid (Below W.heap.size W W1) := Lib.hid (by rw [hW1]; exact below_alloc (Below.refl _ _) _)
  have BK : W1.heap[W.heap.size]? = some (.cells #[I k, I m, .slice A l c] 24 (0, 0)) := by rw [hW1]; exact blk_new _ _
  have k0 : W1.cell? ⟨W.heap.size, 0, none⟩ = some (I k) := (blk_cell BK 0).trans rfl
  have k1 : W1.cell? ⟨W.heap.size, 1, none⟩ = some (I m) := (blk_cell BK 1).trans rfl
  have k2 : W1.cell? ⟨W.heap.size, 2, none⟩ = some (.slice A l c) := (blk_cell BK 2).trans rfl
  clear BK
  have HAW := Lib.hid awake_any
  have HNZ := Lib.hid none_zero
  go_enter Try.func7, Try.ntmps7
  go_upto_region 1 with fail
  rw [← hW1]
  clear hW1
  go_wp2_with (first | (go_at_call 35; (with_reducible refine (HT.out _ HB4.out).mono ?_); rintro e w5 ⟨ta, cN, rfl, htb, hb⟩; have q0 := cell_keep' hb p0; have q1 := cell_keep' hb p1; have q2 := cell_keep' hb p2; clear p0 p1 p2; have HB5 := Lib.hid (HB4.out.trans (hb.mono HB4.out.size)); have HTB := Lib.hid htb; clear hb htb) | (go_at_call 16; (with_reducible refine (HI.out _ HB3.out).mono ?_); rintro e w4 ⟨rfl, hb⟩; have p0 := cell_keep' hb n0; have p1 := cell_keep' hb n1; have p2 := cell_keep' hb n2; clear n0 n1 n2; have HB4 := Lib.hid (HB3.out.trans (hb.mono HB3.out.size)); clear hb) | (go_at_call 31; (with_reducible refine (HV.out _ HB2.out).mono ?_); rintro e w3 ⟨rfl, hb⟩; have n0 := cell_keep' hb m0; have n1 := cell_keep' hb m1; have n2 := cell_keep' hb m2; clear m0 m1 m2; have HB3 := Lib.hid (HB2.out.trans (hb.mono HB2.out.size)); clear hb) | (go_at_call 42; (with_reducible refine (HG.out _ HB1.out).mono ?_); rintro e w2 ⟨rfl, hb⟩; have m0 := cell_keep' hb k0; have m1 := cell_keep' hb k1; have m2 := cell_keep' hb k2; clear k0 k1 k2; have HB2 := Lib.hid (HB1.out.trans (hb.mono HB1.out.size)); clear hb))
  go_loopw [8, 9, 10] (fun a b x wr => ∃ i p q, i ≤ N ∧ x = I i ∧ Hid (Tw w5 wr a b p q) ∧ Hid (p = laz (skp Z tl) f i ∧ q = lbz (skp Z tl) f i ∧ True)) (fun _ _ y _ => N - (intOf y).toNat)
  case atStart => exact ⟨0, [], [], Nat.zero_le _, rfl, Lib.hid (Tw.start w5), Lib.hid ⟨rfl, rfl, trivial⟩⟩
  case round =>
    obtain ⟨i, p, q, hi, rfl, HTw, HE⟩ := hrel
    by_cases hin : i < N
    · have h1i : (i : Int) < (N : Nat) := by omega
      go_upto_region 8 with fail
      go_cut [83] from 58 to 95 (fun t wx => t = .bool (skp Z tl i) ∧ Hid (Below wr.heap.size wr wx))
      case first =>
        by_cases htl : 0 < tl
        · have e1 : decide (0 < tl) = true := decide_eq_true htl
          have e2 : decide ((0 : Int) < (tl : Int)) = true := decide_eq_true (by omega)
          have e4 : ¬ (tl : Int) = 0 := by omega
          have e4' : ¬ tl = 0 := by omega
          obtain ⟨j, hj⟩ : ∃ j, j = i % tl := ⟨_, rfl⟩
          obtain ⟨e, he⟩ : ∃ e, e = i / tl := ⟨_, rfl⟩
          obtain ⟨s, hs⟩ : ∃ s, s = e % 8 := ⟨_, rfl⟩
          have hjl : j < tl := by rw [hj]; exact Nat.mod_lt _ htl
          have hel : e ≤ 256 := by rw [he]; exact Nat.le_trans (Nat.div_le_self _ _) (Nat.le_trans hi HNN.out)
          have hs8 : s < 8 := by rw [hs]; exact Nat.mod_lt _ (by decide)
          have hs256x : s ≤ 8 := Nat.le_of_lt hs8
          have hs256 : s ≤ 256 := Nat.le_trans (Nat.le_of_lt hs8) (by decide)
          have hjl' : (j : Int) < (tl : Int) := Int.ofNat_lt.2 hjl
          have hj0 : (0 : Int) ≤ (j : Int) := Int.natCast_nonneg _
          have hs0 : (0 : Int) ≤ (s : Int) := Int.natCast_nonneg _
          have hm : (i : Int) % (tl : Int) = (j : Int) := by rw [hj]; rfl
          have hm2 : (i : Int) / (tl : Int) = (e : Int) := by rw [he]; rfl
          have hm3 : (e : Int) % 8 = (s : Int) := by rw [hs]; rfl
          have hm' : (i : Int).tmod (tl : Int) = (j : Int) := by rw [Int.tmod_eq_emod_of_nonneg (Int.natCast_nonneg _)]; exact hm
          have hm2' : (i : Int).tdiv (tl : Int) = (e : Int) := by rw [Int.tdiv_eq_ediv_of_nonneg (Int.natCast_nonneg _)]; exact hm2
          have hm3' : (e : Int).tmod 8 = (s : Int) := by rw [Int.tmod_eq_emod_of_nonneg (Int.natCast_nonneg _)]; exact hm3
          have hwe : wrap64 (e : Int) = (e : Int) := wr_256 hel
          have hws : wrap64 (s : Int) = (s : Int) := wr_256 hs256
          have hwe2 : IntKind.i64.wrap (e : Int) = (e : Int) := wrap_256 hel
          have hSK : Hid (skp Z tl i = (bits BinOp.and .i64 (Z j / 2 ^ min s 64) 1 == 1)) := Lib.hid (by unfold skp; rw [← hj, ← he, ← hs, decide_eq_true htl, Nat.min_eq_left (Nat.le_trans hs256x (by decide))]; rfl)
          obtain ⟨b, rfl, x0⟩ := HZ.out.at' (i := j) hjl
          replace x0 := cell_keep' (HB5.out.trans (HTw.out.b.mono HB5.out.size)) x0
          clear hj he hs hs256x
          refine wp_region_held_drew (S := fun W' => W'.cell? (b.add j) = some (I (Z j))) (by kernel_rfl) x0 ?_
          intro hSw
          refine H_take (i := 0) (oi := { dst := some 64, op := Op.move (Operand.tmp 2), type := 52, pos := "law.go:307", after := #[], guard := none }) (d := (some 64)) (v := ?_) rfl rfl (by kernel_rfl) (by kernel_rfl) (by kernel_rfl) (fun _ _ _ h => h) (Or.inl ⟨by rfl, ?_⟩) hSw ?_
          rotate_left
          · intro w hw; (try dsimp only at hw); go_split_ands; go_simp; try (with_reducible rfl)
          try simp only [Act.put, List.setIfInBounds_toArray, List.set_cons_zero, List.set_cons_succ]
          refine H_take (i := 1) (oi := { dst := some 65, op := Op.call { callee := Callee.builtin Builtin.len, args := #[Operand.tmp 64], argTypes := #[52] }, type := 3, pos := "law.go:307", after := #[{ on := 0, ground := Ground.data }], guard := none }) (d := (some 65)) (v := ?_) rfl rfl (by kernel_rfl) (by kernel_rfl) (by kernel_rfl) (fun _ _ _ h => h) (Or.inl ⟨by rfl, ?_⟩) hSw ?_
          rotate_left
          · intro w hw; (try dsimp only at hw); go_split_ands; go_simp; try (with_reducible rfl)
          try simp only [Act.put, List.setIfInBounds_toArray, List.set_cons_zero, List.set_cons_succ]
          refine H_take (i := 2) (oi := { dst := some 66, op := Op.binOp BinOp.gtr 3 (Operand.tmp 65) (Operand.const (Value.int IntKind.i64 0)) 3, type := 4, pos := "law.go:307", after := #[{ on := 1, ground := Ground.data }], guard := none }) (d := (some 66)) (v := ?_) rfl rfl (by kernel_rfl) (by kernel_rfl) (by kernel_rfl) (fun _ _ _ h => h) (Or.inl ⟨by rfl, ?_⟩) hSw ?_
          rotate_left
          · intro w hw; (try dsimp only at hw); go_split_ands; go_simp; try (with_reducible rfl)
          try simp only [Act.put, List.setIfInBounds_toArray, List.set_cons_zero, List.set_cons_succ]
          refine H_take (i := 3) (oi := { dst := some 67, op := Op.move (Operand.tmp 66), type := 4, pos := "law.go:307", after := #[{ on := 2, ground := Ground.data }], guard := none }) (d := (some 67)) (v := ?_) rfl rfl (by kernel_rfl) (by kernel_rfl) (by kernel_rfl) (fun _ _ _ h => h) (Or.inl ⟨by rfl, ?_⟩) hSw ?_
          rotate_left
          · intro w hw; (try dsimp only at hw); go_split_ands; go_simp; try (with_reducible rfl)
          try simp only [Act.put, List.setIfInBounds_toArray, List.set_cons_zero, List.set_cons_succ]
          refine H_take (i := 4) (oi := { dst := some 68, op := Op.move (Operand.tmp 2), type := 52, pos := "law.go:307", after := #[{ on := 3, ground := Ground.guard }], guard := some (3, true) }) (d := (some 68)) (v := ?_) rfl rfl (by kernel_rfl) (by kernel_rfl) (by kernel_rfl) (fun _ _ _ h => h) (Or.inl ⟨by rfl, ?_⟩) hSw ?_
          rotate_left
          · intro w hw; (try dsimp only at hw); go_split_ands; go_simp; try (with_reducible rfl)
          try simp only [Act.put, List.setIfInBounds_toArray, List.set_cons_zero, List.set_cons_succ]
          refine H_take (i := 5) (oi := { dst := some 69, op := Op.move (Operand.tmp 10), type := 3, pos := "law.go:307", after := #[{ on := 3, ground := Ground.guard }], guard := some (3, true) }) (d := (some 69)) (v := ?_) rfl rfl (by kernel_rfl) (by kernel_rfl) (by kernel_rfl) (fun _ _ _ h => h) (Or.inl ⟨by rfl, ?_⟩) hSw ?_
          rotate_left
          · intro w hw; (try dsimp only at hw); go_split_ands; go_simp; try (with_reducible rfl)
          try simp only [Act.put, List.setIfInBounds_toArray, List.set_cons_zero, List.set_cons_succ]
          refine H_take (i := 6) (oi := { dst := some 70, op := Op.move (Operand.tmp 2), type := 52, pos := "law.go:307", after := #[{ on := 3, ground := Ground.guard }], guard := some (3, true) }) (d := (some 70)) (v := ?_) rfl rfl (by kernel_rfl) (by kernel_rfl) (by kernel_rfl) (fun _ _ _ h => h) (Or.inl ⟨by rfl, ?_⟩) hSw ?_
          rotate_left
          · intro w hw; (try dsimp only at hw); go_split_ands; go_simp; try (with_reducible rfl)
          try simp only [Act.put, List.setIfInBounds_toArray, List.set_cons_zero, List.set_cons_succ]
          refine H_take (i := 7) (oi := { dst := some 71, op := Op.call { callee := Callee.builtin Builtin.len, args := #[Operand.tmp 70], argTypes := #[52] }, type := 3, pos := "law.go:307", after := #[{ on := 6, ground := Ground.data }, { on := 3, ground := Ground.guard }], guard := some (3, true) }) (d := (some 71)) (v := ?_) rfl rfl (by kernel_rfl) (by kernel_rfl) (by kernel_rfl) (fun _ _ _ h => h) (Or.inl ⟨by rfl, ?_⟩) hSw ?_
          rotate_left
          · intro w hw; (try dsimp only at hw); go_split_ands; go_simp; try (with_reducible rfl)
          try simp only [Act.put, List.setIfInBounds_toArray, List.set_cons_zero, List.set_cons_succ]
          refine H_take (i := 8) (oi := { dst := some 72, op := Op.binOp BinOp.rem 3 (Operand.tmp 69) (Operand.tmp 71) 3, type := 3, pos := "law.go:307", after := #[{ on := 5, ground := Ground.data }, { on := 7, ground := Ground.data }, { on := 3, ground := Ground.guard }], guard := some (3, true) }) (d := (some 72)) (v := ?_) rfl rfl (by kernel_rfl) (by kernel_rfl) (by kernel_rfl) (fun _ _ _ h => h) (Or.inl ⟨by rfl, ?_⟩) hSw ?_
          rotate_left
          · intro w hw; (try dsimp only at hw); go_split_ands; go_simp; try (with_reducible rfl)
          try simp only [Act.put, List.setIfInBounds_toArray, List.set_cons_zero, List.set_cons_succ]
          refine H_take (i := 9) (oi := { dst := some 73, op := Op.indexAddr 52 (Operand.tmp 68) (Operand.tmp 72), type := 0, pos := "law.go:307", after := #[{ on := 4, ground := Ground.data }, { on := 8, ground := Ground.data }, { on := 3, ground := Ground.guard }], guard := some (3, true) }) (d := (some 73)) (v := ?_) rfl rfl (by kernel_rfl) (by kernel_rfl) (by kernel_rfl) (fun _ _ _ h => h) (Or.inl ⟨by rfl, ?_⟩) hSw ?_
          rotate_left
          · intro w hw; (try dsimp only at hw); go_split_ands; go_simp; try (with_reducible rfl)
          try simp only [Act.put, List.setIfInBounds_toArray, List.set_cons_zero, List.set_cons_succ]
          refine H_take (i := 10) (oi := { dst := some 74, op := Op.load 3 (Operand.tmp 73), type := 3, pos := "law.go:307", after := #[{ on := 9, ground := Ground.data }, { on := 3, ground := Ground.guard }], guard := some (3, true) }) (d := (some 74)) (v := ?_) rfl rfl (by kernel_rfl) (by kernel_rfl) (by kernel_rfl) (fun _ _ _ h => h) (Or.inl ⟨by rfl, ?_⟩) hSw ?_
          rotate_left
          · intro w hw; (try dsimp only at hw); go_split_ands; go_simp; try (with_reducible rfl)
          try simp only [Act.put, List.setIfInBounds_toArray, List.set_cons_zero, List.set_cons_succ]
          refine H_take (i := 11) (oi := { dst := some 75, op := Op.move (Operand.tmp 10), type := 3, pos := "law.go:307", after := #[{ on := 3, ground := Ground.guard }], guard := some (3, true) }) (d := (some 75)) (v := ?_) rfl rfl (by kernel_rfl) (by kernel_rfl) (by kernel_rfl) (fun _ _ _ h => h) (Or.inl ⟨by rfl, ?_⟩) hSw ?_
          rotate_left
          · intro w hw; (try dsimp only at hw); go_split_ands; go_simp; try (with_reducible rfl)
          try simp only [Act.put, List.setIfInBounds_toArray, List.set_cons_zero, List.set_cons_succ]
          refine H_take (i := 12) (oi := { dst := some 76, op := Op.move (Operand.tmp 2), type := 52, pos := "law.go:307", after := #[{ on := 3, ground := Ground.guard }], guard := some (3, true) }) (d := (some 76)) (v := ?_) rfl rfl (by kernel_rfl) (by kernel_rfl) (by kernel_rfl) (fun _ _ _ h => h) (Or.inl ⟨by rfl, ?_⟩) hSw ?_
          rotate_left
          · intro w hw; (try dsimp only at hw); go_split_ands; go_simp; try (with_reducible rfl)
          try simp only [Act.put, List.setIfInBounds_toArray, List.set_cons_zero, List.set_cons_succ]
          refine H_take (i := 13) (oi := { dst := some 77, op := Op.call { callee := Callee.builtin Builtin.len, args := #[Operand.tmp 76], argTypes := #[52] }, type := 3, pos := "law.go:307", after := #[{ on := 12, ground := Ground.data }, { on := 3, ground := Ground.guard }], guard := some (3, true) }) (d := (some 77)) (v := ?_) rfl rfl (by kernel_rfl) (by kernel_rfl) (by kernel_rfl) (fun _ _ _ h => h) (Or.inl ⟨by rfl, ?_⟩) hSw ?_
          rotate_left
          · intro w hw; (try dsimp only at hw); go_split_ands; go_simp; try (with_reducible rfl)
          try simp only [Act.put, List.setIfInBounds_toArray, List.set_cons_zero, List.set_cons_succ]
          refine H_take (i := 14) (oi := { dst := some 78, op := Op.binOp BinOp.quo 3 (Operand.tmp 75) (Operand.tmp 77) 3, type := 3, pos := "law.go:307", after := #[{ on := 11, ground := Ground.data }, { on := 13, ground := Ground.data }, { on := 3, ground := Ground.guard }], guard := some (3, true) }) (d := (some 78)) (v := ?_) rfl rfl (by kernel_rfl) (by kernel_rfl) (by kernel_rfl) (fun _ _ _ h => h) (Or.inl ⟨by rfl, ?_⟩) hSw ?_
          rotate_left
          · intro w hw; (try dsimp only at hw); go_split_ands; go_simp; try (with_reducible rfl)
          try simp only [Act.put, List.setIfInBounds_toArray, List.set_cons_zero, List.set_cons_succ]
          refine H_take (i := 15) (oi := { dst := some 79, op := Op.binOp BinOp.rem 3 (Operand.tmp 78) (Operand.const (Value.int IntKind.i64 8)) 3, type := 3, pos := "law.go:307", after := #[{ on := 14, ground := Ground.data }, { on := 3, ground := Ground.guard }], guard := some (3, true) }) (d := (some 79)) (v := ?_) rfl rfl (by kernel_rfl) (by kernel_rfl) (by kernel_rfl) (fun _ _ _ h => h) (Or.inl ⟨by rfl, ?_⟩) hSw ?_
          rotate_left
          · intro w hw; (try dsimp only at hw); go_split_ands; go_simp; try (with_reducible rfl)
          try simp only [Act.put, List.setIfInBounds_toArray, List.set_cons_zero, List.set_cons_succ]
          clear hws hs256 hs8 hwe hwe2 hm3 hm3' hm2 hm2' hm hm' hel
          refine H_take (i := 16) (oi := { dst := some 80, op := Op.binOp BinOp.shr 3 (Operand.tmp 74) (Operand.tmp 79) 3, type := 3, pos := "law.go:307", after := #[{ on := 10, ground := Ground.data }, { on := 15, ground := Ground.data }, { on := 3, ground := Ground.guard }], guard := some (3, true) }) (d := (some 80)) (v := ?_) rfl rfl (by kernel_rfl) (by kernel_rfl) (by kernel_rfl) (fun _ _ _ h => h) (Or.inl ⟨by rfl, ?_⟩) hSw ?_
          rotate_left
          · intro w hw; (try dsimp only at hw); go_split_ands; go_simp; try (with_reducible rfl)
          try simp only [Act.put, List.setIfInBounds_toArray, List.set_cons_zero, List.set_cons_succ]
          refine H_take (i := 17) (oi := { dst := some 81, op := Op.binOp BinOp.and 3 (Operand.tmp 80) (Operand.const (Value.int IntKind.i64 1)) 3, type := 3, pos := "law.go:307", after := #[{ on := 16, ground := Ground.data }, { on := 3, ground := Ground.guard }], guard := some (3, true) }) (d := (some 81)) (v := ?_) rfl rfl (by kernel_rfl) (by kernel_rfl) (by kernel_rfl) (fun _ _ _ h => h) (Or.inl ⟨by rfl, ?_⟩) hSw ?_
          rotate_left
          · intro w hw; (try dsimp only at hw); go_split_ands; go_simp; try (with_reducible rfl)
          try simp only [Act.put, List.setIfInBounds_toArray, List.set_cons_zero, List.set_cons_succ]
          refine H_take (i := 18) (oi := { dst := some 82, op := Op.binOp BinOp.eql 3 (Operand.tmp 81) (Operand.const (Value.int IntKind.i64 1)) 3, type := 4, pos := "law.go:307", after := #[{ on := 17, ground := Ground.data }, { on := 3, ground := Ground.guard }], guard := some (3, true) }) (d := (some 82)) (v := ?_) rfl rfl (by kernel_rfl) (by kernel_rfl) (by kernel_rfl) (fun _ _ _ h => h) (Or.inl ⟨by rfl, ?_⟩) hSw ?_
          rotate_left
          · intro w hw; (try dsimp only at hw); go_split_ands; go_simp; try (with_reducible rfl)
          try simp only [Act.put, List.setIfInBounds_toArray, List.set_cons_zero, List.set_cons_succ]
          refine H_take (i := 19) (oi := { dst := some 83, op := Op.pick (Operand.tmp 67) (Operand.tmp 82) (Operand.const (Value.bool false)), type := 4, pos := "law.go:307", after := #[{ on := 3, ground := Ground.data }, { on := 18, ground := Ground.data }], guard := none }) (d := (some 83)) (v := ?_) rfl rfl (by kernel_rfl) (by kernel_rfl) (by kernel_rfl) (fun _ _ _ h => h) (Or.inl ⟨by rfl, ?_⟩) hSw ?_
          rotate_left
          · intro w hw; (try dsimp only at hw); go_split_ands; go_simp; try (with_reducible rfl)
          try simp only [Act.put, List.setIfInBounds_toArray, List.set_cons_zero, List.set_cons_succ]
          refine wpAnyH_done (by kernel_rfl) ?_ _
          go_wp2_with fail
          go_meet
          refine ⟨?_, Lib.hid (Below.refl _ _).drew⟩
          rw [hSK.out]
        · have e1 : decide (0 < tl) = false := decide_eq_false htl
          have e2 : decide ((0 : Int) < (tl : Int)) = false := decide_eq_false (by omega)
          have hSK : Hid (skp Z tl i = false) := Lib.hid (by unfold skp; rw [e1]; rfl)
          refine wp_region_held_drew (S := fun W' => True) (by kernel_rfl) trivial ?_
          intro hSw
          refine H_take (i := 0) (oi := { dst := some 64, op := Op.move (Operand.tmp 2), type := 52, pos := "law.go:307", after := #[], guard := none }) (d := (some 64)) (v := ?_) rfl rfl (by kernel_rfl) (by kernel_rfl) (by kernel_rfl) (fun _ _ _ h => h) (Or.inl ⟨by rfl, ?_⟩) hSw ?_
          rotate_left
          · intro w hw; (try dsimp only at hw); go_split_ands; go_simp; try (with_reducible rfl)
          try simp only [Act.put, List.setIfInBounds_toArray, List.set_cons_zero, List.set_cons_succ]
          refine H_take (i := 1) (oi := { dst := some 65, op := Op.call { callee := Callee.builtin Builtin.len, args := #[Operand.tmp 64], argTypes := #[52] }, type := 3, pos := "law.go:307", after := #[{ on := 0, ground := Ground.data }], guard := none }) (d := (some 65)) (v := ?_) rfl rfl (by kernel_rfl) (by kernel_rfl) (by kernel_rfl) (fun _ _ _ h => h) (Or.inl ⟨by rfl, ?_⟩) hSw ?_
          rotate_left
          · intro w hw; (try dsimp only at hw); go_split_ands; go_simp; try (with_reducible rfl)
          try simp only [Act.put, List.setIfInBounds_toArray, List.set_cons_zero, List.set_cons_succ]
          refine H_take (i := 2) (oi := { dst := some 66, op := Op.binOp BinOp.gtr 3 (Operand.tmp 65) (Operand.const (Value.int IntKind.i64 0)) 3, type := 4, pos := "law.go:307", after := #[{ on := 1, ground := Ground.data }], guard := none }) (d := (some 66)) (v := ?_) rfl rfl (by kernel_rfl) (by kernel_rfl) (by kernel_rfl) (fun _ _ _ h => h) (Or.inl ⟨by rfl, ?_⟩) hSw ?_
          rotate_left
          · intro w hw; (try dsimp only at hw); go_split_ands; go_simp; try (with_reducible rfl)
          try simp only [Act.put, List.setIfInBounds_toArray, List.set_cons_zero, List.set_cons_succ]
          refine H_take (i := 3) (oi := { dst := some 67, op := Op.move (Operand.tmp 66), type := 4, pos := "law.go:307", after := #[{ on := 2, ground := Ground.data }], guard := none }) (d := (some 67)) (v := ?_) rfl rfl (by kernel_rfl) (by kernel_rfl) (by kernel_rfl) (fun _ _ _ h => h) (Or.inl ⟨by rfl, ?_⟩) hSw ?_
          rotate_left
          · intro w hw; (try dsimp only at hw); go_split_ands; go_simp; try (with_reducible rfl)
          try simp only [Act.put, List.setIfInBounds_toArray, List.set_cons_zero, List.set_cons_succ]
          refine H_take (i := 4) (oi := { dst := some 68, op := Op.move (Operand.tmp 2), type := 52, pos := "law.go:307", after := #[{ on := 3, ground := Ground.guard }], guard := some (3, true) }) (d := (some 68)) (v := undef) rfl rfl (by kernel_rfl) (by kernel_rfl) (by kernel_rfl) (fun _ _ _ h => h) (Or.inr ⟨by rfl, rfl⟩) hSw ?_
          try simp only [Act.put, List.setIfInBounds_toArray, List.set_cons_zero, List.set_cons_succ]
          refine H_take (i := 5) (oi := { dst := some 69, op := Op.move (Operand.tmp 10), type := 3, pos := "law.go:307", after := #[{ on := 3, ground := Ground.guard }], guard := some (3, true) }) (d := (some 69)) (v := undef) rfl rfl (by kernel_rfl) (by kernel_rfl) (by kernel_rfl) (fun _ _ _ h => h) (Or.inr ⟨by rfl, rfl⟩) hSw ?_
          try simp only [Act.put, List.setIfInBounds_toArray, List.set_cons_zero, List.set_cons_succ]
          refine H_take (i := 6) (oi := { dst := some 70, op := Op.move (Operand.tmp 2), type := 52, pos := "law.go:307", after := #[{ on := 3, ground := Ground.guard }], guard := some (3, true) }) (d := (some 70)) (v := undef) rfl rfl (by kernel_rfl) (by kernel_rfl) (by kernel_rfl) (fun _ _ _ h => h) (Or.inr ⟨by rfl, rfl⟩) hSw ?_
          try simp only [Act.put, List.setIfInBounds_toArray, List.set_cons_zero, List.set_cons_succ]
          refine H_take (i := 7) (oi := { dst := some 71, op := Op.call { callee := Callee.builtin Builtin.len, args := #[Operand.tmp 70], argTypes := #[52] }, type := 3, pos := "law.go:307", after := #[{ on := 6, ground := Ground.data }, { on := 3, ground := Ground.guard }], guard := some (3, true) }) (d := (some 71)) (v := undef) rfl rfl (by kernel_rfl) (by kernel_rfl) (by kernel_rfl) (fun _ _ _ h => h) (Or.inr ⟨by rfl, rfl⟩) hSw ?_
          try simp only [Act.put, List.setIfInBounds_toArray, List.set_cons_zero, List.set_cons_succ]
          refine H_take (i := 8) (oi := { dst := some 72, op := Op.binOp BinOp.rem 3 (Operand.tmp 69) (Operand.tmp 71) 3, type := 3, pos := "law.go:307", after := #[{ on := 5, ground := Ground.data }, { on := 7, ground := Ground.data }, { on := 3, ground := Ground.guard }], guard := some (3, true) }) (d := (some 72)) (v := undef) rfl rfl (by kernel_rfl) (by kernel_rfl) (by kernel_rfl) (fun _ _ _ h => h) (Or.inr ⟨by rfl, rfl⟩) hSw ?_
          try simp only [Act.put, List.setIfInBounds_toArray, List.set_cons_zero, List.set_cons_succ]
          refine H_take (i := 9) (oi := { dst := some 73, op := Op.indexAddr 52 (Operand.tmp 68) (Operand.tmp 72), type := 0, pos := "law.go:307", after := #[{ on := 4, ground := Ground.data }, { on := 8, ground := Ground.data }, { on := 3, ground := Ground.guard }], guard := some (3, true) }) (d := (some 73)) (v := undef) rfl rfl (by kernel_rfl) (by kernel_rfl) (by kernel_rfl) (fun _ _ _ h => h) (Or.inr ⟨by rfl, rfl⟩) hSw ?_
          try simp only [Act.put, List.setIfInBounds_toArray, List.set_cons_zero, List.set_cons_succ]
          refine H_take (i := 10) (oi := { dst := some 74, op := Op.load 3 (Operand.tmp 73), type := 3, pos := "law.go:307", after := #[{ on := 9, ground := Ground.data }, { on := 3, ground := Ground.guard }], guard := some (3, true) }) (d := (some 74)) (v := undef) rfl rfl (by kernel_rfl) (by kernel_rfl) (by kernel_rfl) (fun _ _ _ h => h) (Or.inr ⟨by rfl, rfl⟩) hSw ?_
          try simp only [Act.put, List.setIfInBounds_toArray, List.set_cons_zero, List.set_cons_succ]
          refine H_take (i := 11) (oi := { dst := some 75, op := Op.move (Operand.tmp 10), type := 3, pos := "law.go:307", after := #[{ on := 3, ground := Ground.guard }], guard := some (3, true) }) (d := (some 75)) (v := undef) rfl rfl (by kernel_rfl) (by kernel_rfl) (by kernel_rfl) (fun _ _ _ h => h) (Or.inr ⟨by rfl, rfl⟩) hSw ?_
          try simp only [Act.put, List.setIfInBounds_toArray, List.set_cons_zero, List.set_cons_succ]
          refine H_take (i := 12) (oi := { dst := some 76, op := Op.move (Operand.tmp 2), type := 52, pos := "law.go:307", after := #[{ on := 3, ground := Ground.guard }], guard := some (3, true) }) (d := (some 76)) (v := undef) rfl rfl (by kernel_rfl) (by kernel_rfl) (by kernel_rfl) (fun _ _ _ h => h) (Or.inr ⟨by rfl, rfl⟩) hSw ?_
          try simp only [Act.put, List.setIfInBounds_toArray, List.set_cons_zero, List.set_cons_succ]
          refine H_take (i := 13) (oi := { dst := some 77, op := Op.call { callee := Callee.builtin Builtin.len, args := #[Operand.tmp 76], argTypes := #[52] }, type := 3, pos := "law.go:307", after := #[{ on := 12, ground := Ground.data }, { on := 3, ground := Ground.guard }], guard := some (3, true) }) (d := (some 77)) (v := undef) rfl rfl (by kernel_rfl) (by kernel_rfl) (by kernel_rfl) (fun _ _ _ h => h) (Or.inr ⟨by rfl, rfl⟩) hSw ?_
          try simp only [Act.put, List.setIfInBounds_toArray, List.set_cons_zero, List.set_cons_succ]
          refine H_take (i := 14) (oi := { dst := some 78, op := Op.binOp BinOp.quo 3 (Operand.tmp 75) (Operand.tmp 77) 3, type := 3, pos := "law.go:307", after := #[{ on := 11, ground := Ground.data }, { on := 13, ground := Ground.data }, { on := 3, ground := Ground.guard }], guard := some (3, true) }) (d := (some 78)) (v := undef) rfl rfl (by kernel_rfl) (by kernel_rfl) (by kernel_rfl) (fun _ _ _ h => h) (Or.inr ⟨by rfl, rfl⟩) hSw ?_
          try simp only [Act.put, List.setIfInBounds_toArray, List.set_cons_zero, List.set_cons_succ]
          refine H_take (i := 15) (oi := { dst := some 79, op := Op.binOp BinOp.rem 3 (Operand.tmp 78) (Operand.const (Value.int IntKind.i64 8)) 3, type := 3, pos := "law.go:307", after := #[{ on := 14, ground := Ground.data }, { on := 3, ground := Ground.guard }], guard := some (3, true) }) (d := (some 79)) (v := undef) rfl rfl (by kernel_rfl) (by kernel_rfl) (by kernel_rfl) (fun _ _ _ h => h) (Or.inr ⟨by rfl, rfl⟩) hSw ?_
          try simp only [Act.put, List.setIfInBounds_toArray, List.set_cons_zero, List.set_cons_succ]
          refine H_take (i := 16) (oi := { dst := some 80, op := Op.binOp BinOp.shr 3 (Operand.tmp 74) (Operand.tmp 79) 3, type := 3, pos := "law.go:307", after := #[{ on := 10, ground := Ground.data }, { on := 15, ground := Ground.data }, { on := 3, ground := Ground.guard }], guard := some (3, true) }) (d := (some 80)) (v := undef) rfl rfl (by kernel_rfl) (by kernel_rfl) (by kernel_rfl) (fun _ _ _ h => h) (Or.inr ⟨by rfl, rfl⟩) hSw ?_
          try simp only [Act.put, List.setIfInBounds_toArray, List.set_cons_zero, List.set_cons_succ]
          refine H_take (i := 17) (oi := { dst := some 81, op := Op.binOp BinOp.and 3 (Operand.tmp 80) (Operand.const (Value.int IntKind.i64 1)) 3, type := 3, pos := "law.go:307", after := #[{ on := 16, ground := Ground.data }, { on := 3, ground := Ground.guard }], guard := some (3, true) }) (d := (some 81)) (v := undef) rfl rfl (by kernel_rfl) (by kernel_rfl) (by kernel_rfl) (fun _ _ _ h => h) (Or.inr ⟨by rfl, rfl⟩) hSw ?_
          try simp only [Act.put, List.setIfInBounds_toArray, List.set_cons_zero, List.set_cons_succ]
          refine H_take (i := 18) (oi := { dst := some 82, op := Op.binOp BinOp.eql 3 (Operand.tmp 81) (Operand.const (Value.int IntKind.i64 1)) 3, type := 4, pos := "law.go:307", after := #[{ on := 17, ground := Ground.data }, { on := 3, ground := Ground.guard }], guard := some (3, true) }) (d := (some 82)) (v := undef) rfl rfl (by kernel_rfl) (by kernel_rfl) (by kernel_rfl) (fun _ _ _ h => h) (Or.inr ⟨by rfl, rfl⟩) hSw ?_
          try simp only [Act.put, List.setIfInBounds_toArray, List.set_cons_zero, List.set_cons_succ]
          refine H_take (i := 19) (oi := { dst := some 83, op := Op.pick (Operand.tmp 67) (Operand.tmp 82) (Operand.const (Value.bool false)), type := 4, pos := "law.go:307", after := #[{ on := 3, ground := Ground.data }, { on := 18, ground := Ground.data }], guard := none }) (d := (some 83)) (v := ?_) rfl rfl (by kernel_rfl) (by kernel_rfl) (by kernel_rfl) (fun _ _ _ h => h) (Or.inl ⟨by rfl, ?_⟩) hSw ?_
          rotate_left
          · intro w hw; (try dsimp only at hw); go_split_ands; go_simp; try (with_reducible rfl)
          try simp only [Act.put, List.setIfInBounds_toArray, List.set_cons_zero, List.set_cons_succ]
          refine wpAnyH_done (by kernel_rfl) ?_ _
          go_wp2_with fail
          go_meet
          exact ⟨by rw [hSK.out], Lib.hid (Below.refl _ _).drew⟩
      case rest =>
        obtain ⟨rfl, HBx⟩ := hcut
        have HB5c : Hid (Below w5.heap.size w5 wc) := Lib.hid (HTw.out.b.trans (HBx.out.mono HTw.out.b.size))
        have hwi : wrap64 ((i : Int) + 1) = ((i + 1 : Nat) : Int) := wr_nx h1i HNN.out
        obtain ⟨ha, hc', hcap⟩ := HE.out
        have HTc := Lib.hid (HTw.out.keep HBx.out)
        have HIN := Lib.hid hin
        have HBW := Lib.hid HTc.out.b
        have HSZ : Hid (w5.heap.size ≤ wc.heap.size) := Lib.hid HTc.out.b.size
        have HPL : Hid (p.length ≤ 256) := Lib.hid (by rw [ha]; have := laz_len (skp Z tl) f i; have := HNN.out; omega)
        have HQL : Hid (q.length ≤ 256) := Lib.hid (by rw [hc']; have := lbz_len (skp Z tl) f i; have := HNN.out; omega)
        have HA := Lib.hid ha
        have HC' := Lib.hid hc'
        clear ha hc' hcap hin
        have x0 := cell_keep' HB5c.out (bs_at HTB.out HIN.out)
        have h0i : (0 : Int) ≤ (i : Int) := Int.natCast_nonneg _
        obtain ⟨bs, hbs⟩ : ∃ b, b = skp Z tl i := ⟨_, rfl⟩
        rw [← hbs]
        have HBS := Lib.hid hbs
        clear hbs
        cases bs with
        | true =>
          go_wp2_with fail
          go_roundw
          case rel => exact ⟨i + 1, p, q, HIN.out, by rw [hwi], HTc, Lib.hid ⟨by rw [laz, if_pos HBS.out.symm]; exact HA.out, by rw [lbz, if_pos HBS.out.symm]; exact HC'.out, trivial⟩⟩
          case measure => exact meas hwi HIN.out
        | false =>
          have hnb : ¬ skp Z tl i = true := by rw [← HBS.out]; decide
          have HNB := Lib.hid hnb
          clear hnb
          obtain ⟨bf, hbf⟩ : ∃ b, b = f i := ⟨_, rfl⟩
          rw [← hbf] at x0
          have HBF := Lib.hid hbf
          clear hbf
          cases bf with
          | true =>
            go_wp2_with (at_builtin; refine print_append_num (w0 := w5) w5.heap.size rfl (.tmp 88) (.tmp 90) 52 3 .i64 8 rfl Try.underlying52 (by kernel_rfl) (by decide) _ q (i : Int) rfl rfl HTc.out.q HBW.out HSZ.out (by have := HQL.out; omega) ?_; intro v1 w1 ho1 hb1 hg1 ha1; have HT1 := Lib.hid (HTc.out.swap.left ho1 hb1 hg1 ha1).swap; clear ho1 hb1 hg1 ha1)
            go_roundw
            case rel => exact ⟨i + 1, p, q ++ [(i : Int)], HIN.out, by rw [hwi], HT1, Lib.hid ⟨by rw [laz, if_neg HNB.out, if_pos HBF.out.symm]; exact HA.out, by rw [lbz, if_neg HNB.out, if_pos HBF.out.symm, HC'.out], trivial⟩⟩
            case measure => exact meas hwi HIN.out
          | false =>
            go_wp2_with (at_builtin; refine print_append_num (w0 := w5) w5.heap.size rfl (.tmp 92) (.tmp 94) 52 3 .i64 8 rfl Try.underlying52 (by kernel_rfl) (by decide) _ p (i : Int) rfl rfl HTc.out.p HBW.out HSZ.out (by have := HPL.out; omega) ?_; intro v1 w1 ho1 hb1 hg1 ha1; have HT1 := Lib.hid (HTc.out.left ho1 hb1 hg1 ha1); clear ho1 hb1 hg1 ha1)
            go_roundw
            case rel => exact ⟨i + 1, p ++ [(i : Int)], q, HIN.out, by rw [hwi], HT1, Lib.hid ⟨by rw [laz, if_neg HNB.out, if_neg (by rw [← HBF.out]; decide), HA.out], by rw [lbz, if_neg HNB.out, if_neg (by rw [← HBF.out]; decide)]; exact HC'.out, trivial⟩⟩
            case measure => exact meas hwi HIN.out
    · obtain rfl : i = N := by omega
      obtain ⟨rfl, rfl, _⟩ := HE.out
      have HIA := Lib.hid (own_isn HTw.out.p)
      have HIB := Lib.hid (own_isn HTw.out.q)
      obtain ⟨va, ca, rfl⟩ := HIA.out.shape
      obtain ⟨vb, cb, rfl⟩ := HIB.out.shape
      have HB6 : Hid (Below W.heap.size W wr) := Lib.hid (HB5.out.trans (HTw.out.b.mono HB5.out.size))
      have HC6 : Hid (Below w5.heap.size w5 wr) := HTw.out.b |> Lib.hid
      have HD6 : Hid (Below wr.heap.size wr wr) := Lib.hid (Below.refl _ _)
      have g0 := cell_keep' HTw.out.b q0
      have g1 := cell_keep' HTw.out.b q1
      have g2 := cell_keep' HTw.out.b q2
      clear q0 q1 q2 hi hin
      obtain ⟨la, hla⟩ : ∃ la, la = (laz (skp Z tl) f i).length := ⟨_, rfl⟩
      obtain ⟨lb, hlb⟩ : ∃ lb, lb = (lbz (skp Z tl) f i).length := ⟨_, rfl⟩
      rw [← hla] at HIA ⊢
      rw [← hlb] at HIB ⊢
      have HLA := Lib.hid hla
      have HLB := Lib.hid hlb
      clear hla hlb
      go_upto_region 12 with fail
      go_region_held3 (fun wh => wh.cell? ⟨W.heap.size, 0, none⟩ = some (I k) ∧ wh.cell? ⟨W.heap.size, 1, none⟩ = some (I m) ∧ wh.cell? ⟨W.heap.size, 2, none⟩ = some (.slice A l c)) (first | exact ⟨g0, g1, g2⟩ | exact ⟨ga0, ga1, ga2⟩ | exact ⟨gb0, gb1, gb2⟩ | go_keep) (first | (go_at_call 32; (with_reducible refine (HX5.out _ HB7.out).mono ?_); rintro e w8 ⟨rfl, hb⟩; have gb0 := cell_keep' hb ga0; have gb1 := cell_keep' hb ga1; have gb2 := cell_keep' hb ga2; have HB8 := Lib.hid (HB7.out.trans (hb.mono HB7.out.size)); have HC8 := Lib.hid (HC7.out.trans (hb.mono HC7.out.size)); have HD8 := Lib.hid (HD7.out.trans (hb.mono HD7.out.size)); clear hb) | (go_at_call 33; (with_reducible refine (HS.out _ HB6.out.drew).mono ?_); rintro e w7 ⟨rfl, hb⟩; have ga0 := cell_keep' hb g0; have ga1 := cell_keep' hb g1; have ga2 := cell_keep' hb g2; have HB7 := Lib.hid (HB6.out.drew.trans (hb.mono HB6.out.size)); have HC7 := Lib.hid (HC6.out.drew.trans (hb.mono HC6.out.size)); have HD7 := Lib.hid (HD6.out.drew.trans (hb.mono HD6.out.size)); clear hb))
      go_upto_region 13 with fail
      clear g0 g1 g2 ga0 ga1 ga2
      have HT8 := Lib.hid (HTB.out.keep HC8.out)
      have HA8 := Lib.hid (HIA.out.keep HD8.out)
      have HQ8 := Lib.hid (HIB.out.keep HD8.out)
      obtain ⟨bc, hbc⟩ : ∃ bc, bc = (decide (0 < la) && decide (0 < lb) && !b5) := ⟨_, rfl⟩
      have HBC := Lib.hid hbc
      clear hbc
      go_cut [111] from 101 to 111 (fun t wx => t = .bool bc ∧ wx = w8)
      case first =>
        have hbc := HBC.out
        by_cases z1 : 0 < la
        · have z2 : decide (0 < la) = true := decide_eq_true z1
          have z3 : decide ((0 : Int) < (la : Int)) = true := decide_eq_true (by omega)
          by_cases z4 : 0 < lb
          · have z5 : decide (0 < lb) = true := decide_eq_true z4
            have z6 : decide ((0 : Int) < (lb : Int)) = true := decide_eq_true (by omega)
            rw [z2, z5] at hbc
            have HBC2 := Lib.hid hbc
            clear hbc
            go_wp2_with fail
            go_meet
            exact ⟨by rw [HBC2.out]; cases b5 <;> rfl, rfl⟩
          · have z5 : decide (0 < lb) = false := decide_eq_false z4
            have z6 : decide ((0 : Int) < (lb : Int)) = false := decide_eq_false (by omega)
            rw [z2, z5] at hbc
            have HBC2 := Lib.hid hbc
            clear hbc
            go_wp2_with fail
            go_meet
            exact ⟨by rw [HBC2.out]; rfl, rfl⟩
        · have z2 : decide (0 < la) = false := decide_eq_false z1
          have z3 : decide ((0 : Int) < (la : Int)) = false := decide_eq_false (by omega)
          rw [z2] at hbc
          have HBC2 := Lib.hid hbc
          clear hbc
          go_wp2_with fail
          go_meet
          exact ⟨by rw [HBC2.out]; rfl, rfl⟩
      case rest =>
        obtain ⟨rfl, rfl⟩ := hcut
        obtain ⟨W8, hW8⟩ : ∃ W8, W8 = wc := ⟨_, rfl⟩
        subst hW8
        go_upto_if 111 with fail
        go_cut [13, 14, 15] from 112 to 129 (fun x y z wx => Hid (Below W8.heap.size W8 wx))
        case first =>
          cases bc with
          | true =>
            have hbc := HBC.out
            simp only [Bool.true_eq, Bool.and_eq_true, decide_eq_true_eq, Bool.not_eq_true'] at hbc
            obtain ⟨⟨z1, z2⟩, z3⟩ := hbc
            have hk := HKH.out (by rw [← HLA.out]; exact z1) (by rw [← HLB.out]; exact z2) z3
            rw [← HLA.out, ← HLB.out] at hk
            have HK43 := Lib.hid hk
            clear hk z1 z2 z3
            have hkx : decide (wrap64 (sf * Y) < X) = false := decide_eq_false (Int.not_lt.2 HKX.out)
            go_wp2_with (first | (go_at_call 43; (with_reducible refine (HK43.out _ _ _ _ HT9.out (HA8.out.keep HE9.out) (HQ8.out.keep HE9.out)).mono ?_); rintro e w10 ⟨rfl, hb⟩; have HE10 := Lib.hid (HE9.out.trans (hb.mono HE9.out.size)); clear hb) | (go_at_call 23; (with_reducible refine (HCB.out _ _ HT8.out).mono ?_); rintro e w9 ⟨ta2, ca2, rfl, ht, hb⟩; have HT9 := Lib.hid ht; have HE9 := Lib.hid hb; clear hb ht))
            go_meet
            exact HE10
          | false =>
            go_wp2_with fail
            go_meet
            exact Lib.hid (Below.refl _ _)
        case rest =>
          have HE0 : Hid (Below W8.heap.size W8 wc) := hcut
          have HB0 : Hid (Below W.heap.size W wc) := Lib.hid (HB8.out.trans (HE0.out.mono HB8.out.size))
          have HT0 : Hid (Bs wc (.slice (some ta) i cN) i f) := Lib.hid (HT8.out.keep HE0.out)
          have j0 := cell_keep' HE0.out gb0
          have j1 := cell_keep' HE0.out gb1
          have j2 := cell_keep' HE0.out gb2
          clear gb0 gb1 gb2
          obtain ⟨W0, hW0⟩ : ∃ W0, W0 = wc := ⟨_, rfl⟩
          subst hW0
          go_wp2_with fail
          go_loopw [16, 17, 18] (fun b x y wr => ∃ v vs, v ≤ n ∧ x = I v ∧ Hid (Bk W0 wr b vs (bkz dp (jtp Z tl) v))) (fun _ x _ _ => n - (intOf x).toNat)
          case atStart => exact ⟨0, [], Nat.zero_le _, rfl, Lib.hid (Bk.start W0)⟩
          case round =>
            obtain ⟨v, vs, hv, rfl, HK⟩ := hrel
            by_cases hvn : v < n
            · have h1v : (v : Int) < (n : Nat) := Int.ofNat_lt.2 hvn
              have h0v : (0 : Int) ≤ (v : Int) := Int.natCast_nonneg _
              have hwv : wrap64 ((v : Int) + 1) = ((v + 1 : Nat) : Int) := wr_nx h1v HNS.out
              have HVN := Lib.hid hvn
              obtain ⟨A1, c1, rfl, hlc, hCr⟩ := HK.out.reads (Nat.le_trans (bkz_len _ _ _) (by have := HNS.out; omega))
              obtain ⟨bd, hbd⟩ : ∃ bd, bd = dp v := ⟨_, rfl⟩
              have HBD := Lib.hid hbd
              have H44 := Lib.hid (HDP.out _ _ v hvn (HT0.out.keep HK.out.b))
              rw [← hbd] at H44
              clear hbd hvn hlc hCr
              obtain ⟨l0, hl0⟩ : ∃ l0, l0 = bkz dp (jtp Z tl) v := ⟨_, rfl⟩
              rw [← hl0] at HK ⊢
              have HL0 := Lib.hid hl0
              clear hl0
              cases bd with
              | false =>
                go_wp2_with (go_at_call 44; (with_reducible refine H44.out.mono ?_); rintro e w12 ⟨rfl, hb⟩; have HF12 := Lib.hid hb; clear hb)
                go_roundw
                case rel => exact ⟨v + 1, vs, HVN.out, by rw [hwv], Lib.hid (by rw [bkz_same HBD.out.symm, ← HL0.out]; exact HK.out.keep HF12.out)⟩
                case measure => exact meas hwv HVN.out
              | true =>
                go_upto_region 23 with (go_at_call 44; (with_reducible refine H44.out.mono ?_); rintro e w12 ⟨rfl, hb⟩; have HF12 := Lib.hid hb; clear hb)
                have HK12 := Lib.hid (HK.out.keep HF12.out)
                obtain ⟨cb, hcb⟩ : ∃ cb, cb = (decide (0 < l0.length) && jtp Z tl v) := ⟨_, rfl⟩
                have HCB2 := Lib.hid hcb
                clear hcb
                obtain ⟨kl, hkl⟩ : ∃ kl, kl = l0.length := ⟨_, rfl⟩
                rw [← hkl] at HCB2 ⊢
                have HKL := Lib.hid hkl
                replace HK12 : Hid (Bk W0 w12 (.slice A1 kl c1) vs l0) := Lib.hid (by rw [hkl]; exact HK12.out)
                clear hkl
                go_cut [158] from 130 to 175 (fun t wx => t = .bool cb ∧ wx = w12)
                case first =>
                  have hcb := HCB2.out
                  by_cases z1 : 0 < kl
                  · have z2 : decide (0 < kl) = true := decide_eq_true z1
                    have z3 : decide ((0 : Int) < (kl : Int)) = true := decide_eq_true (by omega)
                    rw [z2] at hcb
                    by_cases htl : 0 < tl
                    · have e1 : decide (0 < tl) = true := decide_eq_true htl
                      have e2 : decide ((0 : Int) < (tl : Int)) = true := decide_eq_true (by omega)
                      have e4 : ¬ (tl : Int) = 0 := by omega
                      have e4' : ¬ tl = 0 := by omega
                      obtain ⟨j, hj⟩ : ∃ j, j = v % tl := ⟨_, rfl⟩
                      unfold jtp at hcb
                      rw [e1, ← hj] at hcb
                      have HCB3 := Lib.hid hcb
                      have hjl : j < tl := by rw [hj]; exact Nat.mod_lt _ htl
                      have hjl' : (j : Int) < (tl : Int) := Int.ofNat_lt.2 hjl
                      have hj0 : (0 : Int) ≤ (j : Int) := Int.natCast_nonneg _
                      have hm : (v : Int) % (tl : Int) = (j : Int) := by rw [hj]; rfl
                      have hm' : (v : Int).tmod (tl : Int) = (j : Int) := by rw [Int.tmod_eq_emod_of_nonneg (Int.natCast_nonneg _)]; exact hm
                      obtain ⟨b, rfl, x0⟩ := HZ.out.at' (i := j) hjl
                      replace x0 := cell_keep' (HB0.out.trans (HK12.out.b.mono HB0.out.size)) x0
                      clear hj hcb
                      go_wp2_with fail
                      go_meet
                      refine ⟨?_, rfl⟩
                      rw [HCB3.out]
                      rfl
                    · have e1 : decide (0 < tl) = false := decide_eq_false htl
                      have e2 : decide ((0 : Int) < (tl : Int)) = false := decide_eq_false (by omega)
                      unfold jtp at hcb
                      rw [e1] at hcb
                      have HCB3 := Lib.hid hcb
                      clear hcb
                      go_wp2_with fail
                      go_meet
                      exact ⟨by rw [HCB3.out]; rfl, rfl⟩
                  · have z2 : decide (0 < kl) = false := decide_eq_false z1
                    have z3 : decide ((0 : Int) < (kl : Int)) = false := decide_eq_false (by omega)
                    rw [z2] at hcb
                    have HCB3 := Lib.hid hcb
                    clear hcb
                    go_wp2_with fail
                    go_meet
                    exact ⟨by rw [HCB3.out]; rfl, rfl⟩
                case rest =>
                  obtain ⟨rfl, rfl⟩ := hcut
                  obtain ⟨WB, hWB⟩ : ∃ WB, WB = wc := ⟨_, rfl⟩
                  subst hWB
                  have HSZ : Hid (W0.heap.size ≤ WB.heap.size) := Lib.hid HK12.out.b.size
                  have HKS : Hid (kl ≤ 256) := Lib.hid (by rw [HKL.out, HL0.out]; have := bkz_len dp (jtp Z tl) v; have := HNS.out; have := HVN.out; omega)
                  cases cb with
                  | true =>
                    have hcb := HCB2.out
                    simp only [Bool.true_eq, Bool.and_eq_true, decide_eq_true_eq] at hcb
                    obtain ⟨z1, z2⟩ := hcb
                    obtain ⟨l', r, hlr⟩ := last_of (l := l0) (by rw [← HKL.out]; exact z1)
                    obtain ⟨vs', x, hvs⟩ := last_of (l := vs) (by rw [HK12.out.n, ← HKL.out]; exact z1)
                    have hK := HK12.out
                    rw [hlr, hvs] at hK
                    have hkn : kl = (vs' ++ [x]).length := by rw [HKL.out, ← HK12.out.n, hvs]
                    have hkl' : vs'.length = l'.length := by have := hK.n; simpa using this
                    have hR := hK.r vs'.length x r (by simp) (by rw [hkl']; simp)
                    rcases hK.o.2 with ⟨_, h0⟩ | ⟨g, cap, cur, he, _, _, hle, _⟩
                    · exfalso; simp at h0
                    injection he with he1 he2 he3
                    subst he1
                    subst he3
                    clear he2
                    have x1 := (hkn ▸ hK : Bk W0 WB (.slice (some ⟨g, 0, none⟩) (vs' ++ [x]).length c1) (vs' ++ [x]) (l' ++ [r])).o.cells (g := g) rfl vs'.length x (by simp)
                    rw [add_plain] at x1
                    have hkk1 : kl = vs'.length + 1 := by rw [hkn]; simp
                    have hwk : wrap64 ((kl : Int) - 1) = (vs'.length : Int) := wr_pr hkk1 HKS.out
                    have hk0 : (0 : Int) ≤ (vs'.length : Int) := Int.natCast_nonneg _
                    have hk1 : (vs'.length : Int) < (kl : Int) := by omega
                    have HJT := Lib.hid z2
                    have HKN2 := Lib.hid hkn
                    have HLR := Lib.hid hlr
                    rw [hkn] at hK
                    have HK13 := Lib.hid hK
                    have HR := Lib.hid hR
                    have HRL : Hid (r.length ≤ 256) := Lib.hid (Nat.le_trans (bkz_row (by rw [← HL0.out, hlr]; exact List.mem_append_right _ (by simp))) (Nat.le_trans hv HNS.out))
                    obtain ⟨ax, cx, rfl, _⟩ := own_reads hR
                    clear z1 z2 hlr hvs hK hkn hkl' hR hkk1 hle
                    go_wp2_with (at_builtin; refine print_append_num (w0 := W0) W0.heap.size rfl (.tmp 166) (.tmp 168) 52 3 .i64 8 rfl Try.underlying52 (by kernel_rfl) (by decide) _ r (v : Int) rfl rfl HR.out HK12.out.b HSZ.out (by have := HRL.out; omega) ?_; intro x2 w1 ho1 hb1 hg1 ha1; obtain ⟨ax2, cx2, rfl, _⟩ := own_reads ho1; have HM := Lib.hid (HK13.out.more ho1 hb1 hg1 ha1); obtain ⟨y1, y2⟩ := HK13.out.cell hg1; clear ho1 hb1 hg1 ha1)
                    go_roundw
                    case rel => exact ⟨v + 1, _, HVN.out, by rw [hwv], Lib.hid (by rw [bkz_more HBD.out.symm HJT.out (HL0.out.symm.trans HLR.out)]; have hm := HM.out; rw [← HKN2.out, show (r ++ [(v : Int)]).length = r.length + 1 by simp] at hm; exact hm)⟩
                    case measure => exact meas hwv HVN.out
                  | false =>
                    have HNJ : Hid (¬ (0 < (bkz dp (jtp Z tl) v).length ∧ jtp Z tl v = true)) := Lib.hid (by
                      rw [← HL0.out, ← HKL.out]
                      rintro ⟨q1, q2⟩
                      have := HCB2.out
                      rw [decide_eq_true q1, q2] at this
                      cases this)
                    go_wp2_with (at_builtin; refine print_append (w0 := W0) W0.heap.size rfl (.tmp 171) (.tmp 174) 50 52 (.slice none 0 0) 24 rfl Try.underlying50 (by kernel_rfl) rfl (by decide) _ vs (.slice (some ⟨WB.heap.size, 0, none⟩) 1 1) rfl (by rw [World.size_alloc]; rfl) rfl (HK12.out.o.alloc _) (below_alloc HK12.out.b _) (by rw [World.size_alloc]; exact Nat.le_succ_of_le HSZ.out) (by rw [HK12.out.n, ← HKL.out]; have := HKS.out; omega) ?_; intro v1 w1 ho1 hb1 hg1 ha1; have HM := Lib.hid (HK12.out.push ho1 hb1 hg1 ha1); clear ho1 hb1 hg1 ha1)
                    go_roundw
                    case rel => exact ⟨v + 1, _, HVN.out, by rw [hwv], Lib.hid (by rw [bkz_new HBD.out.symm HNJ.out, ← HL0.out]; exact HM.out)⟩
                    case measure => exact meas hwv HVN.out
            · obtain rfl : v = n := by omega
              obtain ⟨A1, c1, rfl, hlc, hCr⟩ := HK.out.reads (Nat.le_trans (bkz_len _ _ _) (by have := HNS.out; omega))
              have HLC := Lib.hid hlc
              have HCR := Lib.hid hCr
              have HBz : Hid (Below W.heap.size W wr) := Lib.hid (HB0.out.trans (HK.out.b.mono HB0.out.size))
              have HTz : Hid (Bs wr (.slice (some ta) i cN) i f) := Lib.hid (HT0.out.keep HK.out.b)
              have p0 := cell_keep' HK.out.b j0
              have p1 := cell_keep' HK.out.b j1
              have p2 := cell_keep' HK.out.b j2
              clear j0 j1 j2 hv hvn hlc hCr
              have H40 := Lib.hid (fun w tv (hb : Bs w tv i f) => HNE.out w tv A1 c1 hb HLC.out)
              have hkn : decide (wrap64 (4 * sf) < S) = false := decide_eq_false (Int.not_lt.2 HKN.out)
              go_upto_region 27 with (first | (go_at_call 40; (with_reducible refine (H40.out _ _ HT13.out (Kd.C_below HCR.out HG13.out)).mono ?_); rintro e w14 ⟨uu, rfl, hb⟩; have HG14 := Lib.hid (HG13.out.trans (hb.mono HG13.out.size)); clear hb) | (go_at_call 23; (with_reducible refine (HCB.out _ _ HTz.out).mono ?_); rintro e w13 ⟨ta3, ca3, rfl, ht, hb⟩; have HT13 := Lib.hid ht; have HG13 := Lib.hid hb; clear hb ht))
              have HB14 : Hid (Below W.heap.size W w14) := Lib.hid (HBz.out.trans (HG14.out.mono HBz.out.size))
              have HT14 := Lib.hid (HTz.out.keep HG14.out)
              have q0 := cell_keep' HG14.out p0
              have q1 := cell_keep' HG14.out p1
              have q2 := cell_keep' HG14.out p2
              clear p0 p1 p2
              by_cases h3 : 3 < v
              · have h3a : decide (3 < v) = true := decide_eq_true h3
                have h3b : decide ((3 : Int) < (v : Int)) = true := decide_eq_true (by omega)
                go_wp2_with (go_at_call 21; (with_reducible refine (HAW.out _).mono ?_); rintro e w15 ⟨rfl, hb⟩; have HB15 := Lib.hid (HB14.out.trans (hb.mono HB14.out.size)); clear hb)
                go_ret
                exact ⟨rfl, HB15.out⟩
              · have h3a : decide (3 < v) = false := decide_eq_false h3
                have h3b : decide ((3 : Int) < (v : Int)) = false := decide_eq_false (by omega)
                have h3c : v ≤ 3 := Nat.not_lt.1 h3
                have H27' := Lib.hid (fun w tv (hb : Bs w tv i f) => H27.out w tv h3c hb)
                have H22' := Lib.hid (fun w tv (hb : Bs w tv i f) => H22.out w tv h3c hb)
                have H29' := Lib.hid (fun w tv (hb : Bs w tv i f) => H29.out w tv h3c hb)
                have k29 : decide (bi ≤ sf) = true := decide_eq_true (K29.out h3c)
                go_upto_region 34 with (first | (go_at_call 29; (with_reducible refine (H29'.out _ _ HT19c.out).mono ?_); rintro e w20 ⟨rfl, hb⟩; have HT20 := Lib.hid (HT19.out.keep hb); have HB20 := Lib.hid (HB19.out.trans (hb.mono HB19.out.size)); have z200 := cell_keep' hb z190; have z201 := cell_keep' hb z191; have z202 := cell_keep' hb z192; clear hb) | (go_at_call 23; (with_reducible refine (HCB.out _ _ HT18.out).mono ?_); rintro e w19 ⟨tb18, cb18, rfl, ht, hb⟩; have HT19c := Lib.hid ht; have HT19 := Lib.hid (HT18.out.keep hb); have HB19 := Lib.hid (HB18.out.trans (hb.mono HB18.out.size)); have z190 := cell_keep' hb z180; have z191 := cell_keep' hb z181; have z192 := cell_keep' hb z182; clear hb ht) | (go_at_call 22; (with_reducible refine (H22'.out _ _ HT17c.out).mono ?_); rintro e w18 ⟨rfl, hb⟩; have HT18 := Lib.hid (HT17.out.keep hb); have HB18 := Lib.hid (HB17.out.trans (hb.mono HB17.out.size)); have z180 := cell_keep' hb z170; have z181 := cell_keep' hb z171; have z182 := cell_keep' hb z172; clear hb) | (go_at_call 23; (with_reducible refine (HCB.out _ _ HT16.out).mono ?_); rintro e w17 ⟨tb16, cb16, rfl, ht, hb⟩; have HT17c := Lib.hid ht; have HT17 := Lib.hid (HT16.out.keep hb); have HB17 := Lib.hid (HB16.out.trans (hb.mono HB16.out.size)); have z170 := cell_keep' hb z160; have z171 := cell_keep' hb z161; have z172 := cell_keep' hb z162; clear hb ht) | (go_at_call 27; (with_reducible refine (H27'.out _ _ HT15c.out).mono ?_); rintro e w16 ⟨rfl, hb⟩; have HT16 := Lib.hid (HT15.out.keep hb); have HB16 := Lib.hid (HB15.out.trans (hb.mono HB15.out.size)); have z160 := cell_keep' hb z150; have z161 := cell_keep' hb z151; have z162 := cell_keep' hb z152; clear hb) | (go_at_call 23; (with_reducible refine (HCB.out _ _ HT14.out).mono ?_); rintro e w15 ⟨tb14, cb14, rfl, ht, hb⟩; have HT15c := Lib.hid ht; have HT15 := Lib.hid (HT14.out.keep hb); have HB15 := Lib.hid (HB14.out.trans (hb.mono HB14.out.size)); have z150 := cell_keep' hb q0; have z151 := cell_keep' hb q1; have z152 := cell_keep' hb q2; clear hb ht))
                cases b5 with
                | true =>
                  go_wp2_with (go_at_call 21; (with_reducible refine (HAW.out _).mono ?_); rintro e w21 ⟨rfl, hb⟩; have HB21 := Lib.hid (HB20.out.trans (hb.mono HB20.out.size)); clear hb)
                  go_ret
                  exact ⟨rfl, HB21.out⟩
                | false =>
                  have k1 : decide (ls ≤ sf) = true := decide_eq_true (KP.out h3c rfl).1
                  have k2 : decide (ld ≤ df) = true := decide_eq_true (KP.out h3c rfl).2
                  go_wp2_with (first | (go_at_call 21; (with_reducible refine (HAW.out _).mono ?_); rintro e w22 ⟨rfl, hb⟩; have HB22 := Lib.hid (HB21.out.trans (hb.mono HB21.out.size)); clear hb) | (go_at_call 45; (with_reducible refine (HD.out _ HB20.out).mono ?_); rintro e w21 ⟨rfl, hb⟩; have HB21 := Lib.hid (HB20.out.trans (hb.mono HB20.out.size)); clear hb))
                  go_ret
                  exact ⟨rfl, HB22.out⟩
end Go.Proofs.Ytpfbommaddaijaa

