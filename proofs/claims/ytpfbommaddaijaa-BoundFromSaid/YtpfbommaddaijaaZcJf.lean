/- The law BoundFrom: the walk for more than 8 inputs. -/
import Derived.Test.YtpfbommaddaijaaZcJe
namespace Go.Proofs.Ytpfbommaddaijaa
open Go.RowKit Go.Proofs.YtpfbommaddaijaaW.PrintWords Go.Proofs.YtpfbommaddaijaaW.PrintLast PBoundTo
set_option linter.unusedVariables false
set_option linter.unusedSimpArgs false

theorem H_take8 {P : Program} {md : Region.Mode} {ops : Array Oper} {Q : Exit → Act → World → Prop} {S : World → Prop} {i : Nat} {oi : Oper} {d : Option Tmp} {v : Value} {fuel : Nat} {listed : Array Bool} {a : Act} {w : World} (hi : ops[i]? = some oi) (hd : oi.dst = d)
    (hs : Region.noSelect ops = true) (hf : Region.free md ops listed i = true) (hr : (Region.ready md ops listed).contains i = true)
    (hQ : ∀ c a w, Q (.panic c) (a.put d v) w → Q (.panic c) a w) (hy : YieldsIf P ops S oi v a) (hS : S w)
    (h : wpAnyH P md ops Q S fuel (listed.setIfInBounds i true) (a.put d v) w) : wpAnyH P md ops Q S (fuel + 1) listed a w := by
  subst hd
  exact wpAnyH_take hi hs hf hr hQ hy hS h
set_option maxHeartbeats 8000000 in
set_option maxRecDepth 100000 in
theorem from_ok12 {W : World} {k m : Int} {n : Nat} {A : Option Addr} {l c : Nat} {vi sf df dp lv : Int} {q : Pt} (HG : ∀ W', Below W.heap.size W W' → Calls Try.prog 42 #[.agg #[I k, I m, .slice A l c]] W' fun e W'' => e = .returned (.bool false) ∧ Below W'.heap.size W' W'') (HV : ∀ W', Below W.heap.size W W' → Calls Try.prog 31 #[.agg #[I k, I m, .slice A l c]] W' fun e W'' => e = .returned (.bool true) ∧ Below W'.heap.size W' W'') (HI : ∀ W', Below W.heap.size W W' → Calls Try.prog 16 #[.agg #[I k, I m, .slice A l c]] W' fun e W'' => e = .returned (I vi) ∧ Below W'.heap.size W' W'') (HX : ∀ W', Below W.heap.size W W' → Calls Try.prog 32 #[.agg #[I k, I m, .slice A l c], I 5] W' fun e W'' => e = .returned (.bool false) ∧ Below W'.heap.size W' W'') (HK : ∀ W', Below W.heap.size W W' → Calls Try.prog 32 #[.agg #[I k, I m, .slice A l c], I 1] W' fun e W'' => e = .returned (.bool false) ∧ Below W'.heap.size W' W'') (d1 : decide ((n : Int) < 1) = false) (d2 : decide ((12 : Int) < (n : Int)) = false) (d3 : decide ((n : Int) < vi) = false) (HCP : ∀ W', Below W.heap.size W W' → Calls Try.prog 47 #[.agg #[I k, I m, .slice A l c]] W' fun e W'' => ∃ c, e = .returned c ∧ Cp1 W'' c (n : Int) (fun W2 => FfR W2 q) ∧ Below W'.heap.size W' W'') (HS : ∀ W', Below W.heap.size W W' → Calls Try.prog 33 #[.agg #[I k, I m, .slice A l c]] W' fun e W'' => e = .returned (I sf) ∧ Below W'.heap.size W' W'') (HD : ∀ W', Below W.heap.size W W' → Calls Try.prog 45 #[.agg #[I k, I m, .slice A l c]] W' fun e W'' => e = .returned (I df) ∧ Below W'.heap.size W' W'') (HQ : Pq q n dp lv) (q1 : decide (df < dp) = false) (q2 : decide (sf < lv) = false) (d8 : decide ((n : Int) ≤ 8) = false) {N : Nat} (hN : wrap64 ((2 : Int) ^ n) = (N : Int)) (hN1 : 0 < N) {g : Nat → Bool} {r : Nat → Nat → Nat}
    (HBt : ∀ w x, x < N → Calls Try.prog 51 #[I x, I n] w (BtR w n (fun i => x.testBit i)))
    (HE : ∀ w x A1 c1, Below W.heap.size W w → x < N → Bs w (.slice A1 n c1) n (fun i => x.testBit i) → Calls Try.prog 50 #[.agg #[I k, I m, .slice A l c], .slice A1 n c1] w (EvR w (g x)))
    (H52 : ∀ w A3 c3 A4 c4 x y, Po w q A3 A4 c3 c4 → x < N → y < N → Calls Try.prog 52 #[pAgg q A3 A4 c3 c4, I x, I y] w fun e w' => e = .returned (I (r x y : Nat)) ∧ Below w.heap.size w w')
    (HSO : ∀ x y, x < N → y < N → g x = true → g y = false → bits BinOp.and IntKind.i64 (bits BinOp.xor IntKind.i64 (x : Int) (y : Int) / 2 ^ min (r x y) 64) 1 = 1) : Calls Try.prog 8 #[.agg #[I k, I m, .slice A l c], I n] W fun e W' => e = .returned (.bool true) ∧ Below W.heap.size W W' := by
  unfold FfR Cp1 at HCP
  unfold BtR at HBt
  unfold EvR at HE
  replace HG := Lib.hid HG
  replace HV := Lib.hid HV
  replace HI := Lib.hid HI
  replace HX := Lib.hid HX
  replace HK := Lib.hid HK
  replace HCP := Lib.hid HCP
  replace HS := Lib.hid HS
  replace HD := Lib.hid HD
  replace HQ := Lib.hid HQ
  replace HBt := Lib.hid HBt
  replace HE := Lib.hid HE
  replace H52 := Lib.hid H52
  replace HSO := Lib.hid HSO
  obtain ⟨W1, hW1⟩ : ∃ W1, W1 = W.alloc (.cells #[I k, I m, .slice A l c] 24) := ⟨_, rfl⟩
  have HB1 : Hid (Below W.heap.size W W1) := Lib.hid (by rw [hW1]; exact below_alloc (Below.refl _ _) _)
  have BK : W1.heap[W.heap.size]? = some (.cells #[I k, I m, .slice A l c] 24 (0, 0)) := by rw [hW1]; exact blk_new _ _
  have k0 : W1.cell? ⟨W.heap.size, 0, none⟩ = some (I k) := (blk_cell BK 0).trans rfl
  have k1 : W1.cell? ⟨W.heap.size, 1, none⟩ = some (I m) := (blk_cell BK 1).trans rfl
  have k2 : W1.cell? ⟨W.heap.size, 2, none⟩ = some (.slice A l c) := (blk_cell BK 2).trans rfl
  clear BK
  have HAW := Lib.hid awake_any
  have HNZ := Lib.hid none_zero
  have HN1 := Lib.hid hN1
  have HN0 : Hid (((N : Int) == 0) = false ∧ (N : Int) ≠ 0) := Lib.hid ⟨beq_eq_false_iff_ne.mpr (by omega), by omega⟩
  have hn0 : (0 : Int) ≤ n := by omega
  have hNm : wrap64 ((2 : Int) ^ min n 64) = (N : Int) := by rw [Nat.min_eq_left (by have := of_decide_eq_false d2; omega)]; exact hN
  clear hN1
  go_enter Try.func8, Try.ntmps8
  go_upto_region 1 with fail
  rw [← hW1]
  clear hW1
  go_upto_region 9 with (first | (go_at_call 46; (with_reducible refine (HC.out _ (Below.refl _ _)).mono ?_); rintro e w8 ⟨A3, c3, A4, c4, rfl, hp, hb⟩; have t0 := cell_keep' hb s0; have t1 := cell_keep' hb s1; have t2 := cell_keep' hb s2; clear s0 s1 s2; have HB8 := Lib.hid (HB7.out.trans (hb.mono HB7.out.size)); have HP8 := Lib.hid hp; clear hb hp) | (go_at_call 47; (with_reducible refine (HCP.out _ HB6.out).mono ?_); rintro e w7 ⟨cc, rfl, hc, hb⟩; have HC := Lib.hid hc; have s0 := cell_keep' hb r0; have s1 := cell_keep' hb r1; have s2 := cell_keep' hb r2; clear r0 r1 r2; have HB7 := Lib.hid (HB6.out.trans (hb.mono HB6.out.size)); clear hb hc) | (go_at_call 32; (with_reducible refine (HK.out _ HB5.out).mono ?_); rintro e w6 ⟨rfl, hb⟩; have r0 := cell_keep' hb q0; have r1 := cell_keep' hb q1; have r2 := cell_keep' hb q2; clear q0 q1 q2; have HB6 := Lib.hid (HB5.out.trans (hb.mono HB5.out.size)); clear hb) | (go_at_call 32; (with_reducible refine (HX.out _ HB4.out).mono ?_); rintro e w5 ⟨rfl, hb⟩; have q0 := cell_keep' hb p0; have q1 := cell_keep' hb p1; have q2 := cell_keep' hb p2; clear p0 p1 p2; have HB5 := Lib.hid (HB4.out.trans (hb.mono HB4.out.size)); clear hb) | (go_at_call 16; (with_reducible refine (HI.out _ HB3.out).mono ?_); rintro e w4 ⟨rfl, hb⟩; have p0 := cell_keep' hb n0; have p1 := cell_keep' hb n1; have p2 := cell_keep' hb n2; clear n0 n1 n2; have HB4 := Lib.hid (HB3.out.trans (hb.mono HB3.out.size)); clear hb) | (go_at_call 31; (with_reducible refine (HV.out _ HB2.out).mono ?_); rintro e w3 ⟨rfl, hb⟩; have n0 := cell_keep' hb m0; have n1 := cell_keep' hb m1; have n2 := cell_keep' hb m2; clear m0 m1 m2; have HB3 := Lib.hid (HB2.out.trans (hb.mono HB2.out.size)); clear hb) | (go_at_call 42; (with_reducible refine (HG.out _ HB1.out).mono ?_); rintro e w2 ⟨rfl, hb⟩; have m0 := cell_keep' hb k0; have m1 := cell_keep' hb k1; have m2 := cell_keep' hb k2; clear k0 k1 k2; have HB2 := Lib.hid (HB1.out.trans (hb.mono HB1.out.size)); clear hb))
  have HB9 := Lib.hid (below_alloc HB8.out (.cells #[.bool q.toS.f0, I q.toS.f1, I q.toS.f2, .slice A3 q.toS.f3.length c3, .slice A4 q.toS.f4.length c4] 32))
  have HF0 : Hid ((w8.alloc (.cells #[.bool q.toS.f0, I q.toS.f1, I q.toS.f2, .slice A3 q.toS.f3.length c3, .slice A4 q.toS.f4.length c4] 32)).heap[w8.heap.size]? = some (.cells #[.bool q.toS.f0, I q.toS.f1, I q.toS.f2, .slice A3 q.toS.f3.length c3, .slice A4 q.toS.f4.length c4] 32 (0, 0))) := Lib.hid (blk_new _ _)
  have HP9 := Lib.hid (HP8.out.keep ((Below.refl w8.heap.size w8).alloc (Nat.le_refl _) (.cells #[.bool q.toS.f0, I q.toS.f1, I q.toS.f2, .slice A3 q.toS.f3.length c3, .slice A4 q.toS.f4.length c4] 32)))
  have u0 := cell_alloc t0 (.cells #[.bool q.toS.f0, I q.toS.f1, I q.toS.f2, .slice A3 q.toS.f3.length c3, .slice A4 q.toS.f4.length c4] 32)
  have u1 := cell_alloc t1 (.cells #[.bool q.toS.f0, I q.toS.f1, I q.toS.f2, .slice A3 q.toS.f3.length c3, .slice A4 q.toS.f4.length c4] 32)
  have u2 := cell_alloc t2 (.cells #[.bool q.toS.f0, I q.toS.f1, I q.toS.f2, .slice A3 q.toS.f3.length c3, .slice A4 q.toS.f4.length c4] 32)
  clear t0 t1 t2
  generalize w8.alloc (.cells #[.bool q.toS.f0, I q.toS.f1, I q.toS.f2, .slice A3 q.toS.f3.length c3, .slice A4 q.toS.f4.length c4] 32) = w9 at *
  generalize w8.heap.size = gb at *
  have f0 : w9.cell? ⟨gb, 0, none⟩ = some (.bool q.toS.f0) := (blk_cell HF0.out 0).trans rfl
  have f1 : w9.cell? ⟨gb, 1, none⟩ = some (I q.toS.f1) := (blk_cell HF0.out 1).trans rfl
  have f2 : w9.cell? ⟨gb, 2, none⟩ = some (I q.toS.f2) := (blk_cell HF0.out 2).trans rfl
  have f3 : w9.cell? ⟨gb, 3, none⟩ = some (.slice A3 q.toS.f3.length c3) := (blk_cell HF0.out 3).trans rfl
  have f4 : w9.cell? ⟨gb, 4, none⟩ = some (.slice A4 q.toS.f4.length c4) := (blk_cell HF0.out 4).trans rfl
  go_upto_region 17 with (go_at_call 18; (with_reducible refine (HQ.out.c18 _ _ _ _ _ HP9.out).mono ?_); rintro e w10 ⟨rfl, hb⟩; have ua0 := cell_keep' hb u0; have ua1 := cell_keep' hb u1; have ua2 := cell_keep' hb u2; have fa0 := cell_keep' hb f0; have fa1 := cell_keep' hb f1; have fa2 := cell_keep' hb f2; have fa3 := cell_keep' hb f3; have fa4 := cell_keep' hb f4; have HB10 := Lib.hid (HB9.out.trans (hb.mono HB9.out.size)); have HP10 := Lib.hid (HP9.out.keep hb); clear hb)
  clear u0 u1 u2 f0 f1 f2 f3 f4
  go_region_held3 (fun wh => wh.cell? ⟨W.heap.size, 0, none⟩ = some (I k) ∧ wh.cell? ⟨W.heap.size, 1, none⟩ = some (I m) ∧ wh.cell? ⟨W.heap.size, 2, none⟩ = some (.slice A l c) ∧ wh.cell? ⟨gb, 0, none⟩ = some (.bool q.toS.f0) ∧ wh.cell? ⟨gb, 1, none⟩ = some (I q.toS.f1) ∧ wh.cell? ⟨gb, 2, none⟩ = some (I q.toS.f2) ∧ wh.cell? ⟨gb, 3, none⟩ = some (.slice A3 q.toS.f3.length c3) ∧ wh.cell? ⟨gb, 4, none⟩ = some (.slice A4 q.toS.f4.length c4)) (first | exact ⟨ua0, ua1, ua2, fa0, fa1, fa2, fa3, fa4⟩ | exact ⟨ub0, ub1, ub2, fb0, fb1, fb2, fb3, fb4⟩ | exact ⟨uc0, uc1, uc2, fc0, fc1, fc2, fc3, fc4⟩ | exact ⟨ud0, ud1, ud2, fd0, fd1, fd2, fd3, fd4⟩ | exact ⟨ue0, ue1, ue2, fe0, fe1, fe2, fe3, fe4⟩ | exact ⟨uf0, uf1, uf2, ff0, ff1, ff2, ff3, ff4⟩ | go_keep) (first | (go_at_call 33; (with_reducible refine (HS.out _ HB14.out).mono ?_); rintro e w15 ⟨rfl, hb⟩; have uf0 := cell_keep' hb ue0; have uf1 := cell_keep' hb ue1; have uf2 := cell_keep' hb ue2; have ff0 := cell_keep' hb fe0; have ff1 := cell_keep' hb fe1; have ff2 := cell_keep' hb fe2; have ff3 := cell_keep' hb fe3; have ff4 := cell_keep' hb fe4; have HB15 := Lib.hid (HB14.out.trans (hb.mono HB14.out.size)); have HP15 := Lib.hid (HP14.out.keep hb); clear hb) | (go_at_call 49; (with_reducible refine (HQ.out.c49 _ _ _ _ _ HP13.out).mono ?_); rintro e w14 ⟨rfl, hb⟩; have ue0 := cell_keep' hb ud0; have ue1 := cell_keep' hb ud1; have ue2 := cell_keep' hb ud2; have fe0 := cell_keep' hb fd0; have fe1 := cell_keep' hb fd1; have fe2 := cell_keep' hb fd2; have fe3 := cell_keep' hb fd3; have fe4 := cell_keep' hb fd4; have HB14 := Lib.hid (HB13.out.trans (hb.mono HB13.out.size)); have HP14 := Lib.hid (HP13.out.keep hb); clear hb) | (go_at_call 45; (with_reducible refine (HD.out _ HB12.out).mono ?_); rintro e w13 ⟨rfl, hb⟩; have ud0 := cell_keep' hb uc0; have ud1 := cell_keep' hb uc1; have ud2 := cell_keep' hb uc2; have fd0 := cell_keep' hb fc0; have fd1 := cell_keep' hb fc1; have fd2 := cell_keep' hb fc2; have fd3 := cell_keep' hb fc3; have fd4 := cell_keep' hb fc4; have HB13 := Lib.hid (HB12.out.trans (hb.mono HB12.out.size)); have HP13 := Lib.hid (HP12.out.keep hb); clear hb) | (go_at_call 24; (with_reducible refine (HQ.out.c24 _ _ _ _ _ HP11.out).mono ?_); rintro e w12 ⟨rfl, hb⟩; have uc0 := cell_keep' hb ub0; have uc1 := cell_keep' hb ub1; have uc2 := cell_keep' hb ub2; have fc0 := cell_keep' hb fb0; have fc1 := cell_keep' hb fb1; have fc2 := cell_keep' hb fb2; have fc3 := cell_keep' hb fb3; have fc4 := cell_keep' hb fb4; have HB12 := Lib.hid (HB11.out.trans (hb.mono HB11.out.size)); have HP12 := Lib.hid (HP11.out.keep hb); clear hb) | (go_at_call 19; (with_reducible refine (HQ.out.c19 _ _ _ _ _ HP10.out.drew).mono ?_); rintro e w11 ⟨rfl, hb⟩; have ub0 := cell_keep' hb ua0; have ub1 := cell_keep' hb ua1; have ub2 := cell_keep' hb ua2; have fb0 := cell_keep' hb fa0; have fb1 := cell_keep' hb fa1; have fb2 := cell_keep' hb fa2; have fb3 := cell_keep' hb fa3; have fb4 := cell_keep' hb fa4; have HB11 := Lib.hid (HB10.out.drew.trans (hb.mono HB10.out.size)); have HP11 := Lib.hid (HP10.out.drew.keep hb); clear hb))
  go_wp2
  go_loopw [8] (fun y wr => ∃ i : Nat, i ≤ 3000 ∧ y = I i ∧ Hid (wr.cell? ⟨W.heap.size, 0, none⟩ = some (I k) ∧ wr.cell? ⟨W.heap.size, 1, none⟩ = some (I m) ∧ wr.cell? ⟨W.heap.size, 2, none⟩ = some (.slice A l c) ∧ wr.cell? ⟨gb, 0, none⟩ = some (.bool q.toS.f0) ∧ wr.cell? ⟨gb, 1, none⟩ = some (I q.toS.f1) ∧ wr.cell? ⟨gb, 2, none⟩ = some (I q.toS.f2) ∧ wr.cell? ⟨gb, 3, none⟩ = some (.slice A3 q.toS.f3.length c3) ∧ wr.cell? ⟨gb, 4, none⟩ = some (.slice A4 q.toS.f4.length c4)) ∧ Hid (Below W.heap.size W wr) ∧ Hid (Po wr q A3 A4 c3 c4)) (fun y _ => 3000 - (intOf y).toNat)
  case atStart => exact ⟨0, by omega, rfl, Lib.hid ⟨uf0, uf1, uf2, ff0, ff1, ff2, ff3, ff4⟩, HB15, HP15⟩
  case round =>
    clear uf0 uf1 uf2 ff0 ff1 ff2 ff3 ff4
    obtain ⟨i, hi, rfl, HBl, HBw, HPr⟩ := hrel
    by_cases hin : i < 3000
    · have hi0 : (0 : Int) ≤ i := by omega
      have hi1 : (i : Int) < 3000 := by omega
      obtain ⟨x, hx, hxN⟩ : ∃ x : Nat, Int.tmod ((i : Int) * 7919 + 13) (N : Int) = (x : Int) ∧ x < N := ⟨(i * 7919 + 13) % N, by rw [show ((i : Int) * 7919 + 13) = ((i * 7919 + 13 : Nat) : Int) by omega]; exact (Int.ofNat_tmod _ _).symm, Nat.mod_lt _ HN1.out⟩
      obtain ⟨y, hy, hyN⟩ : ∃ y : Nat, Int.tmod ((i : Int) * 104729 + 7) (N : Int) = (y : Int) ∧ y < N := ⟨(i * 104729 + 7) % N, by rw [show ((i : Int) * 104729 + 7) = ((i * 104729 + 7 : Nat) : Int) by omega]; exact (Int.ofNat_tmod _ _).symm, Nat.mod_lt _ HN1.out⟩
      have v1 : IntKind.i64.wrap ((i : Int) * 7919) = (i : Int) * 7919 := IntWalk.i64_in _ (by omega)
      have v2 : IntKind.i64.wrap ((i : Int) * 7919 + 13) = (i : Int) * 7919 + 13 := IntWalk.i64_in _ (by omega)
      have v3 : IntKind.i64.wrap ((i : Int) * 104729) = (i : Int) * 104729 := IntWalk.i64_in _ (by omega)
      have v4 : IntKind.i64.wrap ((i : Int) * 104729 + 7) = (i : Int) * 104729 + 7 := IntWalk.i64_in _ (by omega)
      obtain ⟨hN0, hN0'⟩ := HN0.out
      obtain ⟨ga, hga⟩ : ∃ ga, ga = g x := ⟨_, rfl⟩
      obtain ⟨gc, hgc⟩ : ∃ gc, gc = g y := ⟨_, rfl⟩
      obtain ⟨rn, hrn⟩ : ∃ rn, rn = r x y := ⟨_, rfl⟩
      obtain ⟨X, hX⟩ : ∃ X, X = bits BinOp.xor IntKind.i64 (x : Int) (y : Int) := ⟨_, rfl⟩
      have HEX : Hid (∀ w A1 c1, Below W.heap.size W w → Bs w (.slice A1 n c1) n (fun i => x.testBit i) → Calls Try.prog 50 #[.agg #[I k, I m, .slice A l c], .slice A1 n c1] w fun e w' => e = .returned (.bool ga) ∧ Below w.heap.size w w') := Lib.hid (fun w A1 c1 h1 h2 => by rw [hga]; exact HE.out w x A1 c1 h1 hxN h2)
      have HEY : Hid (∀ w A1 c1, Below W.heap.size W w → Bs w (.slice A1 n c1) n (fun i => y.testBit i) → Calls Try.prog 50 #[.agg #[I k, I m, .slice A l c], .slice A1 n c1] w fun e w' => e = .returned (.bool gc) ∧ Below w.heap.size w w') := Lib.hid (fun w A1 c1 h1 h2 => by rw [hgc]; exact HE.out w y A1 c1 h1 hyN h2)
      have HBX : Hid (∀ w, Calls Try.prog 51 #[I x, I n] w fun e w' => ∃ A c, e = .returned (.slice A n c) ∧ Bs w' (.slice A n c) n (fun i => x.testBit i) ∧ Below w.heap.size w w') := Lib.hid (fun w => HBt.out w x hxN)
      have HBY : Hid (∀ w, Calls Try.prog 51 #[I y, I n] w fun e w' => ∃ A c, e = .returned (.slice A n c) ∧ Bs w' (.slice A n c) n (fun i => y.testBit i) ∧ Below w.heap.size w w') := Lib.hid (fun w => HBt.out w y hyN)
      have H52X : Hid (∀ w A3 c3 A4 c4, Po w q A3 A4 c3 c4 → Calls Try.prog 52 #[pAgg q A3 A4 c3 c4, I x, I y] w fun e w' => e = .returned (I rn) ∧ Below w.heap.size w w') := Lib.hid (fun w A3 c3 A4 c4 h => by rw [hrn]; exact H52.out w A3 c3 A4 c4 x y h hxN hyN)
      have HSX : Hid (ga = true → gc = false → bits BinOp.and IntKind.i64 (X / 2 ^ min rn 64) 1 = 1) := Lib.hid (fun h1 h2 => by rw [hX, hrn]; exact HSO.out x y hxN hyN (hga ▸ h1) (hgc ▸ h2))
      have hr0 : (0 : Int) ≤ rn := by omega
      replace hX := hX.symm
      clear hga hgc hrn hxN hyN
      go_upto_region 24 with fail
      refine wp_region_ext (by kernel_rfl) (by kernel_rfl) ?_
      repeat (go_big_quiet_step (fail))
      refine wpQuiet_nil ?_
      rintro _ ⟨z, rfl⟩
      have HCL : Hid (z.val.cell? ⟨W.heap.size, 0, none⟩ = some (I k) ∧ z.val.cell? ⟨W.heap.size, 1, none⟩ = some (I m) ∧ z.val.cell? ⟨W.heap.size, 2, none⟩ = some (.slice A l c) ∧ z.val.cell? ⟨gb, 0, none⟩ = some (.bool q.toS.f0) ∧ z.val.cell? ⟨gb, 1, none⟩ = some (I q.toS.f1) ∧ z.val.cell? ⟨gb, 2, none⟩ = some (I q.toS.f2) ∧ z.val.cell? ⟨gb, 3, none⟩ = some (.slice A3 q.toS.f3.length c3) ∧ z.val.cell? ⟨gb, 4, none⟩ = some (.slice A4 q.toS.f4.length c4)) := Lib.hid (by obtain ⟨u0, u1, u2, f0, f1, f2, f3, f4⟩ := HBl.out; exact ⟨z.cell u0, z.cell u1, z.cell u2, z.cell f0, z.cell f1, z.cell f2, z.cell f3, z.cell f4⟩)
      have HB16 := Lib.hid (HBw.out.trans (z.ok.mono HBw.out.size))
      have HP16 := Lib.hid (HPr.out.keep z.ok)
      clear HBl HBw HPr
      generalize z.val = w16 at *
      obtain ⟨u0, u1, u2, f0, f1, f2, f3, f4⟩ := HCL.out
      clear v1 v2 v3 v4 hx hy hN0 hN0' z
      go_upto_region 25 with fail
      cases ga with
      | false =>
        refine wp_region_held_drew (S := (fun wh => wh.cell? ⟨W.heap.size, 0, none⟩ = some (I k) ∧ wh.cell? ⟨W.heap.size, 1, none⟩ = some (I m) ∧ wh.cell? ⟨W.heap.size, 2, none⟩ = some (.slice A l c) ∧ wh.cell? ⟨gb, 0, none⟩ = some (.bool q.toS.f0) ∧ wh.cell? ⟨gb, 1, none⟩ = some (I q.toS.f1) ∧ wh.cell? ⟨gb, 2, none⟩ = some (I q.toS.f2) ∧ wh.cell? ⟨gb, 3, none⟩ = some (.slice A3 q.toS.f3.length c3) ∧ wh.cell? ⟨gb, 4, none⟩ = some (.slice A4 q.toS.f4.length c4))) (by kernel_rfl) (by exact ⟨u0, u1, u2, f0, f1, f2, f3, f4⟩) ?_
        intro hSw
        refine H_take8 (i := 0) (oi := { dst := some 134, op := Op.load 24 (Operand.tmp 2), type := 24, pos := "law.go:205", after := #[], guard := none }) (d := some 134) (v := ?_) rfl rfl (by kernel_rfl) (by kernel_rfl) (by kernel_rfl) (fun _ _ _ h => h) (Or.inl ⟨by rfl, ?_⟩) hSw ?_
        rotate_left
        · intro w hw; (try dsimp only at hw); go_split_ands; go_simp; try (with_reducible rfl)
        try simp only [Act.put, List.setIfInBounds_toArray, List.set_cons_zero, List.set_cons_succ]
        refine H_take8 (i := 1) (oi := { dst := some 135, op := Op.move (Operand.tmp 9), type := 3, pos := "law.go:205", after := #[], guard := none }) (d := some 135) (v := ?_) rfl rfl (by kernel_rfl) (by kernel_rfl) (by kernel_rfl) (fun _ _ _ h => h) (Or.inl ⟨by rfl, ?_⟩) hSw ?_
        rotate_left
        · intro w hw; (try dsimp only at hw); go_split_ands; go_simp; try (with_reducible rfl)
        try simp only [Act.put, List.setIfInBounds_toArray, List.set_cons_zero, List.set_cons_succ]
        refine H_take8 (i := 2) (oi := { dst := some 136, op := Op.move (Operand.tmp 1), type := 3, pos := "law.go:205", after := #[], guard := none }) (d := some 136) (v := ?_) rfl rfl (by kernel_rfl) (by kernel_rfl) (by kernel_rfl) (fun _ _ _ h => h) (Or.inl ⟨by rfl, ?_⟩) hSw ?_
        rotate_left
        · intro w hw; (try dsimp only at hw); go_split_ands; go_simp; try (with_reducible rfl)
        try simp only [Act.put, List.setIfInBounds_toArray, List.set_cons_zero, List.set_cons_succ]
        refine wpAnyH_ready (rs := [3]) (by kernel_rfl) (by simp) ?_
        refine AllReadyH.cons (o := { dst := some 137, op := Op.call { callee := Callee.value (Operand.func 51), args := #[Operand.tmp 135, Operand.tmp 136], argTypes := #[3, 3] }, type := 29, pos := "law.go:205", after := #[{ on := 1, ground := Ground.data }, { on := 2, ground := Ground.data }], guard := none }) rfl (fun K hK => ?_) AllReadyH.nil
        go_simp
        (go_at_call 51; (with_reducible refine (HBX.out _).mono ?_); rintro e w17 ⟨A1, c1, rfl, hs, hb⟩; have ua0 := cell_keep' hb u0; have ua1 := cell_keep' hb u1; have ua2 := cell_keep' hb u2; have fa0 := cell_keep' hb f0; have fa1 := cell_keep' hb f1; have fa2 := cell_keep' hb f2; have fa3 := cell_keep' hb f3; have fa4 := cell_keep' hb f4; have HB17 := Lib.hid (HB16.out.drew.trans (hb.mono HB16.out.size)); have HP17 := Lib.hid (HP16.out.drew.keep hb); have HS1 := Lib.hid hs; clear hs; clear hb)
        refine hK.out _ _ (by exact ⟨ua0, ua1, ua2, fa0, fa1, fa2, fa3, fa4⟩) (fun hSn => ?_)
        clear hK K hSw
        have hSw := hSn
        clear hSn
        try simp only [Act.put, List.setIfInBounds_toArray, List.set_cons_zero, List.set_cons_succ]
        refine wpAnyH_ready (rs := [4]) (by kernel_rfl) (by simp) ?_
        refine AllReadyH.cons (o := { dst := some 138, op := Op.call { callee := Callee.value (Operand.func 50), args := #[Operand.tmp 134, Operand.tmp 137], argTypes := #[24, 29] }, type := 4, pos := "law.go:205", after := #[{ on := 0, ground := Ground.data }, { on := 3, ground := Ground.data }, { on := 3, ground := Ground.chain }], guard := none }) rfl (fun K hK => ?_) AllReadyH.nil
        go_simp
        (go_at_call 50; (with_reducible refine (HEX.out _ _ _ HB17.out HS1.out).mono ?_); rintro e w18 ⟨rfl, hb⟩; have ub0 := cell_keep' hb ua0; have ub1 := cell_keep' hb ua1; have ub2 := cell_keep' hb ua2; have fb0 := cell_keep' hb fa0; have fb1 := cell_keep' hb fa1; have fb2 := cell_keep' hb fa2; have fb3 := cell_keep' hb fa3; have fb4 := cell_keep' hb fa4; have HB18 := Lib.hid (HB17.out.trans (hb.mono HB17.out.size)); have HP18 := Lib.hid (HP17.out.keep hb); clear hb)
        refine hK.out _ _ (by exact ⟨ub0, ub1, ub2, fb0, fb1, fb2, fb3, fb4⟩) (fun hSn => ?_)
        clear hK K hSw
        have hSw := hSn
        clear hSn
        try simp only [Act.put, List.setIfInBounds_toArray, List.set_cons_zero, List.set_cons_succ]
        refine H_take8 (i := 5) (oi := { dst := some 139, op := Op.move (Operand.tmp 138), type := 4, pos := "law.go:205", after := #[{ on := 4, ground := Ground.data }, { on := 4, ground := Ground.chain }], guard := none }) (d := some 139) (v := ?_) rfl rfl (by kernel_rfl) (by kernel_rfl) (by kernel_rfl) (fun _ _ _ h => h) (Or.inl ⟨by rfl, ?_⟩) hSw ?_
        rotate_left
        · intro w hw; (try dsimp only at hw); go_split_ands; go_simp; try (with_reducible rfl)
        try simp only [Act.put, List.setIfInBounds_toArray, List.set_cons_zero, List.set_cons_succ]
        refine H_take8 (i := 6) (oi := { dst := some 140, op := Op.load 24 (Operand.tmp 2), type := 24, pos := "law.go:205", after := #[{ on := 5, ground := Ground.guard }], guard := some (5, true) }) (d := some 140) (v := undef) rfl rfl (by kernel_rfl) (by kernel_rfl) (by kernel_rfl) (fun _ _ _ h => h) (Or.inr ⟨by rfl, rfl⟩) hSw ?_
        try simp only [Act.put, List.setIfInBounds_toArray, List.set_cons_zero, List.set_cons_succ]
        refine H_take8 (i := 7) (oi := { dst := some 141, op := Op.move (Operand.tmp 10), type := 3, pos := "law.go:205", after := #[{ on := 5, ground := Ground.guard }], guard := some (5, true) }) (d := some 141) (v := undef) rfl rfl (by kernel_rfl) (by kernel_rfl) (by kernel_rfl) (fun _ _ _ h => h) (Or.inr ⟨by rfl, rfl⟩) hSw ?_
        try simp only [Act.put, List.setIfInBounds_toArray, List.set_cons_zero, List.set_cons_succ]
        refine H_take8 (i := 8) (oi := { dst := some 142, op := Op.move (Operand.tmp 1), type := 3, pos := "law.go:205", after := #[{ on := 5, ground := Ground.guard }], guard := some (5, true) }) (d := some 142) (v := undef) rfl rfl (by kernel_rfl) (by kernel_rfl) (by kernel_rfl) (fun _ _ _ h => h) (Or.inr ⟨by rfl, rfl⟩) hSw ?_
        try simp only [Act.put, List.setIfInBounds_toArray, List.set_cons_zero, List.set_cons_succ]
        refine H_take8 (i := 9) (oi := { dst := some 143, op := Op.call { callee := Callee.value (Operand.func 51), args := #[Operand.tmp 141, Operand.tmp 142], argTypes := #[3, 3] }, type := 29, pos := "law.go:205", after := #[{ on := 7, ground := Ground.data }, { on := 8, ground := Ground.data }, { on := 5, ground := Ground.chain }, { on := 5, ground := Ground.guard }], guard := some (5, true) }) (d := some 143) (v := undef) rfl rfl (by kernel_rfl) (by kernel_rfl) (by kernel_rfl) (fun _ _ _ h => h) (Or.inr ⟨by rfl, rfl⟩) hSw ?_
        try simp only [Act.put, List.setIfInBounds_toArray, List.set_cons_zero, List.set_cons_succ]
        refine H_take8 (i := 10) (oi := { dst := some 144, op := Op.call { callee := Callee.value (Operand.func 50), args := #[Operand.tmp 140, Operand.tmp 143], argTypes := #[24, 29] }, type := 4, pos := "law.go:205", after := #[{ on := 6, ground := Ground.data }, { on := 9, ground := Ground.data }, { on := 9, ground := Ground.chain }, { on := 5, ground := Ground.guard }], guard := some (5, true) }) (d := some 144) (v := undef) rfl rfl (by kernel_rfl) (by kernel_rfl) (by kernel_rfl) (fun _ _ _ h => h) (Or.inr ⟨by rfl, rfl⟩) hSw ?_
        try simp only [Act.put, List.setIfInBounds_toArray, List.set_cons_zero, List.set_cons_succ]
        refine H_take8 (i := 11) (oi := { dst := some 145, op := Op.unOp UnOp.not 4 (Operand.tmp 144), type := 4, pos := "law.go:205", after := #[{ on := 10, ground := Ground.data }, { on := 5, ground := Ground.guard }], guard := some (5, true) }) (d := some 145) (v := undef) rfl rfl (by kernel_rfl) (by kernel_rfl) (by kernel_rfl) (fun _ _ _ h => h) (Or.inr ⟨by rfl, rfl⟩) hSw ?_
        try simp only [Act.put, List.setIfInBounds_toArray, List.set_cons_zero, List.set_cons_succ]
        refine H_take8 (i := 12) (oi := { dst := some 146, op := Op.pick (Operand.tmp 139) (Operand.tmp 145) (Operand.const (Value.bool false)), type := 4, pos := "law.go:205", after := #[{ on := 5, ground := Ground.data }, { on := 11, ground := Ground.data }], guard := none }) (d := some 146) (v := ?_) rfl rfl (by kernel_rfl) (by kernel_rfl) (by kernel_rfl) (fun _ _ _ h => h) (Or.inl ⟨by rfl, ?_⟩) hSw ?_
        rotate_left
        · intro w hw; (try dsimp only at hw); go_split_ands; go_simp; try (with_reducible rfl)
        try simp only [Act.put, List.setIfInBounds_toArray, List.set_cons_zero, List.set_cons_succ]
        refine H_take8 (i := 13) (oi := { dst := some 147, op := Op.move (Operand.tmp 146), type := 4, pos := "law.go:205", after := #[{ on := 12, ground := Ground.data }, { on := 10, ground := Ground.chain }], guard := none }) (d := some 147) (v := ?_) rfl rfl (by kernel_rfl) (by kernel_rfl) (by kernel_rfl) (fun _ _ _ h => h) (Or.inl ⟨by rfl, ?_⟩) hSw ?_
        rotate_left
        · intro w hw; (try dsimp only at hw); go_split_ands; go_simp; try (with_reducible rfl)
        try simp only [Act.put, List.setIfInBounds_toArray, List.set_cons_zero, List.set_cons_succ]
        refine H_take8 (i := 14) (oi := { dst := some 148, op := Op.move (Operand.tmp 9), type := 3, pos := "law.go:205", after := #[{ on := 13, ground := Ground.guard }], guard := some (13, true) }) (d := some 148) (v := undef) rfl rfl (by kernel_rfl) (by kernel_rfl) (by kernel_rfl) (fun _ _ _ h => h) (Or.inr ⟨by rfl, rfl⟩) hSw ?_
        try simp only [Act.put, List.setIfInBounds_toArray, List.set_cons_zero, List.set_cons_succ]
        refine H_take8 (i := 15) (oi := { dst := some 149, op := Op.move (Operand.tmp 10), type := 3, pos := "law.go:205", after := #[{ on := 13, ground := Ground.guard }], guard := some (13, true) }) (d := some 149) (v := undef) rfl rfl (by kernel_rfl) (by kernel_rfl) (by kernel_rfl) (fun _ _ _ h => h) (Or.inr ⟨by rfl, rfl⟩) hSw ?_
        try simp only [Act.put, List.setIfInBounds_toArray, List.set_cons_zero, List.set_cons_succ]
        refine H_take8 (i := 16) (oi := { dst := some 150, op := Op.binOp BinOp.xor 3 (Operand.tmp 148) (Operand.tmp 149) 3, type := 3, pos := "law.go:205", after := #[{ on := 14, ground := Ground.data }, { on := 15, ground := Ground.data }, { on := 13, ground := Ground.guard }], guard := some (13, true) }) (d := some 150) (v := undef) rfl rfl (by kernel_rfl) (by kernel_rfl) (by kernel_rfl) (fun _ _ _ h => h) (Or.inr ⟨by rfl, rfl⟩) hSw ?_
        try simp only [Act.put, List.setIfInBounds_toArray, List.set_cons_zero, List.set_cons_succ]
        refine H_take8 (i := 17) (oi := { dst := some 151, op := Op.load 32 (Operand.tmp 6), type := 32, pos := "law.go:205", after := #[{ on := 13, ground := Ground.guard }], guard := some (13, true) }) (d := some 151) (v := undef) rfl rfl (by kernel_rfl) (by kernel_rfl) (by kernel_rfl) (fun _ _ _ h => h) (Or.inr ⟨by rfl, rfl⟩) hSw ?_
        try simp only [Act.put, List.setIfInBounds_toArray, List.set_cons_zero, List.set_cons_succ]
        refine H_take8 (i := 18) (oi := { dst := some 152, op := Op.move (Operand.tmp 9), type := 3, pos := "law.go:205", after := #[{ on := 13, ground := Ground.guard }], guard := some (13, true) }) (d := some 152) (v := undef) rfl rfl (by kernel_rfl) (by kernel_rfl) (by kernel_rfl) (fun _ _ _ h => h) (Or.inr ⟨by rfl, rfl⟩) hSw ?_
        try simp only [Act.put, List.setIfInBounds_toArray, List.set_cons_zero, List.set_cons_succ]
        refine H_take8 (i := 19) (oi := { dst := some 153, op := Op.move (Operand.tmp 10), type := 3, pos := "law.go:205", after := #[{ on := 13, ground := Ground.guard }], guard := some (13, true) }) (d := some 153) (v := undef) rfl rfl (by kernel_rfl) (by kernel_rfl) (by kernel_rfl) (fun _ _ _ h => h) (Or.inr ⟨by rfl, rfl⟩) hSw ?_
        try simp only [Act.put, List.setIfInBounds_toArray, List.set_cons_zero, List.set_cons_succ]
        refine H_take8 (i := 20) (oi := { dst := some 154, op := Op.call { callee := Callee.value (Operand.func 52), args := #[Operand.tmp 151, Operand.tmp 152, Operand.tmp 153], argTypes := #[32, 3, 3] }, type := 3, pos := "law.go:205", after := #[{ on := 17, ground := Ground.data }, { on := 18, ground := Ground.data }, { on := 19, ground := Ground.data }, { on := 13, ground := Ground.chain }, { on := 13, ground := Ground.guard }], guard := some (13, true) }) (d := some 154) (v := undef) rfl rfl (by kernel_rfl) (by kernel_rfl) (by kernel_rfl) (fun _ _ _ h => h) (Or.inr ⟨by rfl, rfl⟩) hSw ?_
        try simp only [Act.put, List.setIfInBounds_toArray, List.set_cons_zero, List.set_cons_succ]
        refine H_take8 (i := 21) (oi := { dst := some 155, op := Op.binOp BinOp.shr 3 (Operand.tmp 150) (Operand.tmp 154) 3, type := 3, pos := "law.go:205", after := #[{ on := 16, ground := Ground.data }, { on := 20, ground := Ground.data }, { on := 13, ground := Ground.guard }], guard := some (13, true) }) (d := some 155) (v := undef) rfl rfl (by kernel_rfl) (by kernel_rfl) (by kernel_rfl) (fun _ _ _ h => h) (Or.inr ⟨by rfl, rfl⟩) hSw ?_
        try simp only [Act.put, List.setIfInBounds_toArray, List.set_cons_zero, List.set_cons_succ]
        refine H_take8 (i := 22) (oi := { dst := some 156, op := Op.binOp BinOp.and 3 (Operand.tmp 155) (Operand.const (Value.int IntKind.i64 1)) 3, type := 3, pos := "law.go:205", after := #[{ on := 21, ground := Ground.data }, { on := 13, ground := Ground.guard }], guard := some (13, true) }) (d := some 156) (v := undef) rfl rfl (by kernel_rfl) (by kernel_rfl) (by kernel_rfl) (fun _ _ _ h => h) (Or.inr ⟨by rfl, rfl⟩) hSw ?_
        try simp only [Act.put, List.setIfInBounds_toArray, List.set_cons_zero, List.set_cons_succ]
        refine H_take8 (i := 23) (oi := { dst := some 157, op := Op.binOp BinOp.eql 3 (Operand.tmp 156) (Operand.const (Value.int IntKind.i64 0)) 3, type := 4, pos := "law.go:205", after := #[{ on := 22, ground := Ground.data }, { on := 13, ground := Ground.guard }], guard := some (13, true) }) (d := some 157) (v := undef) rfl rfl (by kernel_rfl) (by kernel_rfl) (by kernel_rfl) (fun _ _ _ h => h) (Or.inr ⟨by rfl, rfl⟩) hSw ?_
        try simp only [Act.put, List.setIfInBounds_toArray, List.set_cons_zero, List.set_cons_succ]
        refine H_take8 (i := 24) (oi := { dst := some 158, op := Op.pick (Operand.tmp 147) (Operand.tmp 157) (Operand.const (Value.bool false)), type := 4, pos := "law.go:205", after := #[{ on := 13, ground := Ground.data }, { on := 23, ground := Ground.data }], guard := none }) (d := some 158) (v := ?_) rfl rfl (by kernel_rfl) (by kernel_rfl) (by kernel_rfl) (fun _ _ _ h => h) (Or.inl ⟨by rfl, ?_⟩) hSw ?_
        rotate_left
        · intro w hw; (try dsimp only at hw); go_split_ands; go_simp; try (with_reducible rfl)
        try simp only [Act.put, List.setIfInBounds_toArray, List.set_cons_zero, List.set_cons_succ]
        refine wpAnyH_done (by kernel_rfl) ?_ _
        clear hSw
        go_wp2
        go_roundw
        case rel => exact ⟨i + 1, by omega, by go_num, Lib.hid ⟨ub0, ub1, ub2, fb0, fb1, fb2, fb3, fb4⟩, HB18, HP18⟩
        case measure => simp [intOf]; omega
      | true =>
        cases gc with
        | true =>
          refine wp_region_held_drew (S := (fun wh => wh.cell? ⟨W.heap.size, 0, none⟩ = some (I k) ∧ wh.cell? ⟨W.heap.size, 1, none⟩ = some (I m) ∧ wh.cell? ⟨W.heap.size, 2, none⟩ = some (.slice A l c) ∧ wh.cell? ⟨gb, 0, none⟩ = some (.bool q.toS.f0) ∧ wh.cell? ⟨gb, 1, none⟩ = some (I q.toS.f1) ∧ wh.cell? ⟨gb, 2, none⟩ = some (I q.toS.f2) ∧ wh.cell? ⟨gb, 3, none⟩ = some (.slice A3 q.toS.f3.length c3) ∧ wh.cell? ⟨gb, 4, none⟩ = some (.slice A4 q.toS.f4.length c4))) (by kernel_rfl) (by exact ⟨u0, u1, u2, f0, f1, f2, f3, f4⟩) ?_
          intro hSw
          refine H_take8 (i := 0) (oi := { dst := some 134, op := Op.load 24 (Operand.tmp 2), type := 24, pos := "law.go:205", after := #[], guard := none }) (d := some 134) (v := ?_) rfl rfl (by kernel_rfl) (by kernel_rfl) (by kernel_rfl) (fun _ _ _ h => h) (Or.inl ⟨by rfl, ?_⟩) hSw ?_
          rotate_left
          · intro w hw; (try dsimp only at hw); go_split_ands; go_simp; try (with_reducible rfl)
          try simp only [Act.put, List.setIfInBounds_toArray, List.set_cons_zero, List.set_cons_succ]
          refine H_take8 (i := 1) (oi := { dst := some 135, op := Op.move (Operand.tmp 9), type := 3, pos := "law.go:205", after := #[], guard := none }) (d := some 135) (v := ?_) rfl rfl (by kernel_rfl) (by kernel_rfl) (by kernel_rfl) (fun _ _ _ h => h) (Or.inl ⟨by rfl, ?_⟩) hSw ?_
          rotate_left
          · intro w hw; (try dsimp only at hw); go_split_ands; go_simp; try (with_reducible rfl)
          try simp only [Act.put, List.setIfInBounds_toArray, List.set_cons_zero, List.set_cons_succ]
          refine H_take8 (i := 2) (oi := { dst := some 136, op := Op.move (Operand.tmp 1), type := 3, pos := "law.go:205", after := #[], guard := none }) (d := some 136) (v := ?_) rfl rfl (by kernel_rfl) (by kernel_rfl) (by kernel_rfl) (fun _ _ _ h => h) (Or.inl ⟨by rfl, ?_⟩) hSw ?_
          rotate_left
          · intro w hw; (try dsimp only at hw); go_split_ands; go_simp; try (with_reducible rfl)
          try simp only [Act.put, List.setIfInBounds_toArray, List.set_cons_zero, List.set_cons_succ]
          refine wpAnyH_ready (rs := [3]) (by kernel_rfl) (by simp) ?_
          refine AllReadyH.cons (o := { dst := some 137, op := Op.call { callee := Callee.value (Operand.func 51), args := #[Operand.tmp 135, Operand.tmp 136], argTypes := #[3, 3] }, type := 29, pos := "law.go:205", after := #[{ on := 1, ground := Ground.data }, { on := 2, ground := Ground.data }], guard := none }) rfl (fun K hK => ?_) AllReadyH.nil
          go_simp
          (go_at_call 51; (with_reducible refine (HBX.out _).mono ?_); rintro e w17 ⟨A1, c1, rfl, hs, hb⟩; have ua0 := cell_keep' hb u0; have ua1 := cell_keep' hb u1; have ua2 := cell_keep' hb u2; have fa0 := cell_keep' hb f0; have fa1 := cell_keep' hb f1; have fa2 := cell_keep' hb f2; have fa3 := cell_keep' hb f3; have fa4 := cell_keep' hb f4; have HB17 := Lib.hid (HB16.out.drew.trans (hb.mono HB16.out.size)); have HP17 := Lib.hid (HP16.out.drew.keep hb); have HS1 := Lib.hid hs; clear hs; clear hb)
          refine hK.out _ _ (by exact ⟨ua0, ua1, ua2, fa0, fa1, fa2, fa3, fa4⟩) (fun hSn => ?_)
          clear hK K hSw
          have hSw := hSn
          clear hSn
          try simp only [Act.put, List.setIfInBounds_toArray, List.set_cons_zero, List.set_cons_succ]
          refine wpAnyH_ready (rs := [4]) (by kernel_rfl) (by simp) ?_
          refine AllReadyH.cons (o := { dst := some 138, op := Op.call { callee := Callee.value (Operand.func 50), args := #[Operand.tmp 134, Operand.tmp 137], argTypes := #[24, 29] }, type := 4, pos := "law.go:205", after := #[{ on := 0, ground := Ground.data }, { on := 3, ground := Ground.data }, { on := 3, ground := Ground.chain }], guard := none }) rfl (fun K hK => ?_) AllReadyH.nil
          go_simp
          (go_at_call 50; (with_reducible refine (HEX.out _ _ _ HB17.out HS1.out).mono ?_); rintro e w18 ⟨rfl, hb⟩; have ub0 := cell_keep' hb ua0; have ub1 := cell_keep' hb ua1; have ub2 := cell_keep' hb ua2; have fb0 := cell_keep' hb fa0; have fb1 := cell_keep' hb fa1; have fb2 := cell_keep' hb fa2; have fb3 := cell_keep' hb fa3; have fb4 := cell_keep' hb fa4; have HB18 := Lib.hid (HB17.out.trans (hb.mono HB17.out.size)); have HP18 := Lib.hid (HP17.out.keep hb); clear hb)
          refine hK.out _ _ (by exact ⟨ub0, ub1, ub2, fb0, fb1, fb2, fb3, fb4⟩) (fun hSn => ?_)
          clear hK K hSw
          have hSw := hSn
          clear hSn
          try simp only [Act.put, List.setIfInBounds_toArray, List.set_cons_zero, List.set_cons_succ]
          refine H_take8 (i := 5) (oi := { dst := some 139, op := Op.move (Operand.tmp 138), type := 4, pos := "law.go:205", after := #[{ on := 4, ground := Ground.data }, { on := 4, ground := Ground.chain }], guard := none }) (d := some 139) (v := ?_) rfl rfl (by kernel_rfl) (by kernel_rfl) (by kernel_rfl) (fun _ _ _ h => h) (Or.inl ⟨by rfl, ?_⟩) hSw ?_
          rotate_left
          · intro w hw; (try dsimp only at hw); go_split_ands; go_simp; try (with_reducible rfl)
          try simp only [Act.put, List.setIfInBounds_toArray, List.set_cons_zero, List.set_cons_succ]
          refine H_take8 (i := 6) (oi := { dst := some 140, op := Op.load 24 (Operand.tmp 2), type := 24, pos := "law.go:205", after := #[{ on := 5, ground := Ground.guard }], guard := some (5, true) }) (d := some 140) (v := ?_) rfl rfl (by kernel_rfl) (by kernel_rfl) (by kernel_rfl) (fun _ _ _ h => h) (Or.inl ⟨by rfl, ?_⟩) hSw ?_
          rotate_left
          · intro w hw; (try dsimp only at hw); go_split_ands; go_simp; try (with_reducible rfl)
          try simp only [Act.put, List.setIfInBounds_toArray, List.set_cons_zero, List.set_cons_succ]
          refine H_take8 (i := 7) (oi := { dst := some 141, op := Op.move (Operand.tmp 10), type := 3, pos := "law.go:205", after := #[{ on := 5, ground := Ground.guard }], guard := some (5, true) }) (d := some 141) (v := ?_) rfl rfl (by kernel_rfl) (by kernel_rfl) (by kernel_rfl) (fun _ _ _ h => h) (Or.inl ⟨by rfl, ?_⟩) hSw ?_
          rotate_left
          · intro w hw; (try dsimp only at hw); go_split_ands; go_simp; try (with_reducible rfl)
          try simp only [Act.put, List.setIfInBounds_toArray, List.set_cons_zero, List.set_cons_succ]
          refine H_take8 (i := 8) (oi := { dst := some 142, op := Op.move (Operand.tmp 1), type := 3, pos := "law.go:205", after := #[{ on := 5, ground := Ground.guard }], guard := some (5, true) }) (d := some 142) (v := ?_) rfl rfl (by kernel_rfl) (by kernel_rfl) (by kernel_rfl) (fun _ _ _ h => h) (Or.inl ⟨by rfl, ?_⟩) hSw ?_
          rotate_left
          · intro w hw; (try dsimp only at hw); go_split_ands; go_simp; try (with_reducible rfl)
          try simp only [Act.put, List.setIfInBounds_toArray, List.set_cons_zero, List.set_cons_succ]
          refine wpAnyH_ready (rs := [9]) (by kernel_rfl) (by simp) ?_
          refine AllReadyH.cons (o := { dst := some 143, op := Op.call { callee := Callee.value (Operand.func 51), args := #[Operand.tmp 141, Operand.tmp 142], argTypes := #[3, 3] }, type := 29, pos := "law.go:205", after := #[{ on := 7, ground := Ground.data }, { on := 8, ground := Ground.data }, { on := 5, ground := Ground.chain }, { on := 5, ground := Ground.guard }], guard := some (5, true) }) rfl (fun K hK => ?_) AllReadyH.nil
          go_simp
          (go_at_call 51; (with_reducible refine (HBY.out _).mono ?_); rintro e w19 ⟨A2, c2, rfl, hs, hb⟩; have uc0 := cell_keep' hb ub0; have uc1 := cell_keep' hb ub1; have uc2 := cell_keep' hb ub2; have fc0 := cell_keep' hb fb0; have fc1 := cell_keep' hb fb1; have fc2 := cell_keep' hb fb2; have fc3 := cell_keep' hb fb3; have fc4 := cell_keep' hb fb4; have HB19 := Lib.hid (HB18.out.trans (hb.mono HB18.out.size)); have HP19 := Lib.hid (HP18.out.keep hb); have HS2 := Lib.hid hs; clear hs; clear hb)
          refine hK.out _ _ (by exact ⟨uc0, uc1, uc2, fc0, fc1, fc2, fc3, fc4⟩) (fun hSn => ?_)
          clear hK K hSw
          have hSw := hSn
          clear hSn
          try simp only [Act.put, List.setIfInBounds_toArray, List.set_cons_zero, List.set_cons_succ]
          refine wpAnyH_ready (rs := [10]) (by kernel_rfl) (by simp) ?_
          refine AllReadyH.cons (o := { dst := some 144, op := Op.call { callee := Callee.value (Operand.func 50), args := #[Operand.tmp 140, Operand.tmp 143], argTypes := #[24, 29] }, type := 4, pos := "law.go:205", after := #[{ on := 6, ground := Ground.data }, { on := 9, ground := Ground.data }, { on := 9, ground := Ground.chain }, { on := 5, ground := Ground.guard }], guard := some (5, true) }) rfl (fun K hK => ?_) AllReadyH.nil
          go_simp
          (go_at_call 50; (with_reducible refine (HEY.out _ _ _ HB19.out HS2.out).mono ?_); rintro e w20 ⟨rfl, hb⟩; have ud0 := cell_keep' hb uc0; have ud1 := cell_keep' hb uc1; have ud2 := cell_keep' hb uc2; have fd0 := cell_keep' hb fc0; have fd1 := cell_keep' hb fc1; have fd2 := cell_keep' hb fc2; have fd3 := cell_keep' hb fc3; have fd4 := cell_keep' hb fc4; have HB20 := Lib.hid (HB19.out.trans (hb.mono HB19.out.size)); have HP20 := Lib.hid (HP19.out.keep hb); clear hb)
          refine hK.out _ _ (by exact ⟨ud0, ud1, ud2, fd0, fd1, fd2, fd3, fd4⟩) (fun hSn => ?_)
          clear hK K hSw
          have hSw := hSn
          clear hSn
          try simp only [Act.put, List.setIfInBounds_toArray, List.set_cons_zero, List.set_cons_succ]
          refine H_take8 (i := 11) (oi := { dst := some 145, op := Op.unOp UnOp.not 4 (Operand.tmp 144), type := 4, pos := "law.go:205", after := #[{ on := 10, ground := Ground.data }, { on := 5, ground := Ground.guard }], guard := some (5, true) }) (d := some 145) (v := ?_) rfl rfl (by kernel_rfl) (by kernel_rfl) (by kernel_rfl) (fun _ _ _ h => h) (Or.inl ⟨by rfl, ?_⟩) hSw ?_
          rotate_left
          · intro w hw; (try dsimp only at hw); go_split_ands; go_simp; try (with_reducible rfl)
          try simp only [Act.put, List.setIfInBounds_toArray, List.set_cons_zero, List.set_cons_succ]
          refine H_take8 (i := 12) (oi := { dst := some 146, op := Op.pick (Operand.tmp 139) (Operand.tmp 145) (Operand.const (Value.bool false)), type := 4, pos := "law.go:205", after := #[{ on := 5, ground := Ground.data }, { on := 11, ground := Ground.data }], guard := none }) (d := some 146) (v := ?_) rfl rfl (by kernel_rfl) (by kernel_rfl) (by kernel_rfl) (fun _ _ _ h => h) (Or.inl ⟨by rfl, ?_⟩) hSw ?_
          rotate_left
          · intro w hw; (try dsimp only at hw); go_split_ands; go_simp; try (with_reducible rfl)
          try simp only [Act.put, List.setIfInBounds_toArray, List.set_cons_zero, List.set_cons_succ]
          refine H_take8 (i := 13) (oi := { dst := some 147, op := Op.move (Operand.tmp 146), type := 4, pos := "law.go:205", after := #[{ on := 12, ground := Ground.data }, { on := 10, ground := Ground.chain }], guard := none }) (d := some 147) (v := ?_) rfl rfl (by kernel_rfl) (by kernel_rfl) (by kernel_rfl) (fun _ _ _ h => h) (Or.inl ⟨by rfl, ?_⟩) hSw ?_
          rotate_left
          · intro w hw; (try dsimp only at hw); go_split_ands; go_simp; try (with_reducible rfl)
          try simp only [Act.put, List.setIfInBounds_toArray, List.set_cons_zero, List.set_cons_succ]
          refine H_take8 (i := 14) (oi := { dst := some 148, op := Op.move (Operand.tmp 9), type := 3, pos := "law.go:205", after := #[{ on := 13, ground := Ground.guard }], guard := some (13, true) }) (d := some 148) (v := undef) rfl rfl (by kernel_rfl) (by kernel_rfl) (by kernel_rfl) (fun _ _ _ h => h) (Or.inr ⟨by rfl, rfl⟩) hSw ?_
          try simp only [Act.put, List.setIfInBounds_toArray, List.set_cons_zero, List.set_cons_succ]
          refine H_take8 (i := 15) (oi := { dst := some 149, op := Op.move (Operand.tmp 10), type := 3, pos := "law.go:205", after := #[{ on := 13, ground := Ground.guard }], guard := some (13, true) }) (d := some 149) (v := undef) rfl rfl (by kernel_rfl) (by kernel_rfl) (by kernel_rfl) (fun _ _ _ h => h) (Or.inr ⟨by rfl, rfl⟩) hSw ?_
          try simp only [Act.put, List.setIfInBounds_toArray, List.set_cons_zero, List.set_cons_succ]
          refine H_take8 (i := 16) (oi := { dst := some 150, op := Op.binOp BinOp.xor 3 (Operand.tmp 148) (Operand.tmp 149) 3, type := 3, pos := "law.go:205", after := #[{ on := 14, ground := Ground.data }, { on := 15, ground := Ground.data }, { on := 13, ground := Ground.guard }], guard := some (13, true) }) (d := some 150) (v := undef) rfl rfl (by kernel_rfl) (by kernel_rfl) (by kernel_rfl) (fun _ _ _ h => h) (Or.inr ⟨by rfl, rfl⟩) hSw ?_
          try simp only [Act.put, List.setIfInBounds_toArray, List.set_cons_zero, List.set_cons_succ]
          refine H_take8 (i := 17) (oi := { dst := some 151, op := Op.load 32 (Operand.tmp 6), type := 32, pos := "law.go:205", after := #[{ on := 13, ground := Ground.guard }], guard := some (13, true) }) (d := some 151) (v := undef) rfl rfl (by kernel_rfl) (by kernel_rfl) (by kernel_rfl) (fun _ _ _ h => h) (Or.inr ⟨by rfl, rfl⟩) hSw ?_
          try simp only [Act.put, List.setIfInBounds_toArray, List.set_cons_zero, List.set_cons_succ]
          refine H_take8 (i := 18) (oi := { dst := some 152, op := Op.move (Operand.tmp 9), type := 3, pos := "law.go:205", after := #[{ on := 13, ground := Ground.guard }], guard := some (13, true) }) (d := some 152) (v := undef) rfl rfl (by kernel_rfl) (by kernel_rfl) (by kernel_rfl) (fun _ _ _ h => h) (Or.inr ⟨by rfl, rfl⟩) hSw ?_
          try simp only [Act.put, List.setIfInBounds_toArray, List.set_cons_zero, List.set_cons_succ]
          refine H_take8 (i := 19) (oi := { dst := some 153, op := Op.move (Operand.tmp 10), type := 3, pos := "law.go:205", after := #[{ on := 13, ground := Ground.guard }], guard := some (13, true) }) (d := some 153) (v := undef) rfl rfl (by kernel_rfl) (by kernel_rfl) (by kernel_rfl) (fun _ _ _ h => h) (Or.inr ⟨by rfl, rfl⟩) hSw ?_
          try simp only [Act.put, List.setIfInBounds_toArray, List.set_cons_zero, List.set_cons_succ]
          refine H_take8 (i := 20) (oi := { dst := some 154, op := Op.call { callee := Callee.value (Operand.func 52), args := #[Operand.tmp 151, Operand.tmp 152, Operand.tmp 153], argTypes := #[32, 3, 3] }, type := 3, pos := "law.go:205", after := #[{ on := 17, ground := Ground.data }, { on := 18, ground := Ground.data }, { on := 19, ground := Ground.data }, { on := 13, ground := Ground.chain }, { on := 13, ground := Ground.guard }], guard := some (13, true) }) (d := some 154) (v := undef) rfl rfl (by kernel_rfl) (by kernel_rfl) (by kernel_rfl) (fun _ _ _ h => h) (Or.inr ⟨by rfl, rfl⟩) hSw ?_
          try simp only [Act.put, List.setIfInBounds_toArray, List.set_cons_zero, List.set_cons_succ]
          refine H_take8 (i := 21) (oi := { dst := some 155, op := Op.binOp BinOp.shr 3 (Operand.tmp 150) (Operand.tmp 154) 3, type := 3, pos := "law.go:205", after := #[{ on := 16, ground := Ground.data }, { on := 20, ground := Ground.data }, { on := 13, ground := Ground.guard }], guard := some (13, true) }) (d := some 155) (v := undef) rfl rfl (by kernel_rfl) (by kernel_rfl) (by kernel_rfl) (fun _ _ _ h => h) (Or.inr ⟨by rfl, rfl⟩) hSw ?_
          try simp only [Act.put, List.setIfInBounds_toArray, List.set_cons_zero, List.set_cons_succ]
          refine H_take8 (i := 22) (oi := { dst := some 156, op := Op.binOp BinOp.and 3 (Operand.tmp 155) (Operand.const (Value.int IntKind.i64 1)) 3, type := 3, pos := "law.go:205", after := #[{ on := 21, ground := Ground.data }, { on := 13, ground := Ground.guard }], guard := some (13, true) }) (d := some 156) (v := undef) rfl rfl (by kernel_rfl) (by kernel_rfl) (by kernel_rfl) (fun _ _ _ h => h) (Or.inr ⟨by rfl, rfl⟩) hSw ?_
          try simp only [Act.put, List.setIfInBounds_toArray, List.set_cons_zero, List.set_cons_succ]
          refine H_take8 (i := 23) (oi := { dst := some 157, op := Op.binOp BinOp.eql 3 (Operand.tmp 156) (Operand.const (Value.int IntKind.i64 0)) 3, type := 4, pos := "law.go:205", after := #[{ on := 22, ground := Ground.data }, { on := 13, ground := Ground.guard }], guard := some (13, true) }) (d := some 157) (v := undef) rfl rfl (by kernel_rfl) (by kernel_rfl) (by kernel_rfl) (fun _ _ _ h => h) (Or.inr ⟨by rfl, rfl⟩) hSw ?_
          try simp only [Act.put, List.setIfInBounds_toArray, List.set_cons_zero, List.set_cons_succ]
          refine H_take8 (i := 24) (oi := { dst := some 158, op := Op.pick (Operand.tmp 147) (Operand.tmp 157) (Operand.const (Value.bool false)), type := 4, pos := "law.go:205", after := #[{ on := 13, ground := Ground.data }, { on := 23, ground := Ground.data }], guard := none }) (d := some 158) (v := ?_) rfl rfl (by kernel_rfl) (by kernel_rfl) (by kernel_rfl) (fun _ _ _ h => h) (Or.inl ⟨by rfl, ?_⟩) hSw ?_
          rotate_left
          · intro w hw; (try dsimp only at hw); go_split_ands; go_simp; try (with_reducible rfl)
          try simp only [Act.put, List.setIfInBounds_toArray, List.set_cons_zero, List.set_cons_succ]
          refine wpAnyH_done (by kernel_rfl) ?_ _
          clear hSw
          go_wp2
          go_roundw
          case rel => exact ⟨i + 1, by omega, by go_num, Lib.hid ⟨ud0, ud1, ud2, fd0, fd1, fd2, fd3, fd4⟩, HB20, HP20⟩
          case measure => simp [intOf]; omega
        | false =>
          have hand : (bits BinOp.and IntKind.i64 (X / 2 ^ min rn 64) 1 == 0) = false := by rw [HSX.out rfl rfl]; rfl
          first | (go_region_held3 (fun wh => wh.cell? ⟨W.heap.size, 0, none⟩ = some (I k) ∧ wh.cell? ⟨W.heap.size, 1, none⟩ = some (I m) ∧ wh.cell? ⟨W.heap.size, 2, none⟩ = some (.slice A l c) ∧ wh.cell? ⟨gb, 0, none⟩ = some (.bool q.toS.f0) ∧ wh.cell? ⟨gb, 1, none⟩ = some (I q.toS.f1) ∧ wh.cell? ⟨gb, 2, none⟩ = some (I q.toS.f2) ∧ wh.cell? ⟨gb, 3, none⟩ = some (.slice A3 q.toS.f3.length c3) ∧ wh.cell? ⟨gb, 4, none⟩ = some (.slice A4 q.toS.f4.length c4)) (first | exact ⟨u0, u1, u2, f0, f1, f2, f3, f4⟩ | exact ⟨ua0, ua1, ua2, fa0, fa1, fa2, fa3, fa4⟩ | exact ⟨ub0, ub1, ub2, fb0, fb1, fb2, fb3, fb4⟩ | exact ⟨uc0, uc1, uc2, fc0, fc1, fc2, fc3, fc4⟩ | exact ⟨ud0, ud1, ud2, fd0, fd1, fd2, fd3, fd4⟩ | exact ⟨ue0, ue1, ue2, fe0, fe1, fe2, fe3, fe4⟩ | go_keep) (first | (go_at_call 52; (with_reducible refine (H52X.out _ _ _ _ _ HP20.out).mono ?_); rintro e w21 ⟨rfl, hb⟩; have ue0 := cell_keep' hb ud0; have ue1 := cell_keep' hb ud1; have ue2 := cell_keep' hb ud2; have fe0 := cell_keep' hb fd0; have fe1 := cell_keep' hb fd1; have fe2 := cell_keep' hb fd2; have fe3 := cell_keep' hb fd3; have fe4 := cell_keep' hb fd4; have HB21 := Lib.hid (HB20.out.trans (hb.mono HB20.out.size)); have HP21 := Lib.hid (HP20.out.keep hb); clear hb) | (go_at_call 50; (with_reducible refine (HEY.out _ _ _ HB19.out HS2.out).mono ?_); rintro e w20 ⟨rfl, hb⟩; have ud0 := cell_keep' hb uc0; have ud1 := cell_keep' hb uc1; have ud2 := cell_keep' hb uc2; have fd0 := cell_keep' hb fc0; have fd1 := cell_keep' hb fc1; have fd2 := cell_keep' hb fc2; have fd3 := cell_keep' hb fc3; have fd4 := cell_keep' hb fc4; have HB20 := Lib.hid (HB19.out.trans (hb.mono HB19.out.size)); have HP20 := Lib.hid (HP19.out.keep hb); clear hb) | (go_at_call 51; (with_reducible refine (HBY.out _).mono ?_); rintro e w19 ⟨A2, c2, rfl, hs, hb⟩; have uc0 := cell_keep' hb ub0; have uc1 := cell_keep' hb ub1; have uc2 := cell_keep' hb ub2; have fc0 := cell_keep' hb fb0; have fc1 := cell_keep' hb fb1; have fc2 := cell_keep' hb fb2; have fc3 := cell_keep' hb fb3; have fc4 := cell_keep' hb fb4; have HB19 := Lib.hid (HB18.out.trans (hb.mono HB18.out.size)); have HP19 := Lib.hid (HP18.out.keep hb); have HS2 := Lib.hid hs; clear hs; clear hb) | (go_at_call 50; (with_reducible refine (HEX.out _ _ _ HB17.out HS1.out).mono ?_); rintro e w18 ⟨rfl, hb⟩; have ub0 := cell_keep' hb ua0; have ub1 := cell_keep' hb ua1; have ub2 := cell_keep' hb ua2; have fb0 := cell_keep' hb fa0; have fb1 := cell_keep' hb fa1; have fb2 := cell_keep' hb fa2; have fb3 := cell_keep' hb fa3; have fb4 := cell_keep' hb fa4; have HB18 := Lib.hid (HB17.out.trans (hb.mono HB17.out.size)); have HP18 := Lib.hid (HP17.out.keep hb); clear hb) | (go_at_call 51; (with_reducible refine (HBX.out _).mono ?_); rintro e w17 ⟨A1, c1, rfl, hs, hb⟩; have ua0 := cell_keep' hb u0; have ua1 := cell_keep' hb u1; have ua2 := cell_keep' hb u2; have fa0 := cell_keep' hb f0; have fa1 := cell_keep' hb f1; have fa2 := cell_keep' hb f2; have fa3 := cell_keep' hb f3; have fa4 := cell_keep' hb f4; have HB17 := Lib.hid (HB16.out.drew.trans (hb.mono HB16.out.size)); have HP17 := Lib.hid (HP16.out.drew.keep hb); have HS1 := Lib.hid hs; clear hs; clear hb))) | fail
          go_wp2
          go_roundw
          case rel => exact ⟨i + 1, by omega, by go_num, Lib.hid ⟨ue0, ue1, ue2, fe0, fe1, fe2, fe3, fe4⟩, HB21, HP21⟩
          case measure => simp [intOf]; omega
    · obtain rfl : 3000 = i := by omega
      go_wp2_with (go_at_call 21; (with_reducible refine (HAW.out _).mono ?_); rintro e w17 ⟨rfl, hb⟩; have HB17 := Lib.hid (HBw.out.trans (hb.mono HBw.out.size)); clear hb)
      go_ret
      exact ⟨rfl, HB17.out⟩
end Go.Proofs.Ytpfbommaddaijaa

