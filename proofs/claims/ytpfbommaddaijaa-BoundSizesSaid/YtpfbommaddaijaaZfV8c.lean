/- The reference's Truth of two-sided nodes. -/
import Derived.Test.YtpfbommaddaijaaZfV8b
namespace Go.Proofs.Ytpfbommaddaijaa
open Go.RowKit Go.Proofs.YtpfbommaddaijaaW.PrintWords
set_option linter.unusedVariables false
set_option linter.unusedSimpArgs false

set_option maxHeartbeats 8000000 in
set_option maxRecDepth 100000 in
theorem truth_bin3 {w : World} {n : Nat} (hn : n ≤ 12) {ad : Addr} {c : Nat} {x y z x' y' z' : Value} (h0 : w.cell? (ad.add 0) = some x) (h1 : w.cell? (ad.add 1) = some y) (h2 : w.cell? (ad.add 2) = some z)
    (h3 : w.cell? (ad.add 3) = some x') (h4 : w.cell? (ad.add 4) = some y') (h5 : w.cell? (ad.add 5) = some z') {f g : Nat → Bool}
    (HF : ∀ W, Below w.heap.size w W → Calls Try.prog 35 #[.agg #[x, y, z], I n] W (RT W n f)) (HG : ∀ W, Below w.heap.size w W → Calls Try.prog 35 #[.agg #[x', y', z'], I n] W (RT W n g)) : Calls Try.prog 35 #[.agg #[I 3, I 0, .slice (some ad) 2 c], I n] w (RT w n (fun x => app 3 (f x) (g x))) := by
  have hw := wshl n hn
  have hp12 : 2 ^ n ≤ 4096 := Nat.pow_le_pow_right (n := 2) (by decide) hn
  obtain ⟨N, hN⟩ : ∃ N, N = 2 ^ n := ⟨_, rfl⟩
  have HF := Lib.hid (fun W hW => (HF W hW).mono fun e w' h => h.open' hN)
  have HG := Lib.hid (fun W hW => (HG W hW).mono fun e w' h => h.open' hN)
  unfold RT
  rw [← hN] at hw hp12 ⊢
  clear hN
  have hmk := run_make_row' (P := Try.prog) 29 4 (.bool false) 1 Try.underlying29 Try.info4 rfl .i64 .i64 N (by omega) (by omega)
  obtain ⟨W, hW⟩ : ∃ W, W = w.alloc (.cells #[I 3, I 0, .slice (some ad) 2 c] 24) := ⟨_, rfl⟩
  have hsz : W.heap.size = w.heap.size + 1 := by rw [hW]; exact World.size_alloc _ _
  have HB1 : Hid (Below w.heap.size w W) := Lib.hid (by rw [hW]; exact (Below.refl _ _).alloc (Nat.le_refl _) _)
  have k0 : W.cell? ⟨w.heap.size, 0, none⟩ = some (I 3) := by rw [hW]; simp [go_sem]
  have k2 : W.cell? ⟨w.heap.size, 2, none⟩ = some (.slice (some ad) 2 c) := by rw [hW]; simp [go_sem]
  have HR : Hid ((W.alloc (.cells (madeCells #[Value.bool false] N) 4)).rowIs W.heap.size 4 N (fun _ => .bool false)) := Lib.hid (World.rowIs_made W _ N 4)
  have HB : Hid (Below W.heap.size W (W.alloc (.cells (madeCells #[Value.bool false] N) 4))) := Lib.hid ((Below.refl _ _).alloc (Nat.le_refl _) _)
  have HK : Hid (∀ W' : World, Below W.heap.size W W' → W'.cell? ⟨w.heap.size, 0, none⟩ = some (I 3) ∧ W'.cell? ⟨w.heap.size, 2, none⟩ = some (.slice (some ad) 2 c)) := Lib.hid (fun W' h => ⟨cell_keep h k0, cell_keep h k2⟩)
  have HWE := Lib.hid hW
  obtain ⟨W2, hW2⟩ : ∃ W2, W2 = W.alloc (.cells (madeCells #[Value.bool false] N) 4) := ⟨_, rfl⟩
  replace hmk := hmk W
  rw [← hW2] at hmk HR HB
  clear hW2
  have hB2 : Below w.heap.size w W2 := HB1.out.trans (HB.out.mono HB1.out.size)
  have HB2 := Lib.hid hB2
  have g0 := (HK.out _ HB.out).1
  have g1 := (HK.out _ HB.out).2
  have d0 := cell_keep hB2 h0
  have d1 := cell_keep hB2 h1
  have d2 := cell_keep hB2 h2
  simp [Addr.add] at d0 d1 d2
  have HD : Hid (∀ W' : World, Below w.heap.size w W' → W'.cell? ⟨ad.block, ad.off + 3, none⟩ = some x' ∧ W'.cell? ⟨ad.block, ad.off + 3 + 1, none⟩ = some y' ∧ W'.cell? ⟨ad.block, ad.off + 3 + 2, none⟩ = some z') := Lib.hid (fun W' h => ⟨cell_keep h (by simpa [Addr.add] using h3), cell_keep h (by simpa [Addr.add] using h4), cell_keep h (by simpa [Addr.add] using h5)⟩)
  have HR0 : Hid (W.heap.size < W2.heap.size) := Lib.hid HR.out.lt
  have HRK : Hid (∀ W3 : World, Below W2.heap.size W2 W3 → W3.rowIs W.heap.size 4 N (fun _ => .bool false)) := Lib.hid (fun W3 h => HR.out.of_block (h.block _ HR.out.lt))
  have hbel : ∀ W3 : World, Below W2.heap.size W2 W3 → Below W.heap.size W W3 := fun W3 h => HB.out.trans (h.mono HB.out.size)
  have HBK := Lib.hid hbel
  have hn0 : (0 : Int) ≤ n := by omega
  clear h0 h1 h2 h3 h4 h5 hB2 hbel k0 k2 hsz
  go_enter Try.func35, Try.ntmps35
  go_upto_region 1 with fail
  rw [← hW]
  clear hW
  go_wp2_with (first
    | (go_at_call 35; first
      | ((with_reducible refine (HF.out _ HB2.out).mono ?_); rintro e w3 ⟨b7, c7, rfl, HT, hs7, HB3⟩; have HR3 := Lib.hid (HRK.out _ HB3.out); have HBW3 := Lib.hid (HBK.out _ HB3.out); have HB4 := Lib.hid (HB2.out.trans (HB3.out.mono HB2.out.size)); have g03 := (HK.out _ HBW3.out).1; have g23 := (HK.out _ HBW3.out).2; have d3 := (HD.out _ HB4.out).1; have d4 := (HD.out _ HB4.out).2.1; have d5 := (HD.out _ HB4.out).2.2)
      | ((with_reducible refine (HG.out _ HB4.out).mono ?_); rintro e w4 ⟨b8, c8, rfl, HT8, hs8, HB5⟩; have g04 := (HK.out _ (HBW3.out.trans (HB5.out.mono HBW3.out.size))).1)))
  obtain ⟨HT, HT8, HBW3, HR3⟩ : Hid (∀ i, i < N → w4.cell? (b7.add i) = some (.bool (f i))) ∧ Hid (∀ i, i < N → w4.cell? (b8.add i) = some (.bool (g i))) ∧ Hid (Below W.heap.size W w4) ∧ Hid (w4.rowIs W.heap.size 4 N (fun _ => .bool false)) := ⟨Lib.hid (fun i hi => cell_keep HB5.out (HT.out i hi)), HT8, Lib.hid (HBW3.out.trans (HB5.out.mono HBW3.out.size)), Lib.hid (HR3.out.of_block (HB5.out.block _ HR3.out.lt))⟩
  have hs8' : W2.heap.size ≤ b8.block := Nat.le_trans HB3.out.size hs8
  clear g04 g03 g23 g0 g1 d0 d1 d2 d3 d4 d5 hmk
  go_loopw [9] (fun x wr => ∃ i : Nat, i ≤ N ∧ x = I i ∧ Hid (wr.rowIs W.heap.size 4 N (fun u => .bool (decide (u < i) && app 3 (f u) (g u)))) ∧ Hid (Below W.heap.size W wr) ∧ Hid (∀ i, i < N → wr.cell? (b7.add i) = some (.bool (f i))) ∧ Hid (∀ i, i < N → wr.cell? (b8.add i) = some (.bool (g i)))) (fun x _ => N - (intOf x).toNat)
  case atStart => exact ⟨0, by omega, rfl, Lib.hid (HR3.out.congr fun u _ => by simp), HBW3, HT, HT8⟩
  case round =>
    clear HR3 HBW3 HT HT8
    obtain ⟨i, hi, rfl, HR, HBL, HT, HT8⟩ := hrel
    by_cases hiN : i < N
    · obtain ⟨k0, k2⟩ := HK.out wr HBL.out
      have hi0 : (0 : Int) ≤ i := by omega
      have hi1 : (i : Int) < N := by omega
      have c5 := HR.out.cell hiN
      have q5 := HR.out.frozen i
      have c7' := HT.out i hiN
      have c8' := HT8.out i hiN
      have hne8 : b8.block ≠ W.heap.size := by have := HR0.out; omega
      have hne : b7.block ≠ W.heap.size := by have := HR0.out; omega
      have HNT : Hid (∀ j, j < N → (wr.setCell ⟨W.heap.size, i, none⟩ (.bool (app 3 (f i) (g i)))).cell? (b7.add j) = some (.bool (f j))) := Lib.hid (fun j hj => by rw [World.cell?_setCell_other (h := fun e => hne (by have h9 := congrArg Addr.block e; unfold Addr.add at h9; split at h9 <;> exact h9.symm))]; exact HT.out j hj)
      have HNT8 : Hid (∀ j, j < N → (wr.setCell ⟨W.heap.size, i, none⟩ (.bool (app 3 (f i) (g i)))).cell? (b8.add j) = some (.bool (g j))) := Lib.hid (fun j hj => by rw [World.cell?_setCell_other (h := fun e => hne8 (by have h9 := congrArg Addr.block e; unfold Addr.add at h9; split at h9 <;> exact h9.symm))]; exact HT8.out j hj)
      have HNR : Hid ((wr.setCell ⟨W.heap.size, i, none⟩ (.bool (app 3 (f i) (g i)))).rowIs W.heap.size 4 N (fun u => .bool (decide (u < i + 1) && app 3 (f u) (g u)))) := Lib.hid ((HR.out.set i (.bool (app 3 (f i) (g i)))).congr fun u hu => by
        by_cases e : u = i
        · rw [if_pos e, e]; simp
        · rw [if_neg e]
          have : (u < i) ↔ (u < i + 1) := by omega
          simp [this])
      have HNB : Hid (Below W.heap.size W (wr.setCell ⟨W.heap.size, i, none⟩ (.bool (app 3 (f i) (g i))))) := Lib.hid (HBL.out.setCell (Nat.le_refl _) _)
      have HAP := Lib.hid (fun w : World => apply_any (w := w) (k := 3) (by decide) (f i) (g i))
      clear HR HT HT8
      go_upto_region 15 with fail
      go_still_tail 14, (by kernel_rfl)
      still_call (HAP.out _)
      still_step
      refine wpStill_nil ?_
      go_wp2
      go_roundw
      case rel => exact ⟨i + 1, by omega, by go_num, Lib.hid HNR.out.drew, Lib.hid HNB.out.drew, Lib.hid (fun i hi => HNT.out i hi), Lib.hid (fun i hi => HNT8.out i hi)⟩
      case measure => simp [intOf]; omega
    · obtain rfl : N = i := by omega
      go_wp2
      go_ret
      exact ⟨_, _, rfl, row_bs (by omega) (HR.out.congr fun u hu => by simp [hu]), HB1.out.size, HB1.out.trans (HBL.out.mono HB1.out.size)⟩
set_option maxHeartbeats 8000000 in
set_option maxRecDepth 100000 in
theorem truth_bin4 {w : World} {n : Nat} (hn : n ≤ 12) {ad : Addr} {c : Nat} {x y z x' y' z' : Value} (h0 : w.cell? (ad.add 0) = some x) (h1 : w.cell? (ad.add 1) = some y) (h2 : w.cell? (ad.add 2) = some z)
    (h3 : w.cell? (ad.add 3) = some x') (h4 : w.cell? (ad.add 4) = some y') (h5 : w.cell? (ad.add 5) = some z') {f g : Nat → Bool}
    (HF : ∀ W, Below w.heap.size w W → Calls Try.prog 35 #[.agg #[x, y, z], I n] W (RT W n f)) (HG : ∀ W, Below w.heap.size w W → Calls Try.prog 35 #[.agg #[x', y', z'], I n] W (RT W n g)) : Calls Try.prog 35 #[.agg #[I 4, I 0, .slice (some ad) 2 c], I n] w (RT w n (fun x => app 4 (f x) (g x))) := by
  have hw := wshl n hn
  have hp12 : 2 ^ n ≤ 4096 := Nat.pow_le_pow_right (n := 2) (by decide) hn
  obtain ⟨N, hN⟩ : ∃ N, N = 2 ^ n := ⟨_, rfl⟩
  have HF := Lib.hid (fun W hW => (HF W hW).mono fun e w' h => h.open' hN)
  have HG := Lib.hid (fun W hW => (HG W hW).mono fun e w' h => h.open' hN)
  unfold RT
  rw [← hN] at hw hp12 ⊢
  clear hN
  have hmk := run_make_row' (P := Try.prog) 29 4 (.bool false) 1 Try.underlying29 Try.info4 rfl .i64 .i64 N (by omega) (by omega)
  obtain ⟨W, hW⟩ : ∃ W, W = w.alloc (.cells #[I 4, I 0, .slice (some ad) 2 c] 24) := ⟨_, rfl⟩
  have hsz : W.heap.size = w.heap.size + 1 := by rw [hW]; exact World.size_alloc _ _
  have HB1 : Hid (Below w.heap.size w W) := Lib.hid (by rw [hW]; exact (Below.refl _ _).alloc (Nat.le_refl _) _)
  have k0 : W.cell? ⟨w.heap.size, 0, none⟩ = some (I 4) := by rw [hW]; simp [go_sem]
  have k2 : W.cell? ⟨w.heap.size, 2, none⟩ = some (.slice (some ad) 2 c) := by rw [hW]; simp [go_sem]
  have HR : Hid ((W.alloc (.cells (madeCells #[Value.bool false] N) 4)).rowIs W.heap.size 4 N (fun _ => .bool false)) := Lib.hid (World.rowIs_made W _ N 4)
  have HB : Hid (Below W.heap.size W (W.alloc (.cells (madeCells #[Value.bool false] N) 4))) := Lib.hid ((Below.refl _ _).alloc (Nat.le_refl _) _)
  have HK : Hid (∀ W' : World, Below W.heap.size W W' → W'.cell? ⟨w.heap.size, 0, none⟩ = some (I 4) ∧ W'.cell? ⟨w.heap.size, 2, none⟩ = some (.slice (some ad) 2 c)) := Lib.hid (fun W' h => ⟨cell_keep h k0, cell_keep h k2⟩)
  have HWE := Lib.hid hW
  obtain ⟨W2, hW2⟩ : ∃ W2, W2 = W.alloc (.cells (madeCells #[Value.bool false] N) 4) := ⟨_, rfl⟩
  replace hmk := hmk W
  rw [← hW2] at hmk HR HB
  clear hW2
  have hB2 : Below w.heap.size w W2 := HB1.out.trans (HB.out.mono HB1.out.size)
  have HB2 := Lib.hid hB2
  have g0 := (HK.out _ HB.out).1
  have g1 := (HK.out _ HB.out).2
  have d0 := cell_keep hB2 h0
  have d1 := cell_keep hB2 h1
  have d2 := cell_keep hB2 h2
  simp [Addr.add] at d0 d1 d2
  have HD : Hid (∀ W' : World, Below w.heap.size w W' → W'.cell? ⟨ad.block, ad.off + 3, none⟩ = some x' ∧ W'.cell? ⟨ad.block, ad.off + 3 + 1, none⟩ = some y' ∧ W'.cell? ⟨ad.block, ad.off + 3 + 2, none⟩ = some z') := Lib.hid (fun W' h => ⟨cell_keep h (by simpa [Addr.add] using h3), cell_keep h (by simpa [Addr.add] using h4), cell_keep h (by simpa [Addr.add] using h5)⟩)
  have HR0 : Hid (W.heap.size < W2.heap.size) := Lib.hid HR.out.lt
  have HRK : Hid (∀ W3 : World, Below W2.heap.size W2 W3 → W3.rowIs W.heap.size 4 N (fun _ => .bool false)) := Lib.hid (fun W3 h => HR.out.of_block (h.block _ HR.out.lt))
  have hbel : ∀ W3 : World, Below W2.heap.size W2 W3 → Below W.heap.size W W3 := fun W3 h => HB.out.trans (h.mono HB.out.size)
  have HBK := Lib.hid hbel
  have hn0 : (0 : Int) ≤ n := by omega
  clear h0 h1 h2 h3 h4 h5 hB2 hbel k0 k2 hsz
  go_enter Try.func35, Try.ntmps35
  go_upto_region 1 with fail
  rw [← hW]
  clear hW
  go_wp2_with (first
    | (go_at_call 35; first
      | ((with_reducible refine (HF.out _ HB2.out).mono ?_); rintro e w3 ⟨b7, c7, rfl, HT, hs7, HB3⟩; have HR3 := Lib.hid (HRK.out _ HB3.out); have HBW3 := Lib.hid (HBK.out _ HB3.out); have HB4 := Lib.hid (HB2.out.trans (HB3.out.mono HB2.out.size)); have g03 := (HK.out _ HBW3.out).1; have g23 := (HK.out _ HBW3.out).2; have d3 := (HD.out _ HB4.out).1; have d4 := (HD.out _ HB4.out).2.1; have d5 := (HD.out _ HB4.out).2.2)
      | ((with_reducible refine (HG.out _ HB4.out).mono ?_); rintro e w4 ⟨b8, c8, rfl, HT8, hs8, HB5⟩; have g04 := (HK.out _ (HBW3.out.trans (HB5.out.mono HBW3.out.size))).1)))
  obtain ⟨HT, HT8, HBW3, HR3⟩ : Hid (∀ i, i < N → w4.cell? (b7.add i) = some (.bool (f i))) ∧ Hid (∀ i, i < N → w4.cell? (b8.add i) = some (.bool (g i))) ∧ Hid (Below W.heap.size W w4) ∧ Hid (w4.rowIs W.heap.size 4 N (fun _ => .bool false)) := ⟨Lib.hid (fun i hi => cell_keep HB5.out (HT.out i hi)), HT8, Lib.hid (HBW3.out.trans (HB5.out.mono HBW3.out.size)), Lib.hid (HR3.out.of_block (HB5.out.block _ HR3.out.lt))⟩
  have hs8' : W2.heap.size ≤ b8.block := Nat.le_trans HB3.out.size hs8
  clear g04 g03 g23 g0 g1 d0 d1 d2 d3 d4 d5 hmk
  go_loopw [9] (fun x wr => ∃ i : Nat, i ≤ N ∧ x = I i ∧ Hid (wr.rowIs W.heap.size 4 N (fun u => .bool (decide (u < i) && app 4 (f u) (g u)))) ∧ Hid (Below W.heap.size W wr) ∧ Hid (∀ i, i < N → wr.cell? (b7.add i) = some (.bool (f i))) ∧ Hid (∀ i, i < N → wr.cell? (b8.add i) = some (.bool (g i)))) (fun x _ => N - (intOf x).toNat)
  case atStart => exact ⟨0, by omega, rfl, Lib.hid (HR3.out.congr fun u _ => by simp), HBW3, HT, HT8⟩
  case round =>
    clear HR3 HBW3 HT HT8
    obtain ⟨i, hi, rfl, HR, HBL, HT, HT8⟩ := hrel
    by_cases hiN : i < N
    · obtain ⟨k0, k2⟩ := HK.out wr HBL.out
      have hi0 : (0 : Int) ≤ i := by omega
      have hi1 : (i : Int) < N := by omega
      have c5 := HR.out.cell hiN
      have q5 := HR.out.frozen i
      have c7' := HT.out i hiN
      have c8' := HT8.out i hiN
      have hne8 : b8.block ≠ W.heap.size := by have := HR0.out; omega
      have hne : b7.block ≠ W.heap.size := by have := HR0.out; omega
      have HNT : Hid (∀ j, j < N → (wr.setCell ⟨W.heap.size, i, none⟩ (.bool (app 4 (f i) (g i)))).cell? (b7.add j) = some (.bool (f j))) := Lib.hid (fun j hj => by rw [World.cell?_setCell_other (h := fun e => hne (by have h9 := congrArg Addr.block e; unfold Addr.add at h9; split at h9 <;> exact h9.symm))]; exact HT.out j hj)
      have HNT8 : Hid (∀ j, j < N → (wr.setCell ⟨W.heap.size, i, none⟩ (.bool (app 4 (f i) (g i)))).cell? (b8.add j) = some (.bool (g j))) := Lib.hid (fun j hj => by rw [World.cell?_setCell_other (h := fun e => hne8 (by have h9 := congrArg Addr.block e; unfold Addr.add at h9; split at h9 <;> exact h9.symm))]; exact HT8.out j hj)
      have HNR : Hid ((wr.setCell ⟨W.heap.size, i, none⟩ (.bool (app 4 (f i) (g i)))).rowIs W.heap.size 4 N (fun u => .bool (decide (u < i + 1) && app 4 (f u) (g u)))) := Lib.hid ((HR.out.set i (.bool (app 4 (f i) (g i)))).congr fun u hu => by
        by_cases e : u = i
        · rw [if_pos e, e]; simp
        · rw [if_neg e]
          have : (u < i) ↔ (u < i + 1) := by omega
          simp [this])
      have HNB : Hid (Below W.heap.size W (wr.setCell ⟨W.heap.size, i, none⟩ (.bool (app 4 (f i) (g i))))) := Lib.hid (HBL.out.setCell (Nat.le_refl _) _)
      have HAP := Lib.hid (fun w : World => apply_any (w := w) (k := 4) (by decide) (f i) (g i))
      clear HR HT HT8
      go_upto_region 15 with fail
      go_still_tail 14, (by kernel_rfl)
      still_call (HAP.out _)
      still_step
      refine wpStill_nil ?_
      go_wp2
      go_roundw
      case rel => exact ⟨i + 1, by omega, by go_num, Lib.hid HNR.out.drew, Lib.hid HNB.out.drew, Lib.hid (fun i hi => HNT.out i hi), Lib.hid (fun i hi => HNT8.out i hi)⟩
      case measure => simp [intOf]; omega
    · obtain rfl : N = i := by omega
      go_wp2
      go_ret
      exact ⟨_, _, rfl, row_bs (by omega) (HR.out.congr fun u hu => by simp [hu]), HB1.out.size, HB1.out.trans (HBL.out.mono HB1.out.size)⟩
set_option maxHeartbeats 8000000 in
set_option maxRecDepth 100000 in
theorem truth_bin5 {w : World} {n : Nat} (hn : n ≤ 12) {ad : Addr} {c : Nat} {x y z x' y' z' : Value} (h0 : w.cell? (ad.add 0) = some x) (h1 : w.cell? (ad.add 1) = some y) (h2 : w.cell? (ad.add 2) = some z)
    (h3 : w.cell? (ad.add 3) = some x') (h4 : w.cell? (ad.add 4) = some y') (h5 : w.cell? (ad.add 5) = some z') {f g : Nat → Bool}
    (HF : ∀ W, Below w.heap.size w W → Calls Try.prog 35 #[.agg #[x, y, z], I n] W (RT W n f)) (HG : ∀ W, Below w.heap.size w W → Calls Try.prog 35 #[.agg #[x', y', z'], I n] W (RT W n g)) : Calls Try.prog 35 #[.agg #[I 5, I 0, .slice (some ad) 2 c], I n] w (RT w n (fun x => app 5 (f x) (g x))) := by
  have hw := wshl n hn
  have hp12 : 2 ^ n ≤ 4096 := Nat.pow_le_pow_right (n := 2) (by decide) hn
  obtain ⟨N, hN⟩ : ∃ N, N = 2 ^ n := ⟨_, rfl⟩
  have HF := Lib.hid (fun W hW => (HF W hW).mono fun e w' h => h.open' hN)
  have HG := Lib.hid (fun W hW => (HG W hW).mono fun e w' h => h.open' hN)
  unfold RT
  rw [← hN] at hw hp12 ⊢
  clear hN
  have hmk := run_make_row' (P := Try.prog) 29 4 (.bool false) 1 Try.underlying29 Try.info4 rfl .i64 .i64 N (by omega) (by omega)
  obtain ⟨W, hW⟩ : ∃ W, W = w.alloc (.cells #[I 5, I 0, .slice (some ad) 2 c] 24) := ⟨_, rfl⟩
  have hsz : W.heap.size = w.heap.size + 1 := by rw [hW]; exact World.size_alloc _ _
  have HB1 : Hid (Below w.heap.size w W) := Lib.hid (by rw [hW]; exact (Below.refl _ _).alloc (Nat.le_refl _) _)
  have k0 : W.cell? ⟨w.heap.size, 0, none⟩ = some (I 5) := by rw [hW]; simp [go_sem]
  have k2 : W.cell? ⟨w.heap.size, 2, none⟩ = some (.slice (some ad) 2 c) := by rw [hW]; simp [go_sem]
  have HR : Hid ((W.alloc (.cells (madeCells #[Value.bool false] N) 4)).rowIs W.heap.size 4 N (fun _ => .bool false)) := Lib.hid (World.rowIs_made W _ N 4)
  have HB : Hid (Below W.heap.size W (W.alloc (.cells (madeCells #[Value.bool false] N) 4))) := Lib.hid ((Below.refl _ _).alloc (Nat.le_refl _) _)
  have HK : Hid (∀ W' : World, Below W.heap.size W W' → W'.cell? ⟨w.heap.size, 0, none⟩ = some (I 5) ∧ W'.cell? ⟨w.heap.size, 2, none⟩ = some (.slice (some ad) 2 c)) := Lib.hid (fun W' h => ⟨cell_keep h k0, cell_keep h k2⟩)
  have HWE := Lib.hid hW
  obtain ⟨W2, hW2⟩ : ∃ W2, W2 = W.alloc (.cells (madeCells #[Value.bool false] N) 4) := ⟨_, rfl⟩
  replace hmk := hmk W
  rw [← hW2] at hmk HR HB
  clear hW2
  have hB2 : Below w.heap.size w W2 := HB1.out.trans (HB.out.mono HB1.out.size)
  have HB2 := Lib.hid hB2
  have g0 := (HK.out _ HB.out).1
  have g1 := (HK.out _ HB.out).2
  have d0 := cell_keep hB2 h0
  have d1 := cell_keep hB2 h1
  have d2 := cell_keep hB2 h2
  simp [Addr.add] at d0 d1 d2
  have HD : Hid (∀ W' : World, Below w.heap.size w W' → W'.cell? ⟨ad.block, ad.off + 3, none⟩ = some x' ∧ W'.cell? ⟨ad.block, ad.off + 3 + 1, none⟩ = some y' ∧ W'.cell? ⟨ad.block, ad.off + 3 + 2, none⟩ = some z') := Lib.hid (fun W' h => ⟨cell_keep h (by simpa [Addr.add] using h3), cell_keep h (by simpa [Addr.add] using h4), cell_keep h (by simpa [Addr.add] using h5)⟩)
  have HR0 : Hid (W.heap.size < W2.heap.size) := Lib.hid HR.out.lt
  have HRK : Hid (∀ W3 : World, Below W2.heap.size W2 W3 → W3.rowIs W.heap.size 4 N (fun _ => .bool false)) := Lib.hid (fun W3 h => HR.out.of_block (h.block _ HR.out.lt))
  have hbel : ∀ W3 : World, Below W2.heap.size W2 W3 → Below W.heap.size W W3 := fun W3 h => HB.out.trans (h.mono HB.out.size)
  have HBK := Lib.hid hbel
  have hn0 : (0 : Int) ≤ n := by omega
  clear h0 h1 h2 h3 h4 h5 hB2 hbel k0 k2 hsz
  go_enter Try.func35, Try.ntmps35
  go_upto_region 1 with fail
  rw [← hW]
  clear hW
  go_wp2_with (first
    | (go_at_call 35; first
      | ((with_reducible refine (HF.out _ HB2.out).mono ?_); rintro e w3 ⟨b7, c7, rfl, HT, hs7, HB3⟩; have HR3 := Lib.hid (HRK.out _ HB3.out); have HBW3 := Lib.hid (HBK.out _ HB3.out); have HB4 := Lib.hid (HB2.out.trans (HB3.out.mono HB2.out.size)); have g03 := (HK.out _ HBW3.out).1; have g23 := (HK.out _ HBW3.out).2; have d3 := (HD.out _ HB4.out).1; have d4 := (HD.out _ HB4.out).2.1; have d5 := (HD.out _ HB4.out).2.2)
      | ((with_reducible refine (HG.out _ HB4.out).mono ?_); rintro e w4 ⟨b8, c8, rfl, HT8, hs8, HB5⟩; have g04 := (HK.out _ (HBW3.out.trans (HB5.out.mono HBW3.out.size))).1)))
  obtain ⟨HT, HT8, HBW3, HR3⟩ : Hid (∀ i, i < N → w4.cell? (b7.add i) = some (.bool (f i))) ∧ Hid (∀ i, i < N → w4.cell? (b8.add i) = some (.bool (g i))) ∧ Hid (Below W.heap.size W w4) ∧ Hid (w4.rowIs W.heap.size 4 N (fun _ => .bool false)) := ⟨Lib.hid (fun i hi => cell_keep HB5.out (HT.out i hi)), HT8, Lib.hid (HBW3.out.trans (HB5.out.mono HBW3.out.size)), Lib.hid (HR3.out.of_block (HB5.out.block _ HR3.out.lt))⟩
  have hs8' : W2.heap.size ≤ b8.block := Nat.le_trans HB3.out.size hs8
  clear g04 g03 g23 g0 g1 d0 d1 d2 d3 d4 d5 hmk
  go_loopw [9] (fun x wr => ∃ i : Nat, i ≤ N ∧ x = I i ∧ Hid (wr.rowIs W.heap.size 4 N (fun u => .bool (decide (u < i) && app 5 (f u) (g u)))) ∧ Hid (Below W.heap.size W wr) ∧ Hid (∀ i, i < N → wr.cell? (b7.add i) = some (.bool (f i))) ∧ Hid (∀ i, i < N → wr.cell? (b8.add i) = some (.bool (g i)))) (fun x _ => N - (intOf x).toNat)
  case atStart => exact ⟨0, by omega, rfl, Lib.hid (HR3.out.congr fun u _ => by simp), HBW3, HT, HT8⟩
  case round =>
    clear HR3 HBW3 HT HT8
    obtain ⟨i, hi, rfl, HR, HBL, HT, HT8⟩ := hrel
    by_cases hiN : i < N
    · obtain ⟨k0, k2⟩ := HK.out wr HBL.out
      have hi0 : (0 : Int) ≤ i := by omega
      have hi1 : (i : Int) < N := by omega
      have c5 := HR.out.cell hiN
      have q5 := HR.out.frozen i
      have c7' := HT.out i hiN
      have c8' := HT8.out i hiN
      have hne8 : b8.block ≠ W.heap.size := by have := HR0.out; omega
      have hne : b7.block ≠ W.heap.size := by have := HR0.out; omega
      have HNT : Hid (∀ j, j < N → (wr.setCell ⟨W.heap.size, i, none⟩ (.bool (app 5 (f i) (g i)))).cell? (b7.add j) = some (.bool (f j))) := Lib.hid (fun j hj => by rw [World.cell?_setCell_other (h := fun e => hne (by have h9 := congrArg Addr.block e; unfold Addr.add at h9; split at h9 <;> exact h9.symm))]; exact HT.out j hj)
      have HNT8 : Hid (∀ j, j < N → (wr.setCell ⟨W.heap.size, i, none⟩ (.bool (app 5 (f i) (g i)))).cell? (b8.add j) = some (.bool (g j))) := Lib.hid (fun j hj => by rw [World.cell?_setCell_other (h := fun e => hne8 (by have h9 := congrArg Addr.block e; unfold Addr.add at h9; split at h9 <;> exact h9.symm))]; exact HT8.out j hj)
      have HNR : Hid ((wr.setCell ⟨W.heap.size, i, none⟩ (.bool (app 5 (f i) (g i)))).rowIs W.heap.size 4 N (fun u => .bool (decide (u < i + 1) && app 5 (f u) (g u)))) := Lib.hid ((HR.out.set i (.bool (app 5 (f i) (g i)))).congr fun u hu => by
        by_cases e : u = i
        · rw [if_pos e, e]; simp
        · rw [if_neg e]
          have : (u < i) ↔ (u < i + 1) := by omega
          simp [this])
      have HNB : Hid (Below W.heap.size W (wr.setCell ⟨W.heap.size, i, none⟩ (.bool (app 5 (f i) (g i))))) := Lib.hid (HBL.out.setCell (Nat.le_refl _) _)
      have HAP := Lib.hid (fun w : World => apply_any (w := w) (k := 5) (by decide) (f i) (g i))
      clear HR HT HT8
      go_upto_region 15 with fail
      go_still_tail 14, (by kernel_rfl)
      still_call (HAP.out _)
      still_step
      refine wpStill_nil ?_
      go_wp2
      go_roundw
      case rel => exact ⟨i + 1, by omega, by go_num, Lib.hid HNR.out.drew, Lib.hid HNB.out.drew, Lib.hid (fun i hi => HNT.out i hi), Lib.hid (fun i hi => HNT8.out i hi)⟩
      case measure => simp [intOf]; omega
    · obtain rfl : N = i := by omega
      go_wp2
      go_ret
      exact ⟨_, _, rfl, row_bs (by omega) (HR.out.congr fun u hu => by simp [hu]), HB1.out.size, HB1.out.trans (HBL.out.mono HB1.out.size)⟩
theorem Fm.list {w : World} {t : Fx} {cs : List Value} (h : Fm w t cs) (hl : cs.length = 3) : ∃ x y z, cs = [x, y, z] ∧ Fm w t [x, y, z] := by
  obtain ⟨k, n, A, l, c, e⟩ := h.three
  subst e
  exact ⟨_, _, _, rfl, h⟩
/-- the table of a formula -/
theorem truth_any {n : Nat} (hn : n ≤ 12) : ∀ {t : Fx} {w : World} {x y z : Value}, Fm w t [x, y, z] → t.ok 16 → Calls Try.prog 35 #[.agg #[x, y, z], I n] w (RT w n (fun u => t.val u))
  | .leaf k m, w, x, y, z, h, ho => by
    obtain ⟨A, c, e⟩ := h
    simp only [List.cons.injEq, and_true] at e
    obtain ⟨rfl, rfl, rfl⟩ := e
    exact truth_leaf hn ho
  | .not a, w, x, y, z, h, ho => by
    obtain ⟨ad, c, ca, e, h2, h3, h4, h5⟩ := h
    simp only [List.cons.injEq, and_true] at e
    obtain ⟨rfl, rfl, rfl⟩ := e
    obtain ⟨p, q, r, rfl, h6⟩ := h5.list h3
    exact truth_not hn (h4 0 _ rfl) (h4 1 _ rfl) (h4 2 _ rfl) (fun W hW => truth_any hn (h6.keep hW) ho)
  | .bin k a b, w, x, y, z, h, ho => by
    obtain ⟨ad, c, ca, cb, e, h2, h3, h3', h4, h4', h5, h5'⟩ := h
    simp only [List.cons.injEq, and_true] at e
    obtain ⟨rfl, rfl, rfl⟩ := e
    obtain ⟨p, q, r, rfl, h6⟩ := h5.list h3
    obtain ⟨p', q', r', rfl, h6'⟩ := h5'.list h3'
    have HA := fun W hW => truth_any hn (h6.keep hW : Fm W a [p, q, r]) ho.2.1
    have HB := fun W hW => truth_any hn (h6'.keep hW : Fm W b [p', q', r']) ho.2.2
    rcases ho.1 with rfl | rfl | rfl
    · exact truth_bin3 hn (h4 0 _ rfl) (h4 1 _ rfl) (h4 2 _ rfl) (h4' 0 _ rfl) (h4' 1 _ rfl) (h4' 2 _ rfl) HA HB
    · exact truth_bin4 hn (h4 0 _ rfl) (h4 1 _ rfl) (h4 2 _ rfl) (h4' 0 _ rfl) (h4' 1 _ rfl) (h4' 2 _ rfl) HA HB
    · exact truth_bin5 hn (h4 0 _ rfl) (h4 1 _ rfl) (h4 2 _ rfl) (h4' 0 _ rfl) (h4' 1 _ rfl) (h4' 2 _ rfl) HA HB
end Go.Proofs.Ytpfbommaddaijaa

