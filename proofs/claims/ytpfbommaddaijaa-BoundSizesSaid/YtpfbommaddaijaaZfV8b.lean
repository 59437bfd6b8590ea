/- The reference's Truth of inner nodes. -/
import Derived.Test.YtpfbommaddaijaaZfV8a
import Derived.StillTailTactics
namespace Go.Proofs.Ytpfbommaddaijaa
open Go.RowKit Go.Proofs.YtpfbommaddaijaaW.PrintWords
set_option linter.unusedVariables false
set_option linter.unusedSimpArgs false

/-- what a recursive call gives, opened -/
def RTo (w : World) (N : Nat) (f : Nat → Bool) (e : Ending) (w' : World) : Prop := ∃ b c, e = .returned (.slice (some b) N c) ∧ Hid (∀ i, i < N → w'.cell? (b.add i) = some (.bool (f i))) ∧ w.heap.size ≤ b.block ∧ Hid (Below w.heap.size w w')
theorem RT.open' {w w' : World} {n N : Nat} {f : Nat → Bool} {e : Ending} (h : RT w n f e w') (hN : N = 2 ^ n) : RTo w N f e w' := by
  obtain ⟨b, c, rfl, hb, hs, hl⟩ := h
  subst hN
  exact ⟨b, c, rfl, Lib.hid (fun i hi => by obtain ⟨b', h1, h2⟩ := hb.at' hi; cases h1; exact h2), hs, Lib.hid hl⟩
set_option maxHeartbeats 8000000 in
set_option maxRecDepth 100000 in
theorem truth_not {w : World} {n : Nat} (hn : n ≤ 12) {ad : Addr} {c : Nat} {x y z : Value} (h0 : w.cell? (ad.add 0) = some x) (h1 : w.cell? (ad.add 1) = some y) (h2 : w.cell? (ad.add 2) = some z) {f : Nat → Bool}
    (HF : ∀ W, Below w.heap.size w W → Calls Try.prog 35 #[.agg #[x, y, z], I n] W (RT W n f)) : Calls Try.prog 35 #[.agg #[I 2, I 0, .slice (some ad) 1 c], I n] w (RT w n (fun x => !f x)) := by
  have hw := wshl n hn
  have hp12 : 2 ^ n ≤ 4096 := Nat.pow_le_pow_right (n := 2) (by decide) hn
  obtain ⟨N, hN⟩ : ∃ N, N = 2 ^ n := ⟨_, rfl⟩
  have HF := Lib.hid (fun W hW => (HF W hW).mono fun e w' h => h.open' hN)
  unfold RT
  rw [← hN] at hw hp12 ⊢
  clear hN
  have hmk := run_make_row' (P := Try.prog) 29 4 (.bool false) 1 Try.underlying29 Try.info4 rfl .i64 .i64 N (by omega) (by omega)
  obtain ⟨W, hW⟩ : ∃ W, W = w.alloc (.cells #[I 2, I 0, .slice (some ad) 1 c] 24) := ⟨_, rfl⟩
  have hsz : W.heap.size = w.heap.size + 1 := by rw [hW]; exact World.size_alloc _ _
  have HB1 : Hid (Below w.heap.size w W) := Lib.hid (by rw [hW]; exact (Below.refl _ _).alloc (Nat.le_refl _) _)
  have k0 : W.cell? ⟨w.heap.size, 0, none⟩ = some (I 2) := by rw [hW]; simp [go_sem]
  have k2 : W.cell? ⟨w.heap.size, 2, none⟩ = some (.slice (some ad) 1 c) := by rw [hW]; simp [go_sem]
  have HR : Hid ((W.alloc (.cells (madeCells #[Value.bool false] N) 4)).rowIs W.heap.size 4 N (fun _ => .bool false)) := Lib.hid (World.rowIs_made W _ N 4)
  have HB : Hid (Below W.heap.size W (W.alloc (.cells (madeCells #[Value.bool false] N) 4))) := Lib.hid ((Below.refl _ _).alloc (Nat.le_refl _) _)
  have HK : Hid (∀ W' : World, Below W.heap.size W W' → W'.cell? ⟨w.heap.size, 0, none⟩ = some (I 2) ∧ W'.cell? ⟨w.heap.size, 2, none⟩ = some (.slice (some ad) 1 c)) := Lib.hid (fun W' h => ⟨cell_keep h k0, cell_keep h k2⟩)
  have HWE := Lib.hid hW
  obtain ⟨W2, hW2⟩ : ∃ W2, W2 = W.alloc (.cells (madeCells #[Value.bool false] N) 4) := ⟨_, rfl⟩
  replace hmk := hmk W
  rw [← hW2] at hmk HR HB
  clear hW2
  have hB2 : Below w.heap.size w W2 := HB1.out.trans (HB.out.mono HB1.out.size)
  have HB2 := Lib.hid hB2
  have g0 := (HK.out _ HB.out).1
  have g1 := (HK.out _ HB.out).2
  have d0 := cell_keep hB2 h0
  have d1 := cell_keep hB2 h1
  have d2 := cell_keep hB2 h2
  simp [Addr.add] at d0 d1 d2
  have HR0 : Hid (W.heap.size < W2.heap.size) := Lib.hid HR.out.lt
  have HRK : Hid (∀ W3 : World, Below W2.heap.size W2 W3 → W3.rowIs W.heap.size 4 N (fun _ => .bool false)) := Lib.hid (fun W3 h => HR.out.of_block (h.block _ HR.out.lt))
  have hbel : ∀ W3 : World, Below W2.heap.size W2 W3 → Below W.heap.size W W3 := fun W3 h => HB.out.trans (h.mono HB.out.size)
  have HBK := Lib.hid hbel
  have hn0 : (0 : Int) ≤ n := by omega
  clear h0 h1 h2 hB2 hbel k0 k2 hsz
  go_enter Try.func35, Try.ntmps35
  go_upto_region 1 with fail
  rw [← hW]
  clear hW
  go_wp2_with (first
    | (go_at_call 35; refine (HF.out _ HB2.out).mono ?_; rintro e w3 ⟨b7, c7, rfl, HT, hs7, HB3⟩; have HR3 := Lib.hid (HRK.out _ HB3.out); have HBW3 := Lib.hid (HBK.out _ HB3.out); have g03 := (HK.out _ HBW3.out).1; have g23 := (HK.out _ HBW3.out).2))
  obtain ⟨HT, HBW3, HR3⟩ : Hid (∀ W', Below w3.heap.size w3 W' → ∀ i, i < N → W'.cell? (b7.add i) = some (.bool (f i))) ∧ Hid (Below W.heap.size W w3) ∧ Hid (w3.rowIs W.heap.size 4 N (fun _ => .bool false)) := ⟨Lib.hid (fun W' h i hi => cell_keep h (HT.out i hi)), HBW3, HR3⟩
  clear g03 g23 g0 g1 d0 d1 d2 hmk
  go_loopw [9] (fun x wr => ∃ i : Nat, i ≤ N ∧ x = I i ∧ Hid (wr.rowIs W.heap.size 4 N (fun u => .bool (decide (u < i) && !f u))) ∧ Hid (Below W.heap.size W wr) ∧ Hid (∀ i, i < N → wr.cell? (b7.add i) = some (.bool (f i)))) (fun x _ => N - (intOf x).toNat)
  case atStart => exact ⟨0, by omega, rfl, Lib.hid (HR3.out.congr fun u _ => by simp), HBW3, Lib.hid (HT.out _ (Below.refl _ _))⟩
  case round =>
    clear HR3 HBW3 HT
    obtain ⟨i, hi, rfl, HR, HBL, HT⟩ := hrel
    by_cases hiN : i < N
    · obtain ⟨k0, k2⟩ := HK.out wr HBL.out
      have hi0 : (0 : Int) ≤ i := by omega
      have hi1 : (i : Int) < N := by omega
      have c5 := HR.out.cell hiN
      have q5 := HR.out.frozen i
      have c7' := HT.out i hiN
      have hne : b7.block ≠ W.heap.size := by have := HR0.out; omega
      have HNT : Hid (∀ j, j < N → (wr.setCell ⟨W.heap.size, i, none⟩ (.bool (!f i))).cell? (b7.add j) = some (.bool (f j))) := Lib.hid (fun j hj => by rw [World.cell?_setCell_other (h := fun e => hne (by have h9 := congrArg Addr.block e; unfold Addr.add at h9; split at h9 <;> exact h9.symm))]; exact HT.out j hj)
      have HNR : Hid ((wr.setCell ⟨W.heap.size, i, none⟩ (.bool (!f i))).rowIs W.heap.size 4 N (fun u => .bool (decide (u < i + 1) && !f u))) := Lib.hid ((HR.out.set i (.bool (!f i))).congr fun u hu => by
        by_cases e : u = i
        · rw [if_pos e, e]; simp
        · rw [if_neg e]
          have : (u < i) ↔ (u < i + 1) := by omega
          simp [this])
      have HNB : Hid (Below W.heap.size W (wr.setCell ⟨W.heap.size, i, none⟩ (.bool (!f i)))) := Lib.hid (HBL.out.setCell (Nat.le_refl _) _)
      have HAP := Lib.hid (fun w : World => apply_any (w := w) (k := 2) (Or.inl rfl) (f i) (f i))
      have e9 : app 2 (f i) (f i) = !f i := by simp [app]
      rw [e9] at HAP
      clear e9
      clear HR HT
      go_upto_region 15 with fail
      go_still_tail 14, (by kernel_rfl)
      still_call (HAP.out _)
      still_step
      refine wpStill_nil ?_
      go_wp2
      go_roundw
      case rel => exact ⟨i + 1, by omega, by go_num, Lib.hid HNR.out.drew, Lib.hid HNB.out.drew, Lib.hid (fun i hi => HNT.out i hi)⟩
      case measure => simp [intOf]; omega
    · obtain rfl : N = i := by omega
      go_wp2
      go_ret
      exact ⟨_, _, rfl, row_bs (by omega) (HR.out.congr fun u hu => by simp [hu]), HB1.out.size, HB1.out.trans (HBL.out.mono HB1.out.size)⟩
end Go.Proofs.Ytpfbommaddaijaa

