/- The reference's Apply and Truth. -/
import Derived.Test.YtpfbommaddaijaaZfFm
import Derived.Test.YtpfbommaddaijaaZfN1
import Derived.Deep.RegionHeld3
namespace Go.Proofs.Ytpfbommaddaijaa
open Go.RowKit Go.Proofs.YtpfbommaddaijaaW.PrintWords
set_option linter.unusedVariables false
set_option linter.unusedSimpArgs false

def app (k : Int) (a b : Bool) : Bool := if k = 2 then !a else if k = 3 then a && b else if k = 4 then a || b else a != b
set_option maxHeartbeats 2000000 in
theorem apply_any {w : World} {k : Int} (hk : k = 2 ∨ k = 3 ∨ k = 4 ∨ k = 5) (a b : Bool) : Calls Try.prog 83 #[I k, .bool a, .bool b] w fun e w' => e = .returned (.bool (app k a b)) ∧ w' = w := by
  rcases hk with rfl | rfl | rfl | rfl
  · go_enter Try.func83, Try.ntmps83
    go_wp2
    go_ret
    exact ⟨rb (by simp [app]), rfl⟩
  · cases a with
    | false =>
      go_enter Try.func83, Try.ntmps83
      go_wp2
      go_ret
      exact ⟨rb (by simp [app]), rfl⟩
    | true =>
      go_enter Try.func83, Try.ntmps83
      go_wp2
      go_ret
      exact ⟨rb (by simp [app]), rfl⟩
  · cases a with
    | false =>
      go_enter Try.func83, Try.ntmps83
      go_wp2
      go_ret
      exact ⟨rb (by simp [app]), rfl⟩
    | true =>
      go_enter Try.func83, Try.ntmps83
      go_wp2
      go_ret
      exact ⟨rb (by simp [app]), rfl⟩
  · go_enter Try.func83, Try.ntmps83
    go_wp2
    go_ret
    exact ⟨rb (by cases a <;> cases b <;> rfl), rfl⟩
/-- the table of a formula in new memory -/
def RT (w : World) (n : Nat) (f : Nat → Bool) (e : Ending) (w' : World) : Prop := ∃ a c, e = .returned (.slice (some a) (2 ^ n) c) ∧ Bs w' (.slice (some a) (2 ^ n) c) (2 ^ n) f ∧ w.heap.size ≤ a.block ∧ Below w.heap.size w w'
theorem row_bs {w : World} {g N : Nat} {f : Nat → Bool} (hN : N ≤ 4096) (h : w.rowIs g 4 N (fun u => .bool (f u))) : Bs w (.slice (some ⟨g, 0, none⟩) N N) N f :=
  ⟨some ⟨g, 0, none⟩, N, rfl, Nat.le_refl _, by unfold maxLen; omega, fun _ => ⟨_, rfl⟩, fun b hb i hi => by cases hb; rw [Addr.add_lit, Nat.zero_add]; exact h.cell hi⟩
theorem wshl (n : Nat) (h : n ≤ 12) : wrap64 ((2 : Int) ^ n) = ((2 ^ n : Nat) : Int) := w2i n (by omega)
set_option maxHeartbeats 4000000 in
set_option maxRecDepth 100000 in
theorem truth_leaf {w : World} {n : Nat} (hn : n ≤ 12) {k m : Int} {A : Option Addr} {c : Nat} (ho : (k = 0 ∧ 0 ≤ m ∧ m < 16) ∨ (k = 1 ∧ (m = 0 ∨ m = 1))) :
    Calls Try.prog 35 #[.agg #[I k, I m, .slice A 0 c], I n] w (RT w n (fun x => (Fx.leaf k m).val x)) := by
  have hw := wshl n hn
  have hp12 : 2 ^ n ≤ 4096 := Nat.pow_le_pow_right (n := 2) (by decide) hn
  unfold RT
  obtain ⟨N, hN⟩ : ∃ N, N = 2 ^ n := ⟨_, rfl⟩
  rw [← hN] at hw hp12 ⊢
  clear hN
  have hmk := run_make_row' (P := Try.prog) 29 4 (.bool false) 1 Try.underlying29 Try.info4 rfl .i64 .i64 N (by omega) (by omega)
  obtain ⟨W, hW⟩ : ∃ W, W = w.alloc (.cells #[I k, I m, .slice A 0 c] 24) := ⟨_, rfl⟩
  have hsz : W.heap.size = w.heap.size + 1 := by rw [hW]; exact World.size_alloc _ _
  have HB1 : Hid (Below w.heap.size w W) := Lib.hid (by rw [hW]; exact (Below.refl _ _).alloc (Nat.le_refl _) _)
  have k0 : W.cell? ⟨w.heap.size, 0, none⟩ = some (I k) := by rw [hW]; simp [go_sem]
  have k1 : W.cell? ⟨w.heap.size, 1, none⟩ = some (I m) := by rw [hW]; simp [go_sem]
  have HR : Hid ((W.alloc (.cells (madeCells #[Value.bool false] N) 4)).rowIs W.heap.size 4 N (fun _ => .bool false)) := Lib.hid (World.rowIs_made W _ N 4)
  have HB : Hid (Below W.heap.size W (W.alloc (.cells (madeCells #[Value.bool false] N) 4))) := Lib.hid ((Below.refl _ _).alloc (Nat.le_refl _) _)
  have HK : Hid (∀ W' : World, Below W.heap.size W W' → W'.cell? ⟨w.heap.size, 0, none⟩ = some (I k) ∧ W'.cell? ⟨w.heap.size, 1, none⟩ = some (I m)) := Lib.hid (fun W' h => ⟨cell_keep h k0, cell_keep h k1⟩)
  have HSZ := Lib.hid hsz
  have hn0 : (0 : Int) ≤ n := by omega
  have HWE := Lib.hid hW
  clear hsz
  obtain ⟨W2, hW2⟩ : ∃ W2, W2 = W.alloc (.cells (madeCells #[Value.bool false] N) 4) := ⟨_, rfl⟩
  replace hmk := hmk W
  rw [← hW2] at hmk HR HB
  clear hW2
  have g0 := (HK.out _ HB.out).1
  have g1 := (HK.out _ HB.out).2
  go_enter Try.func35, Try.ntmps35
  go_upto_region 1 with fail
  rw [← hW]
  clear hW
  rcases ho with ⟨rfl, hm0, hm1⟩ | ⟨rfl, hm⟩
  · obtain ⟨v, rfl⟩ : ∃ v : Nat, m = v := ⟨m.toNat, by omega⟩
    go_wp2
    go_loopw [6] (fun x wr => ∃ i : Nat, i ≤ N ∧ x = I i ∧ Hid (wr.rowIs W.heap.size 4 N (fun u => .bool (decide (u < i) && u.testBit v))) ∧ Hid (Below W.heap.size W wr)) (fun x _ => N - (intOf x).toNat)
    case atStart => exact ⟨0, by omega, rfl, Lib.hid (HR.out.congr fun u _ => by simp), HB⟩
    case round =>
      clear HR HB k0 k1 g0 g1
      obtain ⟨i, hi, rfl, HR, HB⟩ := hrel
      by_cases hiN : i < N
      · obtain ⟨k0, k1⟩ := HK.out wr HB.out
        have hi0 : (0 : Int) ≤ i := by omega
        have hi1 : (i : Int) < N := by omega
        have hsa := shr_and (y := i) (i := v) (by omega)
        have c1 := HR.out.cell hiN
        have q1 := HR.out.frozen i
        have HNR : Hid (∀ b, b = i.testBit v → (wr.setCell ⟨W.heap.size, i, none⟩ (.bool b)).rowIs W.heap.size 4 N (fun u => .bool (decide (u < i + 1) && u.testBit v))) := Lib.hid (fun b hb => (HR.out.set i (.bool b)).congr fun u hu => by
          by_cases e : u = i
          · rw [if_pos e, hb, e]; simp
          · rw [if_neg e]
            have : (u < i) ↔ (u < i + 1) := by omega
            simp [this])
        have HNB : Hid (∀ b : Bool, Below W.heap.size W (wr.setCell ⟨W.heap.size, i, none⟩ (.bool b))) := Lib.hid (fun b => HB.out.setCell (Nat.le_refl _) _)
        cases hb : i.testBit v with
        | true =>
          have hsa' : bits BinOp.and IntKind.i64 ((i : Int) / 2 ^ v) 1 = 1 := by rw [hsa, hb]; rfl
          have HNR' : Hid ((wr.setCell ⟨W.heap.size, i, none⟩ (.bool true)).rowIs W.heap.size 4 N (fun u => .bool (decide (u < i + 1) && u.testBit v))) := Lib.hid (HNR.out _ hb.symm)
          clear hsa hb HR
          go_wp2
          go_roundw
          case rel => exact ⟨i + 1, by omega, by go_num, HNR', Lib.hid (HNB.out _)⟩
          case measure => simp [intOf]; omega
        | false =>
          have hsa' : bits BinOp.and IntKind.i64 ((i : Int) / 2 ^ v) 1 = 0 := by rw [hsa, hb]; rfl
          have HNR' : Hid ((wr.setCell ⟨W.heap.size, i, none⟩ (.bool false)).rowIs W.heap.size 4 N (fun u => .bool (decide (u < i + 1) && u.testBit v))) := Lib.hid (HNR.out _ hb.symm)
          clear hsa hb HR
          go_wp2
          go_roundw
          case rel => exact ⟨i + 1, by omega, by go_num, HNR', Lib.hid (HNB.out _)⟩
          case measure => simp [intOf]; omega
      · obtain rfl : N = i := by omega
        go_wp2
        go_ret
        exact ⟨_, _, rfl, row_bs (by omega) (HR.out.congr fun u hu => by simp [hu, Fx.val]), HB1.out.size, HB1.out.trans (HB.out.mono HB1.out.size)⟩
  · obtain ⟨b, hb⟩ : ∃ b, b = decide (m = 1) := ⟨_, rfl⟩
    have HBB := Lib.hid hb
    have hmb : (m == 1) = b := by rw [hb]; rfl
    clear hb hm
    go_wp2
    go_loopw [6] (fun x wr => ∃ i : Nat, i ≤ N ∧ x = I i ∧ Hid (wr.rowIs W.heap.size 4 N (fun u => .bool (decide (u < i) && b))) ∧ Hid (Below W.heap.size W wr)) (fun x _ => N - (intOf x).toNat)
    case atStart => exact ⟨0, by omega, rfl, Lib.hid (HR.out.congr fun u _ => by simp), HB⟩
    case round =>
      clear HR HB k0 k1 g0 g1
      obtain ⟨i, hi, rfl, HR, HB⟩ := hrel
      by_cases hiN : i < N
      · obtain ⟨k0, k1⟩ := HK.out wr HB.out
        have hi0 : (0 : Int) ≤ i := by omega
        have hi1 : (i : Int) < N := by omega
        have c1 := HR.out.cell hiN
        have q1 := HR.out.frozen i
        have HNR : Hid ((wr.setCell ⟨W.heap.size, i, none⟩ (.bool b)).rowIs W.heap.size 4 N (fun u => .bool (decide (u < i + 1) && b))) := Lib.hid ((HR.out.set i (.bool b)).congr fun u hu => by
          by_cases e : u = i
          · rw [if_pos e, e]; simp
          · rw [if_neg e]
            have : (u < i) ↔ (u < i + 1) := by omega
            simp [this])
        have HNB : Hid (Below W.heap.size W (wr.setCell ⟨W.heap.size, i, none⟩ (.bool b))) := Lib.hid (HB.out.setCell (Nat.le_refl _) _)
        clear HR
        go_wp2
        go_roundw
        case rel => exact ⟨i + 1, by omega, by go_num, HNR, HNB⟩
        case measure => simp [intOf]; omega
      · obtain rfl : N = i := by omega
        go_wp2
        go_ret
        exact ⟨_, _, rfl, row_bs (by omega) (HR.out.congr fun u hu => by simp [hu, Fx.val, HBB.out]), HB1.out.size, HB1.out.trans (HB.out.mono HB1.out.size)⟩
end Go.Proofs.Ytpfbommaddaijaa

