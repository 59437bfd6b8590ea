/- protocol: a leaf. -/
import Derived.Test.YtpfbommaddaijaaZex20
import Derived.Test.YtpfbommaddaijaaZex22
namespace Go.Proofs.Ytpfbommaddaijaa
open Go.RowKit Go.Proofs.YtpfbommaddaijaaW.PrintWords Go.Proofs.YtpfbommaddaijaaW.PrintLast PBoundTo
set_option linter.unusedVariables false
set_option linter.unusedSimpArgs false

theorem PlR.up {w : World} : ∀ {m m' : Nat} {l : List S32} {A : Option Addr}, m ≤ m' → PlR m w l A → PlR m' w l A
  | 0, 0, l, A, _, h => h
  | 0, m' + 1, l, A, _, h => fun i hi => by
    have h' : l = [] := h
    subst h'
    simp at hi
  | m + 1, 0, l, A, hm, _ => absurd hm (by omega)
  | m + 1, m' + 1, l, A, hm, h => fun i hi => by
    obtain ⟨ad, A3, c3, A4, c4, e, hp, x0, x1, x2, x3, x4, hk⟩ := h i hi
    exact ⟨ad, A3, c3, A4, c4, e, hp, x0, x1, x2, x3, x4, hk.up (Nat.le_of_succ_le_succ hm)⟩
/-- a protocol's rows in memory -/
structure Po (w : World) (t : Pt) (A3 A4 : Option Addr) (c3 c4 : Nat) : Prop where
  a : Kd.C Kd.bool w A3 t.toS.f3.length t.toS.f3
  la : t.toS.f3.length ≤ c3
  k : Kd.C k32 w A4 t.toS.f4.length t.toS.f4
  lk : t.toS.f4.length ≤ c4
  pl : ∃ m, PlR m w t.toS.f4 A4
/-- they lie in the blocks from B on, below N, and not in g -/
def PoS (B N g : Nat) (w : World) (t : Pt) (A3 A4 : Option Addr) (c3 c4 : Nat) : Prop := ∀ w' : World, (∀ k, B ≤ k → k < N → k ≠ g → w'.heap[k]? = w.heap[k]?) → Po w' t A3 A4 c3 c4
abbrev pAgg (t : Pt) (A3 A4 : Option Addr) (c3 c4 : Nat) : Value := .agg #[.bool t.toS.f0, I t.toS.f1, I t.toS.f2, .slice A3 t.toS.f3.length c3, .slice A4 t.toS.f4.length c4]
/-- what protocol answers -/
def PrR (w : World) (N : Nat) (q : Pt) (f : Nat → Bool) (e : Ending) (w' : World) : Prop := ∃ A3 c3 A4 c4 g, e = .returned (.tuple #[pAgg q A3 A4 c3 c4, .slice (some ⟨g, 0, none⟩) N N]) ∧ w'.rowIs g 4 N (fun i => .bool (f i)) ∧ w.heap.size ≤ g ∧ PoS w.heap.size w'.heap.size g w' q A3 A4 c3 c4 ∧ Below w.heap.size w w'
theorem row_far5 {W : World} {g g' N : Nat} {f : Nat → Value} {a b c d e : Value} (h : W.rowIs g 4 N f) (hne : g ≠ g') :
    (((((W.setCell ⟨g', 0, none⟩ a).setCell ⟨g', 1, none⟩ b).setCell ⟨g', 2, none⟩ c).setCell ⟨g', 3, none⟩ d).setCell ⟨g', 4, none⟩ e).rowIs g 4 N f :=
  ((((h.setOther (a := ⟨g', 0, none⟩) hne a).setOther (a := ⟨g', 1, none⟩) hne b).setOther (a := ⟨g', 2, none⟩) hne c).setOther (a := ⟨g', 3, none⟩) hne d).setOther (a := ⟨g', 4, none⟩) hne e
set_option maxHeartbeats 8000000 in
set_option maxRecDepth 100000 in
theorem prot_leaf {w : World} {n v : Nat} (hn : n ≤ 12) (hv : v < 16) {neg : Bool} {A : Option Addr} {c : Nat} : Calls Try.prog 96 #[.agg #[I 0, I v, .slice A 0 c], .bool neg, I n] w (PrR w (2 ^ n) (.leaf v) (fun x => x.testBit v)) := by
  have hw := wshl n hn
  have hp12 : 2 ^ n ≤ 4096 := Nat.pow_le_pow_right (n := 2) (by decide) hn
  obtain ⟨N, hN⟩ : ∃ N, N = 2 ^ n := ⟨_, rfl⟩
  rw [← hN] at hw hp12 ⊢
  clear hN
  have hmk := run_make_row' (P := Try.prog) 29 4 (.bool false) 1 Try.underlying29 Try.info4 rfl .i64 .i64 N (by omega) (by omega)
  obtain ⟨W1, hW1⟩ : ∃ W1, W1 = w.alloc (.cells #[I 0, I v, .slice A 0 c] 24) := ⟨_, rfl⟩
  obtain ⟨W, hW⟩ : ∃ W, W = W1.alloc (.cells #[.bool false, I 0, I 0, .slice none 0 0, .slice none 0 0] 32) := ⟨_, rfl⟩
  have hs1 : W1.heap.size = w.heap.size + 1 := by rw [hW1]; exact World.size_alloc _ _
  have hsz : W.heap.size = w.heap.size + 2 := by rw [hW, World.size_alloc, hs1]
  have HB1 : Hid (Below w.heap.size w W) := Lib.hid (by rw [hW]; exact below_alloc (by rw [hW1]; exact below_alloc (Below.refl _ _) _) _)
  have BK : W.heap[w.heap.size]? = some (.cells #[I 0, I v, .slice A 0 c] 24 (0, 0)) := by rw [hW]; exact blk_alloc (by rw [hW1]; exact blk_new _ _) _
  have HBR : Hid (W.heap[w.heap.size + 1]? = some (.cells #[.bool false, I 0, I 0, .slice none 0 0, .slice none 0 0] 32 (0, 0))) := Lib.hid (by rw [hW, ← hs1]; exact blk_new _ _)
  have k0 : W.cell? ⟨w.heap.size, 0, none⟩ = some (I 0) := (blk_cell BK 0).trans rfl
  have k1 : W.cell? ⟨w.heap.size, 1, none⟩ = some (I v) := (blk_cell BK 1).trans rfl
  have HR : Hid ((W.alloc (.cells (madeCells #[Value.bool false] N) 4)).rowIs W.heap.size 4 N (fun _ => .bool false)) := Lib.hid (World.rowIs_made W _ N 4)
  have HB : Hid (Below W.heap.size W (W.alloc (.cells (madeCells #[Value.bool false] N) 4))) := Lib.hid ((Below.refl _ _).alloc (Nat.le_refl _) _)
  have HK : Hid (∀ W' : World, Below W.heap.size W W' → W'.cell? ⟨w.heap.size, 0, none⟩ = some (I 0) ∧ W'.cell? ⟨w.heap.size, 1, none⟩ = some (I v)) := Lib.hid (fun W' h => ⟨cell_keep' h k0, cell_keep' h k1⟩)
  have HSZ := Lib.hid hsz
  have hn0 : (0 : Int) ≤ n := by omega
  have hn12 : (n : Int) ≤ 12 := by omega
  have hv0 : (0 : Int) ≤ v := by omega
  have hv16 : (v : Int) ≤ 16 := by omega
  clear hsz BK
  obtain ⟨W2, hW2⟩ : ∃ W2, W2 = W.alloc (.cells (madeCells #[Value.bool false] N) 4) := ⟨_, rfl⟩
  replace hmk := hmk W
  rw [← hW2] at hmk HR HB
  clear hW2
  have g0 := (HK.out _ HB.out).1
  have g1 := (HK.out _ HB.out).2
  go_enter Try.func96, Try.ntmps96
  go_upto_region 1 with fail
  rw [← hW1, ← hW]
  clear hW1 hW hs1
  go_wp2
  go_loopw [31] (fun x wr => ∃ i : Nat, i ≤ N ∧ x = I i ∧ Hid (wr.rowIs W.heap.size 4 N (fun u => .bool (decide (u < i) && u.testBit v))) ∧ Hid (Below W.heap.size W wr)) (fun x _ => N - (intOf x).toNat)
  case atStart => exact ⟨0, by omega, rfl, Lib.hid (HR.out.congr fun u _ => by simp), HB⟩
  case round =>
    clear HR HB k0 k1 g0 g1
    obtain ⟨i, hi, rfl, HR, HB⟩ := hrel
    by_cases hiN : i < N
    · obtain ⟨k0, k1⟩ := HK.out wr HB.out
      have hi0 : (0 : Int) ≤ i := by omega
      have hi1 : (i : Int) < N := by omega
      have hsa := shr_and (y := i) (i := v) (by omega)
      have c1 := HR.out.cell hiN
      have q1 := HR.out.frozen i
      have HNR : Hid (∀ b, b = i.testBit v → (wr.setCell ⟨W.heap.size, i, none⟩ (.bool b)).rowIs W.heap.size 4 N (fun u => .bool (decide (u < i + 1) && u.testBit v))) := Lib.hid (fun b hb => (HR.out.set i (.bool b)).congr fun u hu => by
        by_cases e : u = i
        · rw [if_pos e, hb, e]; simp
        · rw [if_neg e]
          have : (u < i) ↔ (u < i + 1) := by omega
          simp [this])
      have HNB : Hid (∀ b : Bool, Below W.heap.size W (wr.setCell ⟨W.heap.size, i, none⟩ (.bool b))) := Lib.hid (fun b => HB.out.setCell (Nat.le_refl _) _)
      cases hb : i.testBit v with
      | true =>
        have hsa' : bits BinOp.and IntKind.i64 ((i : Int) / 2 ^ v) 1 = 1 := by rw [hsa, hb]; rfl
        have HNR' : Hid ((wr.setCell ⟨W.heap.size, i, none⟩ (.bool true)).rowIs W.heap.size 4 N (fun u => .bool (decide (u < i + 1) && u.testBit v))) := Lib.hid (HNR.out _ hb.symm)
        clear hsa hb HR
        go_wp2
        go_roundw
        case rel => exact ⟨i + 1, by omega, by go_num, HNR', Lib.hid (HNB.out _)⟩
        case measure => simp [intOf]; omega
      | false =>
        have hsa' : bits BinOp.and IntKind.i64 ((i : Int) / 2 ^ v) 1 = 0 := by rw [hsa, hb]; rfl
        have HNR' : Hid ((wr.setCell ⟨W.heap.size, i, none⟩ (.bool false)).rowIs W.heap.size 4 N (fun u => .bool (decide (u < i + 1) && u.testBit v))) := Lib.hid (HNR.out _ hb.symm)
        clear hsa hb HR
        go_wp2
        go_roundw
        case rel => exact ⟨i + 1, by omega, by go_num, HNR', Lib.hid (HNB.out _)⟩
        case measure => simp [intOf]; omega
    · obtain rfl : N = i := by omega
      obtain ⟨k0, k1⟩ := HK.out wr HB.out
      have HR2 := Lib.hid (blk_below HBR.out HB.out)
      have r0 : wr.cell? ⟨w.heap.size + 1, 0, none⟩ = some (.bool false) := (blk_cell HR2.out 0).trans rfl
      have r1 : wr.cell? ⟨w.heap.size + 1, 1, none⟩ = some (I 0) := (blk_cell HR2.out 1).trans rfl
      have r2 : wr.cell? ⟨w.heap.size + 1, 2, none⟩ = some (I 0) := (blk_cell HR2.out 2).trans rfl
      have r3 : wr.cell? ⟨w.heap.size + 1, 3, none⟩ = some (.slice none 0 0) := (blk_cell HR2.out 3).trans rfl
      have r4 : wr.cell? ⟨w.heap.size + 1, 4, none⟩ = some (.slice none 0 0) := (blk_cell HR2.out 4).trans rfl
      have q0 := blk_frozen HR2.out 0
      have q1 := blk_frozen HR2.out 1
      have q2 := blk_frozen HR2.out 2
      have q3 := blk_frozen HR2.out 3
      have q4 := blk_frozen HR2.out 4
      go_wp2
      have HF := Lib.hid (blk_put5 (a := .bool true) (b := I v) (c := I 0) (d := .slice none 0 0) (e := .slice none 0 0) HR2.out)
      have HBF := Lib.hid (below_put5 (a := .bool true) (b := I v) (c := I 0) (d := .slice none 0 0) (e := .slice none 0 0) (HB1.out.trans (HB.out.mono HB1.out.size)) (Nat.le_succ _))
      refine bodyPost_ret (results_ct (by rfl) _ _ (w.heap.size + 1) 32 #[.bool true, I v, I 0, .slice none 0 0, .slice none 0 0] (0, 0) _ (by rfl) HF.out Try.underlying32 (by rfl) (by kernel_rfl)) rfl ?_
      unfold PrR
      refine ⟨none, 0, none, 0, W.heap.size, rfl, row_far5 (HR.out.congr fun u hu => by simp [hu]) (by have := HSZ.out; omega), by have := HSZ.out; omega, fun w' _ => ?_, HBF.out⟩
      exact ⟨⟨rfl, by simp [Pt.toS], fun h => absurd h (by simp [Pt.toS])⟩, Nat.le_refl _, ⟨rfl, by simp [Pt.toS], fun h => absurd h (by simp [Pt.toS])⟩, Nat.le_refl _, 0, by rw [Pt.toS]; rfl⟩
end Go.Proofs.Ytpfbommaddaijaa

