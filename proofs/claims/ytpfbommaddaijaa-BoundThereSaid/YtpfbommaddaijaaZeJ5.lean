/- protocol: a negation. -/
import Derived.Test.YtpfbommaddaijaaZeJ4
namespace Go.Proofs.Ytpfbommaddaijaa
open Go.RowKit Go.Proofs.YtpfbommaddaijaaW.PrintWords Go.Proofs.YtpfbommaddaijaaW.PrintLast PBoundTo
set_option linter.unusedVariables false
set_option linter.unusedSimpArgs false

theorem PoS.on {B N g B' N' g' : Nat} {w w1 : World} {t : Pt} {A3 A4 : Option Addr} {c3 c4 : Nat} (h : PoS B N g w t A3 A4 c3 c4) (hk : ∀ k, B ≤ k → k < N → k ≠ g → w1.heap[k]? = w.heap[k]?) (hB : B' ≤ B) (hN : N ≤ N') (hg : ∀ k, B ≤ k → k < N → k ≠ g → k ≠ g') : PoS B' N' g' w1 t A3 A4 c3 c4 :=
  fun w' hw' => h w' (fun k h1 h2 h3 => (hw' k (Nat.le_trans hB h1) (Nat.lt_of_lt_of_le h2 hN) (hg k h1 h2 h3)).trans (hk k h1 h2 h3))
theorem put5_block (W : World) (g : Nat) (a b c d e : Value) (k : Nat) (hk : k ≠ g) : (((((W.setCell ⟨g, 0, none⟩ a).setCell ⟨g, 1, none⟩ b).setCell ⟨g, 2, none⟩ c).setCell ⟨g, 3, none⟩ d).setCell ⟨g, 4, none⟩ e).heap[k]? = W.heap[k]? :=
  ((((Below.heap_setCell _ ⟨g, 4, none⟩ e k hk).trans (Below.heap_setCell _ ⟨g, 3, none⟩ d k hk)).trans (Below.heap_setCell _ ⟨g, 2, none⟩ c k hk)).trans (Below.heap_setCell _ ⟨g, 1, none⟩ b k hk)).trans (Below.heap_setCell _ ⟨g, 0, none⟩ a k hk)
theorem put5_size (W : World) (g : Nat) (a b c d e : Value) : (((((W.setCell ⟨g, 0, none⟩ a).setCell ⟨g, 1, none⟩ b).setCell ⟨g, 2, none⟩ c).setCell ⟨g, 3, none⟩ d).setCell ⟨g, 4, none⟩ e).heap.size = W.heap.size := by
  simp only [Deep.nblk_setCell]
set_option maxHeartbeats 8000000 in
set_option maxRecDepth 100000 in
theorem prot_not {w : World} {n N : Nat} (hN4 : N ≤ 4096) {neg : Bool} {ad : Addr} {c : Nat} {x y z : Value} (h0 : w.cell? (ad.add 0) = some x) (h1 : w.cell? (ad.add 1) = some y) (h2 : w.cell? (ad.add 2) = some z) {q : Pt} {f : Nat → Bool}
    (HF : ∀ W, Below w.heap.size w W → Calls Try.prog 96 #[.agg #[x, y, z], .bool (!neg), I n] W (PrR W N q f)) : Calls Try.prog 96 #[.agg #[I 2, I 0, .slice (some ad) 1 c], .bool neg, I n] w (PrR w N q (fun x => !f x)) := by
  unfold PrR at HF
  replace HF := Lib.hid HF
  obtain ⟨W1, hW1⟩ : ∃ W1, W1 = w.alloc (.cells #[I 2, I 0, .slice (some ad) 1 c] 24) := ⟨_, rfl⟩
  obtain ⟨W, hW⟩ : ∃ W, W = W1.alloc (.cells #[.bool false, I 0, I 0, .slice none 0 0, .slice none 0 0] 32) := ⟨_, rfl⟩
  have hs1 : W1.heap.size = w.heap.size + 1 := by rw [hW1]; exact World.size_alloc _ _
  have hsz : W.heap.size = w.heap.size + 2 := by rw [hW, World.size_alloc, hs1]
  have hB1 : Below w.heap.size w W := by rw [hW]; exact below_alloc (by rw [hW1]; exact below_alloc (Below.refl _ _) _) _
  have HB1 := Lib.hid hB1
  have BK : W.heap[w.heap.size]? = some (.cells #[I 2, I 0, .slice (some ad) 1 c] 24 (0, 0)) := by rw [hW]; exact blk_alloc (by rw [hW1]; exact blk_new _ _) _
  have HBR : Hid (W.heap[w.heap.size + 1]? = some (.cells #[.bool false, I 0, I 0, .slice none 0 0, .slice none 0 0] 32 (0, 0))) := Lib.hid (by rw [hW, ← hs1]; exact blk_new _ _)
  have k0 : W.cell? ⟨w.heap.size, 0, none⟩ = some (I 2) := (blk_cell BK 0).trans rfl
  have k2 : W.cell? ⟨w.heap.size, 2, none⟩ = some (.slice (some ad) 1 c) := (blk_cell BK 2).trans rfl
  have d0 := cell_keep' hB1 h0
  have d1 := cell_keep' hB1 h1
  have d2 := cell_keep' hB1 h2
  rw [Addr.add_zero'] at d0
  simp [Addr.add] at d1 d2
  have HSZ := Lib.hid hsz
  clear hsz BK hB1 h0 h1 h2
  go_enter Try.func96, Try.ntmps96
  go_upto_region 1 with fail
  rw [← hW1, ← hW]
  clear hW1 hW hs1
  go_upto_region 12 with (go_at_call 96; (with_reducible refine (HF.out _ HB1.out).mono ?_); rintro e w3 ⟨A3, c3, A4, c4, g, rfl, hr, hg, hp, hb⟩; have HRW := Lib.hid hr; have HG := Lib.hid hg; have HP := Lib.hid hp; have HB3 := Lib.hid hb; clear hr hg hp hb)
  have HPB : Hid ((w3.alloc (.cells #[.bool q.toS.f0, I q.toS.f1, I q.toS.f2, .slice A3 q.toS.f3.length c3, .slice A4 q.toS.f4.length c4] 32)).heap[w3.heap.size]? = some (.cells #[.bool q.toS.f0, I q.toS.f1, I q.toS.f2, .slice A3 q.toS.f3.length c3, .slice A4 q.toS.f4.length c4] 32 (0, 0))) := Lib.hid (blk_new _ _)
  have HBL4 : Hid (Below w3.heap.size w3 (w3.alloc (.cells #[.bool q.toS.f0, I q.toS.f1, I q.toS.f2, .slice A3 q.toS.f3.length c3, .slice A4 q.toS.f4.length c4] 32))) := Lib.hid ((Below.refl _ _).alloc (Nat.le_refl _) _)
  have HR4 : Hid ((w3.alloc (.cells #[.bool q.toS.f0, I q.toS.f1, I q.toS.f2, .slice A3 q.toS.f3.length c3, .slice A4 q.toS.f4.length c4] 32)).rowIs g 4 N (fun i => .bool (f i))) := Lib.hid (HRW.out.alloc _)
  have HGL : Hid (g < w3.heap.size) := Lib.hid HRW.out.lt
  have hs3 : w3.heap.size ≠ g ∧ w.heap.size + 1 ≠ g ∧ w.heap.size ≠ g ∧ W.heap.size ≤ w3.heap.size := by
    have := HGL.out
    have := HSZ.out
    have := HG.out
    have := HB3.out.size
    omega
  have HS3 := Lib.hid hs3
  have HBR4 : Hid ((w3.alloc (.cells #[.bool q.toS.f0, I q.toS.f1, I q.toS.f2, .slice A3 q.toS.f3.length c3, .slice A4 q.toS.f4.length c4] 32)).heap[w.heap.size + 1]? = some (.cells #[.bool false, I 0, I 0, .slice none 0 0, .slice none 0 0] 32 (0, 0))) := Lib.hid (blk_below (blk_below HBR.out HB3.out) HBL4.out)
  have HBL : Hid (Below w.heap.size w (w3.alloc (.cells #[.bool q.toS.f0, I q.toS.f1, I q.toS.f2, .slice A3 q.toS.f3.length c3, .slice A4 q.toS.f4.length c4] 32))) := Lib.hid ((HB1.out.trans (HB3.out.mono HB1.out.size)).trans (HBL4.out.mono (Nat.le_trans HB1.out.size HB3.out.size)))
  clear hs3 HRW k0 k2 d0 d1 d2
  generalize w3.alloc (.cells #[.bool q.toS.f0, I q.toS.f1, I q.toS.f2, .slice A3 q.toS.f3.length c3, .slice A4 q.toS.f4.length c4] 32) = w4 at *
  go_wp2
  go_loopw [63] (fun y wr => ∃ i : Nat, i ≤ N ∧ y = I i ∧ Hid (wr.rowIs g 4 N (fun u => .bool (if u < i then !f u else f u))) ∧ Hid (w4.grownBy wr (some g)) ∧ Hid (wr.heap.size = w4.heap.size)) (fun y _ => N - (intOf y).toNat)
  case atStart => exact ⟨0, Nat.zero_le _, rfl, Lib.hid (HR4.out.congr fun u _ => by simp), Lib.hid ⟨rfl, rfl, rfl, Nat.le_refl _, fun _ _ _ => rfl⟩, Lib.hid rfl⟩
  case round =>
    clear HR4
    obtain ⟨i, hi, rfl, HRr, HGr, HSr⟩ := hrel
    by_cases hin : i < N
    · have hi0 : (0 : Int) ≤ i := by omega
      have hi1 : (i : Int) < N := by omega
      have c1 := HRr.out.cell hin
      have q1 := HRr.out.frozen i
      rw [if_neg (Nat.lt_irrefl i)] at c1
      have HNR : Hid ((wr.setCell ⟨g, i, none⟩ (.bool (!f i))).rowIs g 4 N (fun u => .bool (if u < i + 1 then !f u else f u))) := Lib.hid ((HRr.out.set i (.bool (!f i))).congr fun u hu => by
        by_cases e : u = i
        · rw [if_pos e, e, if_pos (Nat.lt_succ_self i)]
        · rw [if_neg e]
          have : (u < i) ↔ (u < i + 1) := by omega
          simp [this])
      have HNG : Hid (w4.grownBy (wr.setCell ⟨g, i, none⟩ (.bool (!f i))) (some g)) := Lib.hid (grown_set HGr.out (.inl rfl) _ _)
      have HNS : Hid ((wr.setCell ⟨g, i, none⟩ (.bool (!f i))).heap.size = w4.heap.size) := Lib.hid (by rw [Deep.nblk_setCell]; exact HSr.out)
      clear HRr
      go_wp2
      go_roundw
      case rel => exact ⟨i + 1, by omega, by go_num, HNR, HNG, HNS⟩
      case measure => simp [intOf]; omega
    · obtain rfl : N = i := by omega
      have HPr := Lib.hid (blk_grown HPB.out HGr.out (fun e => by injection e with e; exact HS3.out.1 e))
      have HR2 := Lib.hid (blk_grown HBR4.out HGr.out (fun e => by injection e with e; exact HS3.out.2.1 e))
      have p0 : wr.cell? ⟨w3.heap.size, 0, none⟩ = some (.bool q.toS.f0) := (blk_cell HPr.out 0).trans rfl
      have p1 : wr.cell? ⟨w3.heap.size, 1, none⟩ = some (I q.toS.f1) := (blk_cell HPr.out 1).trans rfl
      have p2 : wr.cell? ⟨w3.heap.size, 2, none⟩ = some (I q.toS.f2) := (blk_cell HPr.out 2).trans rfl
      have p3 : wr.cell? ⟨w3.heap.size, 3, none⟩ = some (.slice A3 q.toS.f3.length c3) := (blk_cell HPr.out 3).trans rfl
      have p4 : wr.cell? ⟨w3.heap.size, 4, none⟩ = some (.slice A4 q.toS.f4.length c4) := (blk_cell HPr.out 4).trans rfl
      have r0 : wr.cell? ⟨w.heap.size + 1, 0, none⟩ = some (.bool false) := (blk_cell HR2.out 0).trans rfl
      have r1 : wr.cell? ⟨w.heap.size + 1, 1, none⟩ = some (I 0) := (blk_cell HR2.out 1).trans rfl
      have r2 : wr.cell? ⟨w.heap.size + 1, 2, none⟩ = some (I 0) := (blk_cell HR2.out 2).trans rfl
      have r3 : wr.cell? ⟨w.heap.size + 1, 3, none⟩ = some (.slice none 0 0) := (blk_cell HR2.out 3).trans rfl
      have r4 : wr.cell? ⟨w.heap.size + 1, 4, none⟩ = some (.slice none 0 0) := (blk_cell HR2.out 4).trans rfl
      have q0 := blk_frozen HR2.out 0
      have q1 := blk_frozen HR2.out 1
      have q2 := blk_frozen HR2.out 2
      have q3 := blk_frozen HR2.out 3
      have q4 := blk_frozen HR2.out 4
      have HBW : Hid (Below w.heap.size w wr) := Lib.hid (pw_below_grown HBL.out (some g) HBL.out.size HGr.out (fun k hk => by cases hk; have := HG.out; have := HSZ.out; have := HB1.out.size; omega))
      go_wp2
      have HFr := Lib.hid (blk_put5 (a := .bool q.toS.f0) (b := I q.toS.f1) (c := I q.toS.f2) (d := .slice A3 q.toS.f3.length c3) (e := .slice A4 q.toS.f4.length c4) HR2.out)
      have HBF := Lib.hid (below_put5 (a := .bool q.toS.f0) (b := I q.toS.f1) (c := I q.toS.f2) (d := .slice A3 q.toS.f3.length c3) (e := .slice A4 q.toS.f4.length c4) HBW.out (Nat.le_succ _))
      refine bodyPost_ret (results_ct (by rfl) _ _ (w.heap.size + 1) 32 #[.bool q.toS.f0, I q.toS.f1, I q.toS.f2, .slice A3 q.toS.f3.length c3, .slice A4 q.toS.f4.length c4] (0, 0) _ (by rfl) HFr.out Try.underlying32 (by rfl) (by kernel_rfl)) rfl ?_
      unfold PrR
      refine ⟨A3, c3, A4, c4, g, rfl, row_far5 (HRr.out.congr fun u hu => by simp [hu]) (fun e => HS3.out.2.1 e.symm), by have := HG.out; have := HSZ.out; omega, ?_, HBF.out⟩
      refine HP.out.on (fun k k1 k2 k3 => ?_) (by have := HSZ.out; omega) ?_ (fun k _ _ h => h)
      · rw [put5_block _ _ _ _ _ _ _ k (by have := HSZ.out; omega)]
        exact (HGr.out.block k (Nat.lt_of_lt_of_le k2 HBL4.out.size) (fun e => by injection e with e; exact k3 e)).trans (HBL4.out.block k k2)
      · rw [put5_size, HSr.out]; exact HBL4.out.size
end Go.Proofs.Ytpfbommaddaijaa

