/- The pyramids and the binary trees, of the program and of the reference. -/
import Derived.Test.YtihpdmchppcbfaaTx
import Derived.Test.YtihpdmchppcbfaaTh
namespace Go.Proofs.Ytihpdmchppcbfaa
open Go.RowKit
set_option linter.unusedVariables false
set_option linter.unusedSimpArgs false

def GP (h : Nat) : List (Option Int) := gen (fun m => m - 1) 1 h (List.replicate h none) 0 h
def GB (k : Nat) : List (Option Int) := gen (fun m => m / 2) 2 (2 ^ (k - 1)) (List.replicate (2 ^ (k - 1)) none) 0 (2 ^ (k - 1))
theorem GP_len (h : Nat) (h2 : h ≤ 40) : (GP h).length ≤ 2000 := by
  have : ∀ c : Fin 41, (GP c.val).length ≤ 2000 := by decide +kernel
  exact this ⟨h, by omega⟩
theorem GB_len (h : Nat) (h2 : h ≤ 9) : (GB h).length ≤ 2000 := by
  have : ∀ c : Fin 10, (GB c.val).length ≤ 2000 := by decide +kernel
  exact this ⟨h, by omega⟩
theorem two8 (h : Nat) (h2 : h ≤ 9) : 1 ≤ 2 ^ (h - 1) ∧ 2 ^ (h - 1) ≤ 256 := by
  have : ∀ c : Fin 10, 1 ≤ 2 ^ (c.val - 1) ∧ 2 ^ (c.val - 1) ≤ 256 := by decide
  exact this ⟨h, by omega⟩
def GpE (w : World) (l : List (Option Int)) (e : Ending) (w' : World) : Prop := ∃ v, e = .returned (.tuple #[v, I 0]) ∧ Gp w.heap.size w' v l ∧ Below w.heap.size w w'
set_option maxHeartbeats 2000000 in
theorem pyr_any {w : World} (h : Nat) (h1 : 1 ≤ h) (h2 : h ≤ 40) : Calls Try.prog 23 #[I h] w (GpE w (GP h)) := by
  have HC := Lib.hid (rows33_any (w := w) h h1 (by omega) (G := GP h) rfl (GP_len h h2))
  have hd1 : decide ((h : Int) < 1) = false := decide_eq_false (by omega)
  have hd2 : decide ((40 : Int) < h) = false := decide_eq_false (by omega)
  go_enter Try.func23, Try.ntmps23
  go_wp2_with (go_at_call 32; refine HC.out.mono ?_; rintro e w1 ⟨v, rfl, hg, hb⟩; have HG := Lib.hid hg; have HB := Lib.hid hb; clear hg hb)
  go_ret2
  exact ⟨_, rfl, HG.out, HB.out⟩
set_option maxHeartbeats 2000000 in
theorem bin_any {w : World} (h : Nat) (h1 : 1 ≤ h) (h2 : h ≤ 9) : Calls Try.prog 24 #[I h] w (GpE w (GB h)) := by
  obtain ⟨t1, t2⟩ := two8 h h2
  have HC := Lib.hid (rows34_any (w := w) (2 ^ (h - 1)) t1 (by omega) (G := GB h) rfl (GB_len h h2))
  have hd1 : decide ((h : Int) < 1) = false := decide_eq_false (by omega)
  have hd2 : decide ((9 : Int) < h) = false := decide_eq_false (by omega)
  have hw := w2i (h - 1) (by omega)
  have hs : ((h : Int) - 1).toNat = h - 1 := by omega
  have hs2 : 0 ≤ (h : Int) - 1 := by omega
  have hs3 : 1 ≤ (h : Int) := by omega
  generalize 2 ^ (h - 1) = N at *
  go_enter Try.func24, Try.ntmps24
  go_wp2_with (go_at_call 32; refine HC.out.mono ?_; rintro e w1 ⟨v, rfl, hg, hb⟩; have HG := Lib.hid hg; have HB := Lib.hid hb; clear hg hb)
  go_ret2
  exact ⟨_, rfl, HG.out, HB.out⟩

set_option maxHeartbeats 8000000 in
set_option maxRecDepth 100000 in
theorem refPyr_any {w : World} (h : Nat) (h1 : 1 ≤ h) (h2 : h ≤ 40) : Calls Try.prog 20 #[I h] w (Gps w (GP h)) := by
  have hG : gen (fun m => m - 1) 1 h (List.replicate h none) 0 h = GP h := rfl
  have hGl := GP_len h h2
  obtain ⟨G, hGG⟩ : ∃ G, G = GP h := ⟨_, rfl⟩
  rw [← hGG] at hG hGl
  have HG := Lib.hid hG
  skip
  rw [← hGG]
  clear hG hGG
  go_enter Try.func20, Try.ntmps20
  go_upto_block 0 with fail
  go_cut [3] from 4 (fun v wr => Hid (Gp w.heap.size wr v (List.replicate h none)) ∧ Hid (Below w.heap.size w wr))
  case first =>
    go_wp2
    go_loopw [3, 4] (fun v x wr => ∃ i : Nat, i ≤ h ∧ x = I i ∧ Hid (Gp w.heap.size wr v (List.replicate i none)) ∧ Hid (Below w.heap.size w wr)) (fun _ x _ => h - (intOf x).toNat)
    case atStart => exact ⟨0, by omega, rfl, Lib.hid (Gp.nil _ _), Lib.hid (Below.refl _ _)⟩
    case round =>
      obtain ⟨i, hi, rfl, hgp, hB⟩ := hrel
      by_cases hin : i < h
      · obtain ⟨ga, gc, hga⟩ := hgp.out.shape
        subst hga
        have hBs := hB.out.size
        have hrl : (List.replicate i (none : Option Int)).length ≤ 2000 := by simp; omega
        have HRL := Lib.hid hrl
        have hrs : Hid (List.replicate (i + 1) (none : Option Int) = List.replicate i none ++ [none]) := Lib.hid (List.replicate_succ')
        have hli : Hid ((List.replicate i (none : Option Int)).length = i) := Lib.hid (List.length_replicate)
        clear hrl
        rw [hli.out] at hgp ⊢
        go_wp2_with (first | (at_builtin; refine wpList_append_gp (q := none) rfl (.tmp 13) (.tmp 14) rfl rfl hgp.out hBs (M := wr.heap.size) rfl rfl (World.ownsRow_nil _ _ _ _) HRL.out ?_; intro v9 w9 hg9 hb9; have HG9 := Lib.hid hg9; have HB9 := Lib.hid (hB.out.trans hb9); clear hg9 hb9))
        go_roundw
        case rel => exact ⟨i + 1, by omega, by go_num, Lib.hid (by rw [hrs.out]; exact HG9.out), HB9⟩
        case measure => simp [intOf]; omega
      · obtain rfl : i = h := by omega
        go_wp2
        go_meet
        exact ⟨hgp, hB⟩
  case rest =>
    obtain ⟨HGP, HB0⟩ := hcut
    go_wp2
    go_loopw [3, 5, 6, 7] (fun v y _ _ wr => ∃ (l : List (Option Int)) (m b k : Nat), 1 ≤ m ∧ m ≤ h ∧ m ≤ k ∧ y = I ((m : Int) - 1) ∧ Hid (l.length = b + m) ∧ b + m ≤ 2000 ∧ Hid (gen (fun m => m - 1) 1 k l b m = G) ∧ Hid (Gp w.heap.size wr v l) ∧ Hid (Below w.heap.size w wr)) (fun _ y _ _ _ => (intOf y).toNat)
    case atStart => exact ⟨List.replicate h none, h, 0, h, by omega, by omega, by omega, by first | rfl | (rw [hw]; rfl) | (rw [hw]), Lib.hid (by simp), by omega, HG, HGP, HB0⟩
    case round =>
      clear HGP HB0 HG
      obtain ⟨l, m, b, k, hm1, hmn, hmk, rfl, HLEN, hbm, HG, hgp, hB⟩ := hrel
      obtain ⟨k, rfl⟩ : ∃ k', k = k' + 1 := ⟨k - 1, by omega⟩
      obtain ⟨ga, gc, hga⟩ := hgp.out.shape
      subst hga
      have hg := HG.out
      rw [gen] at hg
      by_cases hz : m - 1 = 0
      · rw [if_pos hz] at hg
        have hz' := Lib.hid hg
        obtain rfl : m = 1 := by omega
        clear hz hg
        go_wp2
        go_ret
        exact ⟨_, rfl, by rw [← hz'.out]; exact hgp.out, hB.out⟩
      · rw [if_neg hz] at hg
        have HG2 := Lib.hid hg
        obtain ⟨m', hm'⟩ : ∃ m' : Nat, m' = m - 1 := ⟨_, rfl⟩
        have hlen2 : b + m + m' ≤ 2000 := by
          have h3 := gen_le (fun m => m - 1) 1 k (gr 1 l b (m - 1)) (b + m) (m - 1)
          rw [hg, gr_len, HLEN.out, ← hm'] at h3
          omega
        rw [← hm'] at HG2
        have hmk' : m' ≤ k := by omega
        have hm'1 : 1 ≤ m' := by omega
        have hm'm : m' < m := by omega
        have HMM := Lib.hid hm'
        have he1 : (m : Int) - 1 = (m' : Int) := by omega
        rw [he1]
        have he2 : (b : Int) + m - m' - 1 = b := by omega
        clear he1
        have hd0 : decide ((0 : Int) < (m' : Int)) = true := decide_eq_true (by omega)
        have hd0n : decide (0 < m') = true := decide_eq_true (by omega)
        rw [HLEN.out]
        clear hz hg hm'
        go_wp2
        go_loopw [3, 7] (fun v x wr => ∃ j : Nat, j ≤ m' ∧ x = I j ∧ Hid (Gp w.heap.size wr v (gr 1 l b j)) ∧ Hid (Below w.heap.size w wr)) (fun _ x _ => m' - (intOf x).toNat)
        case atStart => exact ⟨0, by omega, rfl, Lib.hid (by rw [gr_zero]; first | exact hgp.out | (rw [← HLEN.out]; exact hgp.out)), hB⟩
        case round =>
          clear hgp hB
          obtain ⟨j, hj, rfl, hgp, hB⟩ := hrel
          by_cases hjm : j < m'
          · obtain ⟨ga, gc, hga⟩ := hgp.out.shape
            subst hga
            have hBs := hB.out.size
            have hgl : (gr 1 l b j).length ≤ 2000 := by rw [gr_len, HLEN.out]; omega
            have HGL := Lib.hid hgl
            have hu : (wr.alloc (.cells #[I ((b : Int) + j), I ((b : Int) + j + 1)] 3)).ownsRow w.heap.size 3 1 (.slice (some ⟨wr.heap.size, 0, none⟩) 2 2) 2 ((List.range 2).map fun c => I (((b : Int) + j) + (c : Nat))) := by
              have h := World.ownsRow_lit (base := w.heap.size) (e := 3) (size := 1) wr #[I ((b : Int) + j), I ((b : Int) + j + 1)] 2 hBs (by decide) rfl
              simpa [List.range_succ] using h
            have HU := Lib.hid hu
            have hb1 := Lib.hid (hB.out.alloc hBs (.cells #[I ((b : Int) + j), I ((b : Int) + j + 1)] 3))
            have hgs : Hid (gr 1 l b (j + 1) = gr 1 l b j ++ [some ((b : Int) + j)]) := Lib.hid (by rw [gr_succ]; rw [Int.one_mul])
            clear hgl hu
            go_wp2_with (first | (at_builtin; refine wpList_append_gp (q := some ((b : Int) + j)) rfl (.tmp 32) (.tmp 41) rfl rfl (hgp.out.alloc _) (by rw [World.size_alloc]; omega) (M := wr.heap.size + 1) (World.size_alloc _ _) rfl HU.out HGL.out ?_; intro v9 w9 hg9 hb9; have HG9 := Lib.hid hg9; have HB9 := Lib.hid (hb1.out.trans hb9); clear hg9 hb9))
            go_roundw
            case rel => exact ⟨j + 1, by omega, by go_num, Lib.hid (by rw [hgs.out]; exact HG9.out), HB9⟩
            case measure => simp [intOf]; omega
          · obtain rfl : j = m' := by omega
            go_wp2
            go_roundw
            case rel => exact ⟨gr 1 l b j, j, b + m, k, by omega, by omega, by omega, by first | rfl | (congr 1; omega) | (have := HMM.out; congr 1; omega), Lib.hid (by rw [gr_len, HLEN.out]), by omega, Lib.hid (by have := HG2.out; simpa using this), hgp, hB⟩
            case measure => simp [intOf]; omega

set_option maxHeartbeats 8000000 in
set_option maxRecDepth 100000 in
theorem refBin_any {w : World} (h : Nat) (h1 : 1 ≤ h) (h2 : h ≤ 9) : Calls Try.prog 21 #[I h] w (Gps w (GB h)) := by
  obtain ⟨N, hN⟩ : ∃ N : Nat, N = 2 ^ (h - 1) := ⟨_, rfl⟩
  have hG : gen (fun m => m / 2) 2 N (List.replicate N none) 0 N = GB h := by rw [hN]; rfl
  have hGl := GB_len h h2
  obtain ⟨G, hGG⟩ : ∃ G, G = GB h := ⟨_, rfl⟩
  rw [← hGG] at hG hGl
  have HG := Lib.hid hG
  obtain ⟨t1, t2⟩ := two8 h h2
  rw [← hN] at t1 t2
  have hw := w2i (h - 1) (by omega)
  rw [← hN] at hw
  have hs : ((h : Int) - 1).toNat = h - 1 := by omega
  have hs3 : 1 ≤ (h : Int) := by omega
  clear hN
  rw [← hGG]
  clear hG hGG
  go_enter Try.func21, Try.ntmps21
  go_upto_block 0 with fail
  go_cut [3] from 4 (fun v wr => Hid (Gp w.heap.size wr v (List.replicate N none)) ∧ Hid (Below w.heap.size w wr))
  case first =>
    go_wp2
    go_loopw [3, 4] (fun v x wr => ∃ i : Nat, i ≤ N ∧ x = I i ∧ Hid (Gp w.heap.size wr v (List.replicate i none)) ∧ Hid (Below w.heap.size w wr)) (fun _ x _ => N - (intOf x).toNat)
    case atStart => exact ⟨0, by omega, rfl, Lib.hid (Gp.nil _ _), Lib.hid (Below.refl _ _)⟩
    case round =>
      obtain ⟨i, hi, rfl, hgp, hB⟩ := hrel
      by_cases hin : i < N
      · obtain ⟨ga, gc, hga⟩ := hgp.out.shape
        subst hga
        have hBs := hB.out.size
        have hrl : (List.replicate i (none : Option Int)).length ≤ 2000 := by simp; omega
        have HRL := Lib.hid hrl
        have hrs : Hid (List.replicate (i + 1) (none : Option Int) = List.replicate i none ++ [none]) := Lib.hid (List.replicate_succ')
        have hli : Hid ((List.replicate i (none : Option Int)).length = i) := Lib.hid (List.length_replicate)
        clear hrl
        rw [hli.out] at hgp ⊢
        go_wp2_with (first | (at_builtin; refine wpList_append_gp (q := none) rfl (.tmp 15) (.tmp 16) rfl rfl hgp.out hBs (M := wr.heap.size) rfl rfl (World.ownsRow_nil _ _ _ _) HRL.out ?_; intro v9 w9 hg9 hb9; have HG9 := Lib.hid hg9; have HB9 := Lib.hid (hB.out.trans hb9); clear hg9 hb9))
        go_roundw
        case rel => exact ⟨i + 1, by omega, by go_num, Lib.hid (by rw [hrs.out]; exact HG9.out), HB9⟩
        case measure => simp [intOf]; omega
      · obtain rfl : i = N := by omega
        go_wp2
        go_meet
        exact ⟨hgp, hB⟩
  case rest =>
    obtain ⟨HGP, HB0⟩ := hcut
    go_wp2
    go_loopw [3, 5, 6, 7] (fun v y _ _ wr => ∃ (l : List (Option Int)) (m b k : Nat), 1 ≤ m ∧ m ≤ N ∧ m ≤ k ∧ y = I ((m : Int)) ∧ Hid (l.length = b + m) ∧ b + m ≤ 2000 ∧ Hid (gen (fun m => m / 2) 2 k l b m = G) ∧ Hid (Gp w.heap.size wr v l) ∧ Hid (Below w.heap.size w wr)) (fun _ y _ _ _ => (intOf y).toNat)
    case atStart => exact ⟨List.replicate N none, N, 0, N, by omega, by omega, by omega, by first | rfl | (rw [hw]; rfl) | (rw [hw]), Lib.hid (by simp), by omega, HG, HGP, HB0⟩
    case round =>
      clear HGP HB0 HG
      obtain ⟨l, m, b, k, hm1, hmn, hmk, rfl, HLEN, hbm, HG, hgp, hB⟩ := hrel
      obtain ⟨k, rfl⟩ : ∃ k', k = k' + 1 := ⟨k - 1, by omega⟩
      obtain ⟨ga, gc, hga⟩ := hgp.out.shape
      subst hga
      have hg := HG.out
      rw [gen] at hg
      by_cases hz : m / 2 = 0
      · rw [if_pos hz] at hg
        have hz' := Lib.hid hg
        obtain rfl : m = 1 := by omega
        clear hz hg
        go_wp2
        go_ret
        exact ⟨_, rfl, by rw [← hz'.out]; exact hgp.out, hB.out⟩
      · rw [if_neg hz] at hg
        have HG2 := Lib.hid hg
        obtain ⟨m', hm'⟩ : ∃ m' : Nat, m' = m / 2 := ⟨_, rfl⟩
        have hlen2 : b + m + m' ≤ 2000 := by
          have h3 := gen_le (fun m => m / 2) 2 k (gr 2 l b (m / 2)) (b + m) (m / 2)
          rw [hg, gr_len, HLEN.out, ← hm'] at h3
          omega
        rw [← hm'] at HG2
        have hmk' : m' ≤ k := by omega
        have hm'1 : 1 ≤ m' := by omega
        have hm'm : m' < m := by omega
        have HMM := Lib.hid hm'
        try rw [hw]
        have he : (m : Int) / 2 = (m' : Int) := by omega
        have hm2 : (1 : Int) < m := by omega
        have hd0 : decide ((1 : Int) < (m : Int)) = true := decide_eq_true (by omega)
        have hd0n : decide (1 < m) = true := decide_eq_true (by omega)
        rw [HLEN.out]
        clear hz hg hm'
        go_wp2
        go_loopw [3, 7] (fun v x wr => ∃ j : Nat, j ≤ m' ∧ x = I j ∧ Hid (Gp w.heap.size wr v (gr 2 l b j)) ∧ Hid (Below w.heap.size w wr)) (fun _ x _ => m' - (intOf x).toNat)
        case atStart => exact ⟨0, by omega, rfl, Lib.hid (by rw [gr_zero]; first | exact hgp.out | (rw [← HLEN.out]; exact hgp.out)), hB⟩
        case round =>
          clear hgp hB
          obtain ⟨j, hj, rfl, hgp, hB⟩ := hrel
          by_cases hjm : j < m'
          · obtain ⟨ga, gc, hga⟩ := hgp.out.shape
            subst hga
            have hBs := hB.out.size
            have hgl : (gr 2 l b j).length ≤ 2000 := by rw [gr_len, HLEN.out]; omega
            have HGL := Lib.hid hgl
            have hu : (wr.alloc (.cells #[I ((b : Int) + 2 * j), I ((b : Int) + 2 * j + 1)] 3)).ownsRow w.heap.size 3 1 (.slice (some ⟨wr.heap.size, 0, none⟩) 2 2) 2 ((List.range 2).map fun c => I (((b : Int) + 2 * j) + (c : Nat))) := by
              have h := World.ownsRow_lit (base := w.heap.size) (e := 3) (size := 1) wr #[I ((b : Int) + 2 * j), I ((b : Int) + 2 * j + 1)] 2 hBs (by decide) rfl
              simpa [List.range_succ] using h
            have HU := Lib.hid hu
            have hb1 := Lib.hid (hB.out.alloc hBs (.cells #[I ((b : Int) + 2 * j), I ((b : Int) + 2 * j + 1)] 3))
            have hgs : Hid (gr 2 l b (j + 1) = gr 2 l b j ++ [some ((b : Int) + 2 * j)]) := Lib.hid (by rw [gr_succ])
            clear hgl hu
            go_wp2_with (first | (at_builtin; refine wpList_append_gp (q := some ((b : Int) + 2 * j)) rfl (.tmp 35) (.tmp 46) rfl rfl (hgp.out.alloc _) (by rw [World.size_alloc]; omega) (M := wr.heap.size + 1) (World.size_alloc _ _) rfl HU.out HGL.out ?_; intro v9 w9 hg9 hb9; have HG9 := Lib.hid hg9; have HB9 := Lib.hid (hb1.out.trans hb9); clear hg9 hb9))
            go_roundw
            case rel => exact ⟨j + 1, by omega, by go_num, Lib.hid (by rw [hgs.out]; exact HG9.out), HB9⟩
            case measure => simp [intOf]; omega
          · obtain rfl : j = m' := by omega
            go_wp2
            go_roundw
            case rel => exact ⟨gr 2 l b j, j, b + m, k, by omega, by omega, by omega, by first | rfl | (congr 1; omega) | (have := HMM.out; congr 1; omega), Lib.hid (by rw [gr_len, HLEN.out]), by omega, Lib.hid (by have := HG2.out; simpa using this), hgp, hB⟩
            case measure => simp [intOf]; omega
end Go.Proofs.Ytihpdmchppcbfaa
