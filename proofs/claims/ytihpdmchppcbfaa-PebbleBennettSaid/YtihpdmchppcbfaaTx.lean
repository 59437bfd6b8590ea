/- The rows of the program's graphs, and of the reference's. -/
import Derived.Test.YtihpdmchppcbfaaFe
namespace Go.Proofs.Ytihpdmchppcbfaa
open Go.RowKit
set_option linter.unusedVariables false
set_option linter.unusedSimpArgs false

def Gps (w : World) (l : List (Option Int)) (e : Ending) (w' : World) : Prop := ∃ v, e = .returned v ∧ Gp w.heap.size w' v l ∧ Below w.heap.size w w'
theorem next33 (m : Nat) (hm : m ≤ 1000) (w : World) : Calls Try.prog 33 #[I m] w fun e w' => e = .returned (I ((m : Int) - 1)) ∧ w = w' := by
  go_enter Try.func33, Try.ntmps33
  go_wp2
  go_ret
  exact ⟨rfl, rfl⟩
theorem next34 (m : Nat) (hm : m ≤ 1000) (w : World) : Calls Try.prog 34 #[I m] w fun e w' => e = .returned (I ((m / 2 : Nat) : Int)) ∧ w = w' := by
  go_enter Try.func34, Try.ntmps34
  go_wp2
  go_ret
  exact ⟨rfl, rfl⟩
theorem made_gp {w : World} {n : Nat} (hn : n ≤ 1000) : Gp w.heap.size (w.alloc (.cells (madeCells #[.slice none 0 0] n) 56)) (.slice (some ⟨w.heap.size, 0, none⟩) n n) (List.replicate n none) := by
  have hg : ∀ r, r < n → (List.replicate n (none : Option Int)).getD r none = none := fun r hr => by simp [List.getD, hr]
  have h := Cp.made (w := w) (n := n) (by unfold maxLen; omega) (Lg (List.replicate n none)) (fun r hr => by unfold Lg; rw [hg r hr]; rfl) (Zg (List.replicate n none))
  exact ⟨fun _ => .slice none 0 0, by rw [List.length_replicate]; exact h⟩

set_option maxHeartbeats 8000000 in
set_option maxRecDepth 100000 in
theorem rows33_any {w : World} (n : Nat) (h1 : 1 ≤ n) (h2 : n ≤ 1000) {G : List (Option Int)} (hG : gen (fun m => m - 1) 1 n (List.replicate n none) 0 n = G) (hGl : G.length ≤ 2000) : Calls Try.prog 32 #[I n, I 1, .func (.func 33) #[] #[]] w (Gps w G) := by
  have hmk := run_make_row' (P := Try.prog) 23 56 (.slice none 0 0) 24 Try.underlying23 Try.info56 rfl .i64 .i64 n (by omega) (by omega)
  have HGP := Lib.hid (made_gp (w := w) h2)
  have HB0 : Hid (Below w.heap.size w (w.alloc (.cells (madeCells #[.slice none 0 0] n) 56))) := Lib.hid ((Below.refl _ _).alloc (Nat.le_refl _) _)
  have HG := Lib.hid hG
  clear hG
  go_enter Try.func32, Try.ntmps32
  go_wp2
  go_loopw [0, 7, 8, 9, 10, 20, 21] (fun x v y _ _ _ _ wr => ∃ (l : List (Option Int)) (m b k : Nat), 1 ≤ m ∧ m ≤ n ∧ m ≤ k ∧ x = I m ∧ y = I b ∧ Hid (l.length = b + m) ∧ b + m ≤ 2000 ∧ Hid (gen (fun m => m - 1) 1 k l b m = G) ∧ Hid (Gp w.heap.size wr v l) ∧ Hid (Below w.heap.size w wr)) (fun x _ _ _ _ _ _ _ => (intOf x).toNat)
  case atStart => exact ⟨List.replicate n none, n, 0, n, h1, by omega, by omega, rfl, rfl, Lib.hid (by simp), by omega, HG, HGP, HB0⟩
  case round =>
    clear HGP HB0 hmk HG
    obtain ⟨l, m, b, k, hm1, hmn, hmk, rfl, rfl, HLEN, hbm, HG, hgp, hB⟩ := hrel
    obtain ⟨k, rfl⟩ : ∃ k', k = k' + 1 := ⟨k - 1, by omega⟩
    have HN := Lib.hid (fun (w : World) => next33 m (by omega) w)
    have hg := HG.out
    rw [gen] at hg
    by_cases hz : m - 1 = 0
    · rw [if_pos hz] at hg
      have hz' := Lib.hid hg
      obtain rfl : m = 1 := by omega
      clear hz hg
      go_wp2_with (go_at_call 33; refine (HN.out _).mono ?_; rintro e w1 ⟨rfl, rfl⟩)
      go_ret
      exact ⟨_, rfl, by rw [← hz'.out]; exact hgp.out, hB.out⟩
    · rw [if_neg hz] at hg
      have HG2 := Lib.hid hg
      obtain ⟨m', hm'⟩ : ∃ m' : Nat, m' = m - 1 := ⟨_, rfl⟩
      have hne : m ≠ 1 := by omega
      have hlen2 : b + m + m' ≤ 2000 := by
        have h3 := gen_le (fun m => m - 1) 1 k (gr 1 l b (m - 1)) (b + m) (m - 1)
        rw [hg, gr_len, HLEN.out, ← hm'] at h3
        omega
      rw [← hm'] at HG2
      have hmk' : m' ≤ k := by omega
      have hm'1 : 1 ≤ m' := by omega
      have hm'm : m' < m := by omega
      have he : (m : Int) - 1 = (m' : Int) := by omega
      rw [he] at HN
      clear he
      have HMM := Lib.hid hm'
      clear hz hg hm'
      go_wp2_with (go_at_call 33; refine (HN.out _).mono ?_; rintro e w1 ⟨rfl, rfl⟩)
      go_loopw [7, 10, 21] (fun v _ x wr => ∃ j : Nat, j ≤ m' ∧ x = I j ∧ Hid (Gp w.heap.size wr v (gr 1 l b j)) ∧ Hid (Below w.heap.size w wr)) (fun _ _ x _ => m' - (intOf x).toNat)
      case atStart => exact ⟨0, by omega, rfl, Lib.hid (by rw [gr_zero]; exact hgp.out), hB⟩
      case round =>
        clear hgp hB
        obtain ⟨j, hj, rfl, hgp, hB⟩ := hrel
        by_cases hjm : j < m'
        · obtain ⟨ga, gc, rfl⟩ := hgp.out.shape
          have hBs := hB.out.size
          have hgl : (gr 1 l b j).length ≤ 2000 := by rw [gr_len, HLEN.out]; omega
          have HGL := Lib.hid hgl
          have hu : (wr.alloc (.cells #[I ((b : Int) + j), I ((b : Int) + j + 1)] 3)).ownsRow w.heap.size 3 1 (.slice (some ⟨wr.heap.size, 0, none⟩) 2 2) 2 ((List.range 2).map fun c => I (((b : Int) + j) + (c : Nat))) := by
            have h := World.ownsRow_lit (base := w.heap.size) (e := 3) (size := 1) wr #[I ((b : Int) + j), I ((b : Int) + j + 1)] 2 hBs (by decide) rfl
            simpa [List.range_succ] using h
          have HU := Lib.hid hu
          have hb1 := Lib.hid (hB.out.alloc hBs (.cells #[I ((b : Int) + j), I ((b : Int) + j + 1)] 3))
          have hgs : Hid (gr 1 l b (j + 1) = gr 1 l b j ++ [some ((b : Int) + j)]) := Lib.hid (by rw [gr_succ]; rw [Int.one_mul])
          clear hgl hu
          go_wp2_with (first | (at_builtin; refine wpList_append_gp (q := some ((b : Int) + j)) rfl (.tmp 24) (.tmp 37) rfl rfl (hgp.out.alloc _) (by rw [World.size_alloc]; omega) (M := wr.heap.size + 1) (World.size_alloc _ _) rfl HU.out HGL.out ?_; intro v9 w9 hg9 hb9; have HG9 := Lib.hid hg9; have HB9 := Lib.hid (hb1.out.trans hb9); clear hg9 hb9))
          go_roundw
          case rel => exact ⟨j + 1, by omega, by go_num, Lib.hid (by rw [hgs.out]; exact HG9.out), HB9⟩
          case measure => simp [intOf]; omega
        · obtain rfl : j = m' := by omega
          go_wp2
          go_roundw
          case rel => exact ⟨gr 1 l b j, j, b + m, k, by omega, by omega, by omega, rfl, by go_num, Lib.hid (by rw [gr_len, HLEN.out]), by omega, Lib.hid (by have := HG2.out; simpa using this), hgp, hB⟩
          case measure => simp [intOf]; omega

set_option maxHeartbeats 8000000 in
set_option maxRecDepth 100000 in
theorem rows34_any {w : World} (n : Nat) (h1 : 1 ≤ n) (h2 : n ≤ 1000) {G : List (Option Int)} (hG : gen (fun m => m / 2) 2 n (List.replicate n none) 0 n = G) (hGl : G.length ≤ 2000) : Calls Try.prog 32 #[I n, I 2, .func (.func 34) #[] #[]] w (Gps w G) := by
  have hmk := run_make_row' (P := Try.prog) 23 56 (.slice none 0 0) 24 Try.underlying23 Try.info56 rfl .i64 .i64 n (by omega) (by omega)
  have HGP := Lib.hid (made_gp (w := w) h2)
  have HB0 : Hid (Below w.heap.size w (w.alloc (.cells (madeCells #[.slice none 0 0] n) 56))) := Lib.hid ((Below.refl _ _).alloc (Nat.le_refl _) _)
  have HG := Lib.hid hG
  clear hG
  go_enter Try.func32, Try.ntmps32
  go_wp2
  go_loopw [0, 7, 8, 9, 10, 20, 21] (fun x v y _ _ _ _ wr => ∃ (l : List (Option Int)) (m b k : Nat), 1 ≤ m ∧ m ≤ n ∧ m ≤ k ∧ x = I m ∧ y = I b ∧ Hid (l.length = b + m) ∧ b + m ≤ 2000 ∧ Hid (gen (fun m => m / 2) 2 k l b m = G) ∧ Hid (Gp w.heap.size wr v l) ∧ Hid (Below w.heap.size w wr)) (fun x _ _ _ _ _ _ _ => (intOf x).toNat)
  case atStart => exact ⟨List.replicate n none, n, 0, n, h1, by omega, by omega, rfl, rfl, Lib.hid (by simp), by omega, HG, HGP, HB0⟩
  case round =>
    clear HGP HB0 hmk HG
    obtain ⟨l, m, b, k, hm1, hmn, hmk, rfl, rfl, HLEN, hbm, HG, hgp, hB⟩ := hrel
    obtain ⟨k, rfl⟩ : ∃ k', k = k' + 1 := ⟨k - 1, by omega⟩
    have HN := Lib.hid (fun (w : World) => next34 m (by omega) w)
    have hg := HG.out
    rw [gen] at hg
    by_cases hz : m / 2 = 0
    · rw [if_pos hz] at hg
      have hz' := Lib.hid hg
      rw [hz] at HN
      clear hz hg
      go_wp2_with (go_at_call 34; refine (HN.out _).mono ?_; rintro e w1 ⟨rfl, rfl⟩)
      go_ret
      exact ⟨_, rfl, by rw [← hz'.out]; exact hgp.out, hB.out⟩
    · rw [if_neg hz] at hg
      have HG2 := Lib.hid hg
      obtain ⟨m', hm'⟩ : ∃ m' : Nat, m' = m / 2 := ⟨_, rfl⟩
      have hne : m ≠ 1 := by omega
      have hlen2 : b + m + m' ≤ 2000 := by
        have h3 := gen_le (fun m => m / 2) 2 k (gr 2 l b (m / 2)) (b + m) (m / 2)
        rw [hg, gr_len, HLEN.out, ← hm'] at h3
        omega
      rw [← hm'] at HG2
      have hmk' : m' ≤ k := by omega
      have hm'1 : 1 ≤ m' := by omega
      have hm'm : m' < m := by omega
      rw [← hm'] at HN
      have HMM := Lib.hid hm'
      clear hz hg hm'
      go_wp2_with (go_at_call 34; refine (HN.out _).mono ?_; rintro e w1 ⟨rfl, rfl⟩)
      go_loopw [7, 10, 21] (fun v _ x wr => ∃ j : Nat, j ≤ m' ∧ x = I j ∧ Hid (Gp w.heap.size wr v (gr 2 l b j)) ∧ Hid (Below w.heap.size w wr)) (fun _ _ x _ => m' - (intOf x).toNat)
      case atStart => exact ⟨0, by omega, rfl, Lib.hid (by rw [gr_zero]; exact hgp.out), hB⟩
      case round =>
        clear hgp hB
        obtain ⟨j, hj, rfl, hgp, hB⟩ := hrel
        by_cases hjm : j < m'
        · obtain ⟨ga, gc, rfl⟩ := hgp.out.shape
          have hBs := hB.out.size
          have hgl : (gr 2 l b j).length ≤ 2000 := by rw [gr_len, HLEN.out]; omega
          have HGL := Lib.hid hgl
          have hu : (wr.alloc (.cells #[I ((b : Int) + 2 * j), I ((b : Int) + 2 * j + 1)] 3)).ownsRow w.heap.size 3 1 (.slice (some ⟨wr.heap.size, 0, none⟩) 2 2) 2 ((List.range 2).map fun c => I (((b : Int) + 2 * j) + (c : Nat))) := by
            have h := World.ownsRow_lit (base := w.heap.size) (e := 3) (size := 1) wr #[I ((b : Int) + 2 * j), I ((b : Int) + 2 * j + 1)] 2 hBs (by decide) rfl
            simpa [List.range_succ] using h
          have HU := Lib.hid hu
          have hb1 := Lib.hid (hB.out.alloc hBs (.cells #[I ((b : Int) + 2 * j), I ((b : Int) + 2 * j + 1)] 3))
          have hgs : Hid (gr 2 l b (j + 1) = gr 2 l b j ++ [some ((b : Int) + 2 * j)]) := Lib.hid (by rw [gr_succ])
          clear hgl hu
          go_wp2_with (first | (at_builtin; refine wpList_append_gp (q := some ((b : Int) + 2 * j)) rfl (.tmp 24) (.tmp 37) rfl rfl (hgp.out.alloc _) (by rw [World.size_alloc]; omega) (M := wr.heap.size + 1) (World.size_alloc _ _) rfl HU.out HGL.out ?_; intro v9 w9 hg9 hb9; have HG9 := Lib.hid hg9; have HB9 := Lib.hid (hb1.out.trans hb9); clear hg9 hb9))
          go_roundw
          case rel => exact ⟨j + 1, by omega, by go_num, Lib.hid (by rw [hgs.out]; exact HG9.out), HB9⟩
          case measure => simp [intOf]; omega
        · obtain rfl : j = m' := by omega
          go_wp2
          go_roundw
          case rel => exact ⟨gr 2 l b j, j, b + m, k, by omega, by omega, by omega, rfl, by go_num, Lib.hid (by rw [gr_len, HLEN.out]), by omega, Lib.hid (by have := HG2.out; simpa using this), hgp, hB⟩
          case measure => simp [intOf]; omega
end Go.Proofs.Ytihpdmchppcbfaa
