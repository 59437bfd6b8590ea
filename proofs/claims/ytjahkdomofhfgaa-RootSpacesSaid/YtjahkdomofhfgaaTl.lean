/- Whether a machine is valid, by the reference. -/
import Derived.Test.YtjahkdomofhfgaaTk
namespace Go.Proofs.Ytjahkdomofhfgaa
open Go.RowKit
set_option linter.unusedVariables false
set_option linter.unusedSimpArgs false

def okEnds (S F G : Int) : Prop := 0 ≤ F ∧ F < S ∧ F ≠ 1 ∧ F ≠ 2 ∧ 0 ≤ G ∧ G < S
instance (S F G : Int) : Decidable (okEnds S F G) := by unfold okEnds; infer_instance
def okRule (S Y T : Int) (F G : Nat → Int) (L : Nat → Nat → Nat) (Z : Nat → Nat → Nat → Int) (i : Nat) : Prop :=
  okEnds S (F i) (G i) ∧ inB (L i 0) (Z i 0) T 0 (Y - 1) ∧ inB (L i 1) (Z i 1) T 0 (Y - 1) ∧ inB (L i 2) (Z i 2) T (-1) 1
def sameKey (F : Nat → Int) (L : Nat → Nat → Nat) (Z : Nat → Nat → Nat → Int) (k i : Nat) : Prop := F k = F i ∧ eqL (L k 0) (L i 0) (Z k 0) (Z i 0)
def okHead (S Y T : Int) : Prop := 3 ≤ S ∧ S ≤ 64 ∧ 2 ≤ Y ∧ Y ≤ 8 ∧ 1 ≤ T ∧ T ≤ 3
instance (S Y T : Int) : Decidable (okHead S Y T) := by unfold okHead; infer_instance
def okM (S Y T : Int) (n : Nat) (F G : Nat → Int) (L : Nat → Nat → Nat) (Z : Nat → Nat → Nat → Int) : Prop :=
  okHead S Y T ∧ ∀ i, i < n → okRule S Y T F G L Z i ∧ ∀ k, k < i → ¬ sameKey F L Z k i

/-- a rule's box at block N -/
structure Rx (N : Nat) (W : World) (F G : Int) (a0 a1 a2 : Option Addr) (L0 C0 L1 C1 L2 C2 : Nat) : Prop where
  c0 : W.cell? ⟨N, 0, none⟩ = some (I F)
  c1 : W.cell? ⟨N, 1, none⟩ = some (.slice a0 L0 C0)
  c2 : W.cell? ⟨N, 2, none⟩ = some (I G)
  c3 : W.cell? ⟨N, 3, none⟩ = some (.slice a1 L1 C1)
  c4 : W.cell? ⟨N, 4, none⟩ = some (.slice a2 L2 C2)
theorem Rx.keep {N : Nat} {W w' : World} {F G : Int} {a0 a1 a2 : Option Addr} {L0 C0 L1 C1 L2 C2 : Nat} (h : Rx N W F G a0 a1 a2 L0 C0 L1 C1 L2 C2) (hb : Below W.heap.size W w') : Rx N w' F G a0 a1 a2 L0 C0 L1 C1 L2 C2 :=
  ⟨below_cell (B := 0) hb h.c0, below_cell (B := 0) hb h.c1, below_cell (B := 0) hb h.c2, below_cell (B := 0) hb h.c3, below_cell (B := 0) hb h.c4⟩
theorem box5 (w : World) (F G : Int) (a0 a1 a2 : Option Addr) (L0 C0 L1 C1 L2 C2 : Nat) : Rx w.heap.size (w.alloc (Obj.cells #[I F, .slice a0 L0 C0, I G, .slice a1 L1 C1, .slice a2 L2 C2] 48)) F G a0 a1 a2 L0 C0 L1 C1 L2 C2 ∧ Below w.heap.size w (w.alloc (Obj.cells #[I F, .slice a0 L0 C0, I G, .slice a1 L1 C1, .slice a2 L2 C2] 48)) :=
  ⟨⟨by simp [go_sem], by simp [go_sem], by simp [go_sem], by simp [go_sem], by simp [go_sem]⟩, (Below.refl _ _).alloc (Nat.le_refl _) _⟩

set_option maxHeartbeats 16000000 in
set_option maxRecDepth 100000 in
theorem mvalid_any {w : World} {S Y T : Int} {v : Value} {n : Nat} {F G : Nat → Int} {A : Nat → Nat → Option Addr} {L C : Nat → Nat → Nat} {Z : Nat → Nat → Nat → Int} (hd : Mg w v n F G A L C Z) {b : Bool} (hb : b = true ↔ okM S Y T n F G L Z) : Calls Try.prog 11 #[M4 S Y T v] w fun e w' => e = .returned (.bool b) ∧ Below w.heap.size w w' := by
  have Hb := Lib.hid hb
  have Hd := Lib.hid hd
  have hsm := hd.small
  obtain ⟨a, cap, rfl⟩ := hd.len
  clear hb hd
  go_enter Try.func11, Try.ntmps11
  go_upto_region 1 with fail
  obtain ⟨W, hW⟩ : ∃ W, W = w.alloc (Obj.cells #[I S, I Y, I T, Value.slice a n cap] 35) := ⟨_, rfl⟩
  have hbx := (box4 w S Y T (Value.slice a n cap)).1
  have hB0 := (box4 w S Y T (Value.slice a n cap)).2
  rw [← hW] at hbx hB0 ⊢
  have HM := Lib.hid (Hd.out.keep hB0)
  have HX := Lib.hid hbx
  have HB0 := Lib.hid hB0
  clear hW hB0 hbx
  go_cut [33] from 6 to 33 (fun x wr => (∃ r : Bool, r = !decide (okHead S Y T) ∧ x = .bool r) ∧ wr = W)
  case first =>
    have x0 := HX.out.c0
    have x1 := HX.out.c1
    have x2 := HX.out.c2
    by_cases q0 : S < 3
    · have d0 : decide (S < 3) = true := decide_eq_true q0
      go_wp2_with fail
      go_meet
      exact ⟨⟨_, by rw [decide_eq_false (show ¬ okHead S Y T by unfold okHead; omega)]; rfl, rfl⟩, rfl⟩
    · have d0 : decide (S < 3) = false := decide_eq_false q0
      by_cases q1 : 64 < S
      · have d1 : decide (64 < S) = true := decide_eq_true q1
        go_wp2_with fail
        go_meet
        exact ⟨⟨_, by rw [decide_eq_false (show ¬ okHead S Y T by unfold okHead; omega)]; rfl, rfl⟩, rfl⟩
      · have d1 : decide (64 < S) = false := decide_eq_false q1
        by_cases q2 : Y < 2
        · have d2 : decide (Y < 2) = true := decide_eq_true q2
          go_wp2_with fail
          go_meet
          exact ⟨⟨_, by rw [decide_eq_false (show ¬ okHead S Y T by unfold okHead; omega)]; rfl, rfl⟩, rfl⟩
        · have d2 : decide (Y < 2) = false := decide_eq_false q2
          by_cases q3 : 8 < Y
          · have d3 : decide (8 < Y) = true := decide_eq_true q3
            go_wp2_with fail
            go_meet
            exact ⟨⟨_, by rw [decide_eq_false (show ¬ okHead S Y T by unfold okHead; omega)]; rfl, rfl⟩, rfl⟩
          · have d3 : decide (8 < Y) = false := decide_eq_false q3
            by_cases q4 : T < 1
            · have d4 : decide (T < 1) = true := decide_eq_true q4
              go_wp2_with fail
              go_meet
              exact ⟨⟨_, by rw [decide_eq_false (show ¬ okHead S Y T by unfold okHead; omega)]; rfl, rfl⟩, rfl⟩
            · have d4 : decide (T < 1) = false := decide_eq_false q4
              by_cases q5 : 3 < T
              · have d5 : decide (3 < T) = true := decide_eq_true q5
                go_wp2_with fail
                go_meet
                exact ⟨⟨_, by rw [decide_eq_false (show ¬ okHead S Y T by unfold okHead; omega)]; rfl, rfl⟩, rfl⟩
              · have d5 : decide (3 < T) = false := decide_eq_false q5
                go_wp2_with fail
                go_meet
                exact ⟨⟨_, by rw [decide_eq_true (show okHead S Y T by unfold okHead; omega)]; rfl, rfl⟩, rfl⟩
  case rest =>
    obtain ⟨⟨r, hrr, rfl⟩, rfl⟩ := hcut
    by_cases hh : okHead S Y T
    · obtain rfl : r = false := by rw [hrr, decide_eq_true hh]; rfl
      have Hh := Lib.hid hh
      have hS : 3 ≤ S ∧ S ≤ 64 ∧ 2 ≤ Y ∧ Y ≤ 8 ∧ 1 ≤ T ∧ T ≤ 3 := hh
      clear hrr hh
      go_wp2
      go_loopw [3, 4, 5] (fun x _ _ wr => ∃ k : Nat, k ≤ n ∧ Hid (∀ i, i < k → okRule S Y T F G L Z i ∧ ∀ k, k < i → ¬ sameKey F L Z k i) ∧ x = I k ∧ Below wc.heap.size wc wr) (fun x _ _ _ => n - (intOf x).toNat)
      case atStart => exact ⟨0, by omega, Lib.hid (fun r hr => by omega), rfl, Below.refl _ _⟩
      case round =>
        obtain ⟨k, hk, HK, rfl, hB⟩ := hrel
        have hx := HX.out.keep hB
        have x0 := hx.c0
        have x1 := hx.c1
        have x2 := hx.c2
        have x3 := hx.c3
        have hX := Lib.hid hx
        clear hx
        by_cases hkn : k < n
        · have hM := Lib.hid (HM.out.keep hB)
          obtain ⟨B, O, rfl⟩ := hM.out.base (by omega)
          obtain ⟨c0, c1, c2, c3, c4⟩ := hM.out.rule hkn
          go_upto_region 7 with fail
          obtain ⟨W2, hW2⟩ : ∃ W2, W2 = wr.alloc (Obj.cells #[I (F k), .slice (A k 0) (L k 0) (C k 0), I (G k), .slice (A k 1) (L k 1) (C k 1), .slice (A k 2) (L k 2) (C k 2)] 48) := ⟨_, rfl⟩
          have hr2 := (box5 wr (F k) (G k) (A k 0) (A k 1) (A k 2) (L k 0) (C k 0) (L k 1) (C k 1) (L k 2) (C k 2)).1
          have hB2 := (box5 wr (F k) (G k) (A k 0) (A k 1) (A k 2) (L k 0) (C k 0) (L k 1) (C k 1) (L k 2) (C k 2)).2
          rw [← hW2] at hr2 hB2 ⊢
          have HR := Lib.hid hr2
          have HB2 := Lib.hid hB2
          have HM2 := Lib.hid (hM.out.keep hB2)
          have HX2 := Lib.hid (hX.out.keep hB2)
          have HB1 := Lib.hid (hB.trans (hB2.mono hB.size))
          clear hW2 hr2 hB2 c0 c1 c2 c3 c4 x0 x1 x2 x3 hM hX hB
          have hF := Hb
          go_cut [77] from 34 to 130 (fun x w' => (∃ r : Bool, r = !decide (okEnds S (F k) (G k)) ∧ x = .bool r) ∧ w' = W2)
          case first =>
            have x0 := HX2.out.c0
            have r0 := HR.out.c0
            have r2 := HR.out.c2
            generalize F k = f at *
            generalize G k = g at *
            by_cases q0 : f < 0
            · have d0 : decide (f < 0) = true := decide_eq_true q0
              go_wp2_with fail
              go_meet
              exact ⟨⟨_, by rw [decide_eq_false (show ¬ okEnds S f g by unfold okEnds; omega)]; rfl, rfl⟩, rfl⟩
            · have d0 : decide (f < 0) = false := decide_eq_false q0
              by_cases q1 : S ≤ f
              · have d1 : decide (S ≤ f) = true := decide_eq_true q1
                go_wp2_with fail
                go_meet
                exact ⟨⟨_, by rw [decide_eq_false (show ¬ okEnds S f g by unfold okEnds; omega)]; rfl, rfl⟩, rfl⟩
              · have d1 : decide (S ≤ f) = false := decide_eq_false q1
                by_cases q2 : f = 1
                · have d2 : (f == 1) = true := by simp [q2]
                  go_wp2_with fail
                  go_meet
                  exact ⟨⟨_, by rw [decide_eq_false (show ¬ okEnds S f g by unfold okEnds; omega)]; rfl, rfl⟩, rfl⟩
                · have d2 : (f == 1) = false := by simp [q2]
                  by_cases q3 : f = 2
                  · have d3 : (f == 2) = true := by simp [q3]
                    go_wp2_with fail
                    go_meet
                    exact ⟨⟨_, by rw [decide_eq_false (show ¬ okEnds S f g by unfold okEnds; omega)]; rfl, rfl⟩, rfl⟩
                  · have d3 : (f == 2) = false := by simp [q3]
                    by_cases q4 : g < 0
                    · have d4 : decide (g < 0) = true := decide_eq_true q4
                      go_wp2_with fail
                      go_meet
                      exact ⟨⟨_, by rw [decide_eq_false (show ¬ okEnds S f g by unfold okEnds; omega)]; rfl, rfl⟩, rfl⟩
                    · have d4 : decide (g < 0) = false := decide_eq_false q4
                      by_cases q5 : S ≤ g
                      · have d5 : decide (S ≤ g) = true := decide_eq_true q5
                        go_wp2_with fail
                        go_meet
                        exact ⟨⟨_, by rw [decide_eq_false (show ¬ okEnds S f g by unfold okEnds; omega)]; rfl, rfl⟩, rfl⟩
                      · have d5 : decide (S ≤ g) = false := decide_eq_false q5
                        go_wp2_with fail
                        go_meet
                        exact ⟨⟨_, by rw [decide_eq_true (show okEnds S f g by unfold okEnds; omega)]; rfl, rfl⟩, rfl⟩
          case rest =>
            obtain ⟨⟨r, hrr, rfl⟩, rfl⟩ := hcut
            by_cases ho : okEnds S (F k) (G k)
            · obtain rfl : r = false := by rw [hrr, decide_eq_true ho]; rfl
              have Ho := Lib.hid ho
              clear hrr ho
              have x1 := HX2.out.c1
              have x2 := HX2.out.c2
              have r1 := HR.out.c1
              have r3 := HR.out.c3
              have r4 := HR.out.c4
              by_cases i0 : (inB (L k 0) (Z k 0) T 0 (Y - 1))
              · by_cases i1 : (inB (L k 1) (Z k 1) T 0 (Y - 1))
                · by_cases i2 : (inB (L k 2) (Z k 2) T (-1) 1)
                  · have HW0 := Lib.hid (fun (_ : Unit) => within_any (C := C k 0) (HM2.out.sl hkn (q := 0) (by omega)) T 0 (Y - 1) (b := true) (by simp [i0]))
                    have HW1 := Lib.hid (fun (_ : Unit) => within_any (C := C k 1) (HM2.out.sl hkn (q := 1) (by omega)) T 0 (Y - 1) (b := true) (by simp [i1]))
                    have HW2 := Lib.hid (fun (_ : Unit) => within_any (C := C k 2) (HM2.out.sl hkn (q := 2) (by omega)) T (-1) 1 (b := true) (by simp [i2]))
                    have I0 := Lib.hid i0
                    have I1 := Lib.hid i1
                    have I2 := Lib.hid i2
                    clear i0 i1 i2 hF
                    go_wp2_with (first | (go_at_call 18; (with_reducible refine (HW0.out ()).mono ?_); rintro e w' ⟨rfl, rfl⟩) | (go_at_call 18; (with_reducible refine (HW1.out ()).mono ?_); rintro e w' ⟨rfl, rfl⟩) | (go_at_call 18; (with_reducible refine (HW2.out ()).mono ?_); rintro e w' ⟨rfl, rfl⟩))
                    clear x1 x2 r1 r3 r4 HW0 HW1 HW2
                    go_loopw [5] (fun x wi => ∃ j : Nat, j ≤ k ∧ Hid (∀ m, m < j → ¬ sameKey F L Z m k) ∧ x = I j ∧ Below wc.heap.size wc wi) (fun x _ => k - (intOf x).toNat)
                    case atStart => exact ⟨0, by omega, Lib.hid (fun r hr => by omega), rfl, Below.refl _ _⟩
                    case round =>
                      obtain ⟨j, hj, HJ, rfl, hBi⟩ := hrel
                      by_cases hjk : j < k
                      · have x3 := (HX2.out.keep hBi).c3
                        have r0 := (HR.out.keep hBi).c0
                        have r1 := (HR.out.keep hBi).c1
                        have hM3 := Lib.hid (HM2.out.keep hBi)
                        obtain ⟨c0, c1, -, -, -⟩ := hM3.out.rule (r := j) (by omega)
                        by_cases e0 : F j = F k
                        · have de : (F j == F k) = true := by simp [e0]
                          by_cases e1 : eqL (L j 0) (L k 0) (Z j 0) (Z k 0)
                          · have hf : b = false := by
                              cases b with
                              | false => rfl
                              | true => exact absurd ⟨e0, e1⟩ (((Hb.out.1 rfl).2 k hkn).2 j hjk)
                            have HE := Lib.hid (fun m' => equal_any (C := C j 0) (C' := C k 0) ((hM3.out.sl (r := j) (by omega) (q := 0) (by omega)).keep (below_drewN (Below.refl _ _) m')) ((hM3.out.sl hkn (q := 0) (by omega)).keep (below_drewN (Below.refl _ _) m')) (b := true) (by simp [e1]))
                            subst hf
                            clear e0 e1 Hb
                            generalize F j = f at *
                            generalize F k = g at *
                            go_wp2
                            go_quiet (first | (go_at_call 19; refine Calls.quiet_of (HE.out _)))
                            go_wp2
                            go_ret
                            exact ⟨rfl, below_drewN (HB0.out.trans ((HB1.out.trans (hBi.mono HB1.out.size)).mono HB0.out.size)) _⟩
                          · have HE := Lib.hid (fun m' => equal_any (C := C j 0) (C' := C k 0) ((hM3.out.sl (r := j) (by omega) (q := 0) (by omega)).keep (below_drewN (Below.refl _ _) m')) ((hM3.out.sl hkn (q := 0) (by omega)).keep (below_drewN (Below.refl _ _) m')) (b := false) (by simp [e1]))
                            have E1 := Lib.hid e1
                            clear e0 e1
                            go_wp2
                            go_quiet (first | (go_at_call 19; refine Calls.quiet_of (HE.out _)))
                            go_wp2
                            go_roundw
                            case rel => exact ⟨j + 1, by omega, Lib.hid (fun m hm => by
                              rcases Nat.lt_or_ge m j with hl | hl
                              · exact HJ.out m hl
                              · obtain rfl : m = j := by omega
                                exact fun h => E1.out h.2), by go_num, below_drewN hBi _⟩
                            case measure => simp [intOf]; omega
                        · have de : (F j == F k) = false := by simp [e0]
                          have E0 := Lib.hid e0
                          clear e0
                          go_wp2
                          go_quiet (fail)
                          go_wp2
                          go_roundw
                          case rel => exact ⟨j + 1, by omega, Lib.hid (fun m hm => by
                            rcases Nat.lt_or_ge m j with hl | hl
                            · exact HJ.out m hl
                            · obtain rfl : m = j := by omega
                              exact fun h => E0.out h.1), by go_num, below_drewN hBi _⟩
                          case measure => simp [intOf]; omega
                      · obtain rfl : j = k := by omega
                        go_wp2
                        go_roundw
                        case rel => exact ⟨j + 1, by omega, Lib.hid (fun i hi => by
                          rcases Nat.lt_or_ge i j with hl | hl
                          · exact HK.out i hl
                          · obtain rfl : i = j := by omega
                            exact ⟨⟨Ho.out, I0.out, I1.out, I2.out⟩, HJ.out⟩), by go_num, HB1.out.trans (hBi.mono HB1.out.size)⟩
                        case measure => simp [intOf]; omega
                  · have HW0 := Lib.hid (fun (_ : Unit) => within_any (C := C k 0) (HM2.out.sl hkn (q := 0) (by omega)) T 0 (Y - 1) (b := true) (by simp [i0]))
                    have HW1 := Lib.hid (fun (_ : Unit) => within_any (C := C k 1) (HM2.out.sl hkn (q := 1) (by omega)) T 0 (Y - 1) (b := true) (by simp [i1]))
                    have HW2 := Lib.hid (fun (_ : Unit) => within_any (C := C k 2) (HM2.out.sl hkn (q := 2) (by omega)) T (-1) 1 (b := false) (by simp [i2]))
                    have hf : b = false := by
                      cases b with
                      | false => rfl
                      | true => exact absurd (((Hb.out.1 rfl).2 k hkn).1.2.2.2) i2
                    subst hf
                    clear Hb hF
                    go_wp2_with (first | (go_at_call 18; (with_reducible refine (HW0.out ()).mono ?_); rintro e w' ⟨rfl, rfl⟩) | (go_at_call 18; (with_reducible refine (HW1.out ()).mono ?_); rintro e w' ⟨rfl, rfl⟩) | (go_at_call 18; (with_reducible refine (HW2.out ()).mono ?_); rintro e w' ⟨rfl, rfl⟩))
                    go_ret
                    exact ⟨rfl, HB0.out.trans (HB1.out.mono HB0.out.size)⟩
                · have HW0 := Lib.hid (fun (_ : Unit) => within_any (C := C k 0) (HM2.out.sl hkn (q := 0) (by omega)) T 0 (Y - 1) (b := true) (by simp [i0]))
                  have HW1 := Lib.hid (fun (_ : Unit) => within_any (C := C k 1) (HM2.out.sl hkn (q := 1) (by omega)) T 0 (Y - 1) (b := false) (by simp [i1]))
                  have hf : b = false := by
                    cases b with
                    | false => rfl
                    | true => exact absurd (((Hb.out.1 rfl).2 k hkn).1.2.2.1) i1
                  subst hf
                  clear Hb hF
                  go_wp2_with (first | (go_at_call 18; (with_reducible refine (HW0.out ()).mono ?_); rintro e w' ⟨rfl, rfl⟩) | (go_at_call 18; (with_reducible refine (HW1.out ()).mono ?_); rintro e w' ⟨rfl, rfl⟩))
                  go_ret
                  exact ⟨rfl, HB0.out.trans (HB1.out.mono HB0.out.size)⟩
              · have HW0 := Lib.hid (fun (_ : Unit) => within_any (C := C k 0) (HM2.out.sl hkn (q := 0) (by omega)) T 0 (Y - 1) (b := false) (by simp [i0]))
                have hf : b = false := by
                  cases b with
                  | false => rfl
                  | true => exact absurd (((Hb.out.1 rfl).2 k hkn).1.2.1) i0
                subst hf
                clear Hb hF
                go_wp2_with (first | (go_at_call 18; (with_reducible refine (HW0.out ()).mono ?_); rintro e w' ⟨rfl, rfl⟩))
                go_ret
                exact ⟨rfl, HB0.out.trans (HB1.out.mono HB0.out.size)⟩
            · obtain rfl : r = true := by rw [hrr, decide_eq_false ho]; rfl
              have hf : b = false := by
                cases b with
                | false => rfl
                | true => exact absurd (((Hb.out.1 rfl).2 k hkn).1.1) ho
              subst hf
              clear hrr ho Hb hF
              go_wp2
              go_ret
              exact ⟨rfl, HB0.out.trans (HB1.out.mono HB0.out.size)⟩
        · obtain rfl : k = n := by omega
          have hf : b = true := Hb.out.2 ⟨Hh.out, HK.out⟩
          subst hf
          go_wp2
          go_ret
          exact ⟨rfl, HB0.out.trans (hB.mono HB0.out.size)⟩
    · obtain rfl : r = true := by rw [hrr, decide_eq_false hh]; rfl
      have hf : b = false := by
        cases b with
        | false => rfl
        | true => exact absurd (Hb.out.1 rfl).1 hh
      subst hf
      clear hrr hh Hb
      go_wp2
      go_ret
      exact ⟨rfl, HB0.out⟩

end Go.Proofs.Ytjahkdomofhfgaa
