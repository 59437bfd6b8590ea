/- Whether a machine is valid, by the program. -/
import Derived.Test.YtjahkdomofhfgaaTq
import Derived.Carry
namespace Go.Proofs.Ytjahkdomofhfgaa
open Go.RowKit Go.Maps
set_option linter.unusedVariables false
set_option linter.unusedSimpArgs false

theorem wpList_seen_look {w : World} {ops : Array Oper} {rest : List Oper} {o : Oper} {a : Act} {Q : Exit → Act → World → Prop}
    (hg : o.guard = none) (m x : Operand) (hop : o.op = Op.lookup 55 m x false) {b k : Nat} {KV : Nat → Value} (hm : a.eval m = .map (some b)) (hs : Seen w b k KV) {key : Value} (hx : a.eval x = key) {kl : Lit} (hk : keyOf Try.prog 58 key = some kl) {r : Bool} (hr : r = true ↔ ∃ j, j < k ∧ KV j = key)
    (hK : wpList Try.prog ops Q rest (a.put o.dst (.bool r)) w) : wpList Try.prog ops Q (o :: rest) a w := by
  refine wpList_plain hg fun K' hK' => ?_
  have hrun := hs.look hk hr
  unfold Oper.wp
  simp [execOp, hop, hm, hx, hrun, Result.andThen]
  exact hK' _ _ hK

set_option maxHeartbeats 1000000 in
theorem win_any {n lo hi : Int} {r : Bool} (hr : r = true ↔ lo ≤ n ∧ n ≤ hi) (w : World) : Calls Try.prog 25 #[I n, I lo, I hi] w fun e w' => e = .returned (.bool r) ∧ w' = w := by
  by_cases h1 : lo ≤ n
  · by_cases h2 : n ≤ hi
    · obtain rfl : r = true := hr.2 ⟨h1, h2⟩
      clear hr
      go_enter Try.func25, Try.ntmps25
      go_wp2
      go_ret
      exact ⟨rfl, rfl⟩
    · obtain rfl : r = false := by
        cases r with
        | false => rfl
        | true => exact absurd (hr.1 rfl).2 h2
      clear hr
      go_enter Try.func25, Try.ntmps25
      go_wp2
      go_ret
      exact ⟨rfl, rfl⟩
  · obtain rfl : r = false := by
      cases r with
      | false => rfl
      | true => exact absurd (hr.1 rfl).1 h1
    clear hr
    go_enter Try.func25, Try.ntmps25
    go_wp2
    go_ret
    exact ⟨rfl, rfl⟩

theorem keyV_eq {f f' : Int} {L : Nat} {Z Z' : Nat → Int} (hL : L ≤ 3) : keyV f L Z = keyV f' L Z' ↔ f = f' ∧ ∀ c, c < L → Z c = Z' c := by
  have h3 : L = 0 ∨ L = 1 ∨ L = 2 ∨ L = 3 := by omega
  unfold keyV
  constructor
  · intro h
    simp only [Value.agg.injEq, Array.mk.injEq, List.cons.injEq, Value.int.injEq, true_and, and_true] at h
    obtain ⟨h0, h1, h2, h4⟩ := h
    refine ⟨h0, fun c hc => ?_⟩
    rcases h3 with rfl | rfl | rfl | rfl
    · omega
    · obtain rfl : c = 0 := by omega
      simpa using h1
    · have : c = 0 ∨ c = 1 := by omega
      rcases this with rfl | rfl
      · simpa using h1
      · simpa using h2
    · have : c = 0 ∨ c = 1 ∨ c = 2 := by omega
      rcases this with rfl | rfl | rfl
      · simpa using h1
      · simpa using h2
      · simpa using h4
  · rintro ⟨rfl, h⟩
    rcases h3 with rfl | rfl | rfl | rfl
    · simp
    · simp [h 0 (by omega)]
    · simp [h 0 (by omega), h 1 (by omega)]
    · simp [h 0 (by omega), h 1 (by omega), h 2 (by omega)]

def ok8 (S T f g : Int) (l0 l1 l2 : Nat) : Prop := okEnds S f g ∧ (l0 : Int) = T ∧ (l1 : Int) = T ∧ (l2 : Int) = T
instance (S T f g : Int) (l0 l1 l2 : Nat) : Decidable (ok8 S T f g l0 l1 l2) := by unfold ok8; infer_instance

set_option maxHeartbeats 16000000 in
set_option maxRecDepth 100000 in
theorem tvalid_any {w : World} {S Y T : Int} {v : Value} {n : Nat} {F G : Nat → Int} {A : Nat → Nat → Option Addr} {L C : Nat → Nat → Nat} {Z : Nat → Nat → Nat → Int} (hd : Mg w v n F G A L C Z) {b : Bool} (hb : b = true ↔ okM S Y T n F G L Z) : Calls Try.prog 23 #[M4 S Y T v] w fun e w' => e = .returned (.bool b) ∧ Below w.heap.size w w' := by
  have Hb := Lib.hid hb
  have Hd := Lib.hid hd
  have hsm := hd.small
  obtain ⟨a, cap, rfl⟩ := hd.len
  clear hb hd
  have hmm := @run_makeMap Try.prog
  go_enter Try.func23, Try.ntmps23
  go_upto_region 2 with fail
  obtain ⟨W, hW⟩ : ∃ W, W = w.alloc (Obj.cells #[I S, I Y, I T, Value.slice a n cap] 35) := ⟨_, rfl⟩
  have hbx := (box4 w S Y T (Value.slice a n cap)).1
  have hB0 := (box4 w S Y T (Value.slice a n cap)).2
  rw [← hW] at hbx hB0 ⊢
  have HM := Lib.hid (Hd.out.keep hB0)
  have HX := Lib.hid hbx
  have HB0 := Lib.hid hB0
  clear hW hB0 hbx
  go_cut [27] from 9 to 27 (fun x wr => (∃ r : Bool, r = !decide (okHead S Y T) ∧ x = .bool r) ∧ wr = W)
  case first =>
    have x0 := HX.out.c0
    have x1 := HX.out.c1
    have x2 := HX.out.c2
    by_cases q0 : 3 ≤ S ∧ S ≤ 64
    · have H0 := Lib.hid (fun w => win_any (r := true) (by simp [q0]) w : ∀ w, Calls Try.prog 25 #[I S, I 3, I 64] w fun e w' => e = .returned (.bool true) ∧ w' = w)
      by_cases q1 : 2 ≤ Y ∧ Y ≤ 8
      · have H1 := Lib.hid (fun w => win_any (r := true) (by simp [q1]) w : ∀ w, Calls Try.prog 25 #[I Y, I 2, I 8] w fun e w' => e = .returned (.bool true) ∧ w' = w)
        by_cases q2 : 1 ≤ T ∧ T ≤ 3
        · have H2 := Lib.hid (fun w => win_any (r := true) (by simp [q2]) w : ∀ w, Calls Try.prog 25 #[I T, I 1, I 3] w fun e w' => e = .returned (.bool true) ∧ w' = w)
          have hk : okHead S Y T := by unfold okHead; omega
          clear q0 q1 q2
          go_wp2_with (first | (go_at_call 25; (with_reducible refine (H0.out _).mono ?_); rintro e w' ⟨rfl, rfl⟩) | (go_at_call 25; (with_reducible refine (H1.out _).mono ?_); rintro e w' ⟨rfl, rfl⟩) | (go_at_call 25; (with_reducible refine (H2.out _).mono ?_); rintro e w' ⟨rfl, rfl⟩))
          go_meet
          exact ⟨⟨_, by rw [decide_eq_true hk]; rfl, rfl⟩, rfl⟩
        · have H2 := Lib.hid (fun w => win_any (r := false) (by simp; omega) w : ∀ w, Calls Try.prog 25 #[I T, I 1, I 3] w fun e w' => e = .returned (.bool false) ∧ w' = w)
          have hk : ¬ okHead S Y T := by unfold okHead; omega
          clear q0 q1 q2
          go_wp2_with (first | (go_at_call 25; (with_reducible refine (H0.out _).mono ?_); rintro e w' ⟨rfl, rfl⟩) | (go_at_call 25; (with_reducible refine (H1.out _).mono ?_); rintro e w' ⟨rfl, rfl⟩) | (go_at_call 25; (with_reducible refine (H2.out _).mono ?_); rintro e w' ⟨rfl, rfl⟩))
          go_meet
          exact ⟨⟨_, by rw [decide_eq_false hk]; rfl, rfl⟩, rfl⟩
      · have H1 := Lib.hid (fun w => win_any (r := false) (by simp; omega) w : ∀ w, Calls Try.prog 25 #[I Y, I 2, I 8] w fun e w' => e = .returned (.bool false) ∧ w' = w)
        have hk : ¬ okHead S Y T := by unfold okHead; omega
        clear q0 q1
        go_wp2_with (first | (go_at_call 25; (with_reducible refine (H0.out _).mono ?_); rintro e w' ⟨rfl, rfl⟩) | (go_at_call 25; (with_reducible refine (H1.out _).mono ?_); rintro e w' ⟨rfl, rfl⟩))
        go_meet
        exact ⟨⟨_, by rw [decide_eq_false hk]; rfl, rfl⟩, rfl⟩
    · have H0 := Lib.hid (fun w => win_any (r := false) (by simp; omega) w : ∀ w, Calls Try.prog 25 #[I S, I 3, I 64] w fun e w' => e = .returned (.bool false) ∧ w' = w)
      have hk : ¬ okHead S Y T := by unfold okHead; omega
      clear q0
      go_wp2_with (first | (go_at_call 25; (with_reducible refine (H0.out _).mono ?_); rintro e w' ⟨rfl, rfl⟩))
      go_meet
      exact ⟨⟨_, by rw [decide_eq_false hk]; rfl, rfl⟩, rfl⟩
  case rest =>
    obtain ⟨⟨r, hrr, rfl⟩, rfl⟩ := hcut
    by_cases hh : okHead S Y T
    · obtain rfl : r = false := by rw [hrr, decide_eq_true hh]; rfl
      have Hh := Lib.hid hh
      have hS : 3 ≤ S ∧ S ≤ 64 ∧ 2 ≤ Y ∧ Y ≤ 8 ∧ 1 ≤ T ∧ T ≤ 3 := hh
      clear hrr hh
      obtain ⟨t, rfl⟩ : ∃ t : Nat, T = t := ⟨T.toNat, by omega⟩
      obtain ⟨W0, rfl⟩ : ∃ W0, W0 = wc := ⟨_, rfl⟩
      have hsz := HX.out
      obtain ⟨W4, hW4⟩ : ∃ W4, W4 = W0.alloc (.map #[] 0) := ⟨_, rfl⟩
      have hB4 : Below W0.heap.size W0 W4 := by rw [hW4]; exact (Below.refl _ _).alloc (Nat.le_refl _) _
      have hsee : Seen W4 W0.heap.size 0 (fun j => keyV (F j) (L j 0) (Z j 0)) := by rw [hW4]; exact Seen.made _ _
      have x3 : (W0.alloc (.map #[] 0)).cell? ⟨w.heap.size, 3, none⟩ = some (.slice a n cap) := cell_alloc HX.out.c3 _
      have HB4 := Lib.hid hB4
      have Hsee := Lib.hid hsee
      have HW4 := Lib.hid hW4
      clear hB4 hsee hW4 hsz
      go_wp2
      rw [← HW4.out]
      clear x3
      go_loopw [6, 7, 8, 32] (fun _ _ _ x wr => ∃ k : Nat, k ≤ n ∧ Hid (∀ i, i < k → okRule S Y t F G L Z i ∧ ∀ k, k < i → ¬ sameKey F L Z k i) ∧ Hid (Seen wr W0.heap.size k (fun j => keyV (F j) (L j 0) (Z j 0))) ∧ x = I k ∧ Below W0.heap.size W0 wr) (fun _ _ _ x _ => n - (intOf x).toNat)
      case atStart => exact ⟨0, by omega, Lib.hid (fun r hr => by omega), Hsee, rfl, HB4.out⟩
      case round =>
        obtain ⟨k, hk, HK, HSn, rfl, hB⟩ := hrel
        by_cases hkn : k < n
        · have hM := Lib.hid (HM.out.keep hB)
          obtain ⟨B, O, rfl⟩ := hM.out.base (by omega)
          obtain ⟨c0, c1, c2, c3, c4⟩ := hM.out.rule hkn
          go_upto_region 8 with fail
          obtain ⟨W2, hW2⟩ : ∃ W2, W2 = wr.alloc (Obj.cells #[I (F k), .slice (A k 0) (L k 0) (C k 0), I (G k), .slice (A k 1) (L k 1) (C k 1), .slice (A k 2) (L k 2) (C k 2)] 48) := ⟨_, rfl⟩
          have hr2 := (box5 wr (F k) (G k) (A k 0) (A k 1) (A k 2) (L k 0) (C k 0) (L k 1) (C k 1) (L k 2) (C k 2)).1
          have hB2 := (box5 wr (F k) (G k) (A k 0) (A k 1) (A k 2) (L k 0) (C k 0) (L k 1) (C k 1) (L k 2) (C k 2)).2
          rw [← hW2] at hr2 hB2 ⊢
          have HR := Lib.hid hr2
          have HB2 := Lib.hid hB2
          have HM2 := Lib.hid (hM.out.keep hB2)
          have HX2 := Lib.hid ((HX.out.keep hB).keep hB2)
          have HB1 := Lib.hid (hB.trans (hB2.mono hB.size))
          have HSn2 := Lib.hid (HSn.out.keep hB2)
          clear hW2 hr2 hB2 c0 c1 c2 c3 c4 hM hB HSn
          go_cut [32, 87] from 32 to 138 (fun z x w' => z = I k ∧ (∃ r : Bool, r = !decide (ok8 S t (F k) (G k) (L k 0) (L k 1) (L k 2)) ∧ x = .bool r) ∧ w' = W2)
          case first =>
            have x0 := HX2.out.c0
            have x2 := HX2.out.c2
            have r0 := HR.out.c0
            have r1 := HR.out.c1
            have r2 := HR.out.c2
            have r3 := HR.out.c3
            have r4 := HR.out.c4
            generalize F k = f at *
            generalize G k = g at *
            generalize L k 0 = l0 at *
            generalize L k 1 = l1 at *
            generalize L k 2 = l2 at *
            by_cases q0 : 0 ≤ f ∧ f ≤ S - 1
            · have H0 := Lib.hid (fun w => win_any (r := true) (by simp [q0]) w : ∀ w, Calls Try.prog 25 #[I f, I 0, I (S - 1)] w fun e w' => e = .returned (.bool true) ∧ w' = w)
              by_cases q1 : f = 1
              · have d0 : (f == 1) = true := by simp [q1]
                have hk8 : ¬ ok8 S t f g l0 l1 l2 := by unfold ok8 okEnds; omega
                clear q1
                go_wp2_with (first | (go_at_call 25; (with_reducible refine (H0.out _).mono ?_); rintro e w' ⟨rfl, rfl⟩))
                go_meet
                exact ⟨rfl, ⟨_, by rw [decide_eq_false hk8]; rfl, rfl⟩, rfl⟩
              · have d0 : (f == 1) = false := by simp [q1]
                by_cases q2 : f = 2
                · have d1 : (f == 2) = true := by simp [q2]
                  have hk8 : ¬ ok8 S t f g l0 l1 l2 := by unfold ok8 okEnds; omega
                  clear q2
                  go_wp2_with (first | (go_at_call 25; (with_reducible refine (H0.out _).mono ?_); rintro e w' ⟨rfl, rfl⟩))
                  go_meet
                  exact ⟨rfl, ⟨_, by rw [decide_eq_false hk8]; rfl, rfl⟩, rfl⟩
                · have d1 : (f == 2) = false := by simp [q2]
                  by_cases q3 : 0 ≤ g ∧ g ≤ S - 1
                  · have H1 := Lib.hid (fun w => win_any (r := true) (by simp [q3]) w : ∀ w, Calls Try.prog 25 #[I g, I 0, I (S - 1)] w fun e w' => e = .returned (.bool true) ∧ w' = w)
                    by_cases q4 : (l0 : Int) = t
                    · have d3 : ((l0 : Int) != (t : Int)) = false := by simp; omega
                      by_cases q5 : (l1 : Int) = t
                      · have d4 : ((l1 : Int) != (t : Int)) = false := by simp; omega
                        by_cases q6 : (l2 : Int) = t
                        · have d5 : ((l2 : Int) != (t : Int)) = false := by simp; omega
                          have hk8 : ok8 S t f g l0 l1 l2 := by unfold ok8 okEnds; omega
                          go_wp2_with (first | (go_at_call 25; (with_reducible refine (H0.out _).mono ?_); rintro e w' ⟨rfl, rfl⟩) | (go_at_call 25; (with_reducible refine (H1.out _).mono ?_); rintro e w' ⟨rfl, rfl⟩))
                          go_meet
                          exact ⟨rfl, ⟨_, by rw [decide_eq_true hk8]; rfl, rfl⟩, rfl⟩
                        · have d5 : ((l2 : Int) != (t : Int)) = true := by simp; omega
                          have hk8 : ¬ ok8 S t f g l0 l1 l2 := by unfold ok8 okEnds; omega
                          go_wp2_with (first | (go_at_call 25; (with_reducible refine (H0.out _).mono ?_); rintro e w' ⟨rfl, rfl⟩) | (go_at_call 25; (with_reducible refine (H1.out _).mono ?_); rintro e w' ⟨rfl, rfl⟩))
                          go_meet
                          exact ⟨rfl, ⟨_, by rw [decide_eq_false hk8]; rfl, rfl⟩, rfl⟩
                      · have d4 : ((l1 : Int) != (t : Int)) = true := by simp; omega
                        have hk8 : ¬ ok8 S t f g l0 l1 l2 := by unfold ok8 okEnds; omega
                        go_wp2_with (first | (go_at_call 25; (with_reducible refine (H0.out _).mono ?_); rintro e w' ⟨rfl, rfl⟩) | (go_at_call 25; (with_reducible refine (H1.out _).mono ?_); rintro e w' ⟨rfl, rfl⟩))
                        go_meet
                        exact ⟨rfl, ⟨_, by rw [decide_eq_false hk8]; rfl, rfl⟩, rfl⟩
                    · have d3 : ((l0 : Int) != (t : Int)) = true := by simp; omega
                      have hk8 : ¬ ok8 S t f g l0 l1 l2 := by unfold ok8 okEnds; omega
                      go_wp2_with (first | (go_at_call 25; (with_reducible refine (H0.out _).mono ?_); rintro e w' ⟨rfl, rfl⟩) | (go_at_call 25; (with_reducible refine (H1.out _).mono ?_); rintro e w' ⟨rfl, rfl⟩))
                      go_meet
                      exact ⟨rfl, ⟨_, by rw [decide_eq_false hk8]; rfl, rfl⟩, rfl⟩
                  · have H1 := Lib.hid (fun w => win_any (r := false) (by simp; omega) w : ∀ w, Calls Try.prog 25 #[I g, I 0, I (S - 1)] w fun e w' => e = .returned (.bool false) ∧ w' = w)
                    have hk8 : ¬ ok8 S t f g l0 l1 l2 := by unfold ok8 okEnds; omega
                    go_wp2_with (first | (go_at_call 25; (with_reducible refine (H0.out _).mono ?_); rintro e w' ⟨rfl, rfl⟩) | (go_at_call 25; (with_reducible refine (H1.out _).mono ?_); rintro e w' ⟨rfl, rfl⟩))
                    go_meet
                    exact ⟨rfl, ⟨_, by rw [decide_eq_false hk8]; rfl, rfl⟩, rfl⟩
            · have H0 := Lib.hid (fun w => win_any (r := false) (by simp; omega) w : ∀ w, Calls Try.prog 25 #[I f, I 0, I (S - 1)] w fun e w' => e = .returned (.bool false) ∧ w' = w)
              have hk8 : ¬ ok8 S t f g l0 l1 l2 := by unfold ok8 okEnds; omega
              go_wp2_with (first | (go_at_call 25; (with_reducible refine (H0.out _).mono ?_); rintro e w' ⟨rfl, rfl⟩))
              go_meet
              exact ⟨rfl, ⟨_, by rw [decide_eq_false hk8]; rfl, rfl⟩, rfl⟩
          case rest =>
            obtain ⟨rfl, ⟨r, hrr, rfl⟩, rfl⟩ := hcut
            by_cases ho : ok8 S t (F k) (G k) (L k 0) (L k 1) (L k 2)
            · obtain rfl : r = false := by rw [hrr, decide_eq_true ho]; rfl
              have Ho := Lib.hid ho
              clear hrr ho
              have hl0 : L k 0 = t := by have := Ho.out.2.1; omega
              have hl1 : L k 1 = t := by have := Ho.out.2.2.1; omega
              have hl2 : L k 2 = t := by have := Ho.out.2.2.2; omega
              have htp : 1 ≤ t ∧ t ≤ 3 := by omega
              obtain ⟨e0, he0⟩ := (HM2.out.sl hkn (q := 0) (by omega)).ne (by omega)
              obtain ⟨e1, he1⟩ := (HM2.out.sl hkn (q := 1) (by omega)).ne (by omega)
              obtain ⟨e2, he2⟩ := (HM2.out.sl hkn (q := 2) (by omega)).ne (by omega)
              have z0 := (HM2.out.sl hkn (q := 0) (by omega)).cell e0 he0
              have z1 := (HM2.out.sl hkn (q := 1) (by omega)).cell e1 he1
              have z2 := (HM2.out.sl hkn (q := 2) (by omega)).cell e2 he2
              have r0 := HR.out.c0
              have r1 := HR.out.c1
              have r3 := HR.out.c3
              have r4 := HR.out.c4
              have x1 := HX2.out.c1
              have x2 := HX2.out.c2
              rw [he0, hl0] at r1
              rw [he1, hl1] at r3
              rw [he2, hl2] at r4
              rw [hl0] at z0
              rw [hl1] at z1
              rw [hl2] at z2
              have Z0 := Lib.hid z0
              have R0 := Lib.hid r0
              have R1 := Lib.hid r1
              have R3 := Lib.hid r3
              have R4 := Lib.hid r4
              have X1 := Lib.hid x1
              have Z1 := Lib.hid z1
              have Z2 := Lib.hid z2
              have Hl0 := Lib.hid hl0
              have Hl1 := Lib.hid hl1
              have Hl2 := Lib.hid hl2
              have He0 := Lib.hid he0
              clear z0 z1 z2 hl0 hl1 hl2 he0 he1 he2
              go_wp2
              clear r0 r1 r3 r4 x1 x2
              go_loopw [7, 90] (fun _ x wi => ∃ i : Nat, i ≤ t ∧ Hid (∀ c, c < i → (0 ≤ Z k 0 c ∧ Z k 0 c ≤ Y - 1) ∧ (0 ≤ Z k 1 c ∧ Z k 1 c ≤ Y - 1) ∧ (-1 ≤ Z k 2 c ∧ Z k 2 c ≤ 1)) ∧ x = I i ∧ Below wc.heap.size wc wi) (fun _ x _ => t - (intOf x).toNat)
              case atStart => exact ⟨0, by omega, Lib.hid (fun c hc => by omega), rfl, Below.refl _ _⟩
              case round =>
                obtain ⟨i, hi, HI, rfl, hBi⟩ := hrel
                have r0 := below_cell (B := 0) hBi R0.out
                have r1 := below_cell (B := 0) hBi R1.out
                have r3 := below_cell (B := 0) hBi R3.out
                have r4 := below_cell (B := 0) hBi R4.out
                have x1 := below_cell (B := 0) hBi X1.out
                by_cases hit : i < t
                · have z0 := below_cell (B := 0) hBi (Z0.out i hit)
                  have z1 := below_cell (B := 0) hBi (Z1.out i hit)
                  have z2 := below_cell (B := 0) hBi (Z2.out i hit)
                  have hno : ∀ {p : Prop}, ¬ ((0 ≤ Z k 0 i ∧ Z k 0 i ≤ Y - 1) ∧ (0 ≤ Z k 1 i ∧ Z k 1 i ≤ Y - 1) ∧ (-1 ≤ Z k 2 i ∧ Z k 2 i ≤ 1)) → b = false := fun {p} hx => by
                    cases b with
                    | false => rfl
                    | true =>
                      have h1 := ((Hb.out.1 rfl).2 k hkn).1
                      exact absurd ⟨h1.2.1.2 i (by rw [Hl0.out]; exact hit), h1.2.2.1.2 i (by rw [Hl1.out]; exact hit), h1.2.2.2.2 i (by rw [Hl2.out]; exact hit)⟩ hx
                  have Hno := Lib.hid (fun (h : ¬ ((0 ≤ Z k 0 i ∧ Z k 0 i ≤ Y - 1) ∧ (0 ≤ Z k 1 i ∧ Z k 1 i ≤ Y - 1) ∧ (-1 ≤ Z k 2 i ∧ Z k 2 i ≤ 1))) => hno (p := True) h)
                  clear hno
                  generalize hy0 : Z k 0 i = y0 at *
                  generalize hy1 : Z k 1 i = y1 at *
                  generalize hy2 : Z k 2 i = y2 at *
                  have Hy0 := Lib.hid hy0
                  have Hy1 := Lib.hid hy1
                  have Hy2 := Lib.hid hy2
                  clear hy0 hy1 hy2
                  by_cases q0 : 0 ≤ y0 ∧ y0 ≤ Y - 1
                  · have H0 := Lib.hid (fun w => win_any (r := true) (by simp [q0]) w : ∀ w, Calls Try.prog 25 #[I y0, I 0, I (Y - 1)] w fun e w' => e = .returned (.bool true) ∧ w' = w)
                    by_cases q1 : 0 ≤ y1 ∧ y1 ≤ Y - 1
                    · have H1 := Lib.hid (fun w => win_any (r := true) (by simp [q1]) w : ∀ w, Calls Try.prog 25 #[I y1, I 0, I (Y - 1)] w fun e w' => e = .returned (.bool true) ∧ w' = w)
                      by_cases q2 : -1 ≤ y2 ∧ y2 ≤ 1
                      · have H2 := Lib.hid (fun w => win_any (r := true) (by simp [q2]) w : ∀ w, Calls Try.prog 25 #[I y2, I (-1), I 1] w fun e w' => e = .returned (.bool true) ∧ w' = w)
                        have HQ := Lib.hid (And.intro q0 (And.intro q1 q2))
                        clear q0 q1 q2
                        go_wp2
                        go_quiet (first | (go_at_call 25; with_reducible exact Calls.quiet_of_same (H0.out _)) | (go_at_call 25; with_reducible exact Calls.quiet_of_same (H1.out _)) | (go_at_call 25; with_reducible exact Calls.quiet_of_same (H2.out _)))
                        go_wp2
                        go_roundw
                        case rel => exact ⟨i + 1, by omega, Lib.hid (fun c hc => by
                          rcases Nat.lt_or_ge c i with hl | hl
                          · exact HI.out c hl
                          · obtain rfl : c = i := by omega
                            rw [Hy0.out, Hy1.out, Hy2.out]
                            exact HQ.out), by go_num, below_drewN hBi _⟩
                        case measure => simp [intOf]; omega
                      · have H2 := Lib.hid (fun w => win_any (r := false) (by simp; omega) w : ∀ w, Calls Try.prog 25 #[I y2, I (-1), I 1] w fun e w' => e = .returned (.bool false) ∧ w' = w)
                        obtain rfl : b = false := Hno.out (fun h => q2 h.2.2)
                        clear Hb Hno q0 q1 q2
                        go_wp2
                        go_quiet (first | (go_at_call 25; with_reducible exact Calls.quiet_of_same (H0.out _)) | (go_at_call 25; with_reducible exact Calls.quiet_of_same (H1.out _)) | (go_at_call 25; with_reducible exact Calls.quiet_of_same (H2.out _)))
                        go_wp2
                        go_ret
                        exact ⟨rfl, below_drewN (HB0.out.trans ((HB1.out.trans (hBi.mono HB1.out.size)).mono HB0.out.size)) _⟩
                    · have H1 := Lib.hid (fun w => win_any (r := false) (by simp; omega) w : ∀ w, Calls Try.prog 25 #[I y1, I 0, I (Y - 1)] w fun e w' => e = .returned (.bool false) ∧ w' = w)
                      obtain rfl : b = false := Hno.out (fun h => q1 h.2.1)
                      clear Hb Hno q0 q1
                      go_wp2
                      go_quiet (first | (go_at_call 25; with_reducible exact Calls.quiet_of_same (H0.out _)) | (go_at_call 25; with_reducible exact Calls.quiet_of_same (H1.out _)))
                      go_wp2
                      go_ret
                      exact ⟨rfl, below_drewN (HB0.out.trans ((HB1.out.trans (hBi.mono HB1.out.size)).mono HB0.out.size)) _⟩
                  · have H0 := Lib.hid (fun w => win_any (r := false) (by simp; omega) w : ∀ w, Calls Try.prog 25 #[I y0, I 0, I (Y - 1)] w fun e w' => e = .returned (.bool false) ∧ w' = w)
                    obtain rfl : b = false := Hno.out (fun h => q0 h.1)
                    clear Hb Hno q0
                    go_wp2
                    go_quiet (first | (go_at_call 25; with_reducible exact Calls.quiet_of_same (H0.out _)))
                    go_wp2
                    go_ret
                    exact ⟨rfl, below_drewN (HB0.out.trans ((HB1.out.trans (hBi.mono HB1.out.size)).mono HB0.out.size)) _⟩
                · obtain rfl : i = t := by omega
                  have hokr : okRule S Y i F G L Z k := ⟨Ho.out.1, ⟨by rw [Hl0.out], fun c hc => (HI.out c (by rw [Hl0.out] at hc; exact hc)).1⟩, ⟨by rw [Hl1.out], fun c hc => (HI.out c (by rw [Hl1.out] at hc; exact hc)).2.1⟩, ⟨by rw [Hl2.out], fun c hc => (HI.out c (by rw [Hl2.out] at hc; exact hc)).2.2⟩⟩
                  have hsl := (HM2.out.sl hkn (q := 0) (by omega)).keep hBi
                  have hkc := keyOf_any (C := C k 0) hsl (F k) (by rw [Hl0.out]; omega)
                  have hends := Ho.out.1
                  obtain ⟨u0, u1, u2, hkv, hu0, hu1, hu2⟩ : ∃ u0 u1 u2, keyV (F k) (L k 0) (Z k 0) = KY (F k) u0 u1 u2 ∧ (0 ≤ u0 ∧ u0 ≤ 8) ∧ (0 ≤ u1 ∧ u1 ≤ 8) ∧ (0 ≤ u2 ∧ u2 ≤ 8) := by
                    refine ⟨_, _, _, rfl, ?_, ?_, ?_⟩
                    · split
                      · rename_i h; have := (hokr.2.1.2 0 h); omega
                      · omega
                    · split
                      · rename_i h; have := (hokr.2.1.2 1 h); omega
                      · omega
                    · split
                      · rename_i h; have := (hokr.2.1.2 2 h); omega
                      · omega
                  obtain ⟨kl, hkl⟩ := key_ex (a := F k) (b := u0) (c := u1) (d := u2) (WalkArith.wf_i64 (by unfold okEnds at hends; omega)) (WalkArith.wf_i64 (by omega)) (WalkArith.wf_i64 (by omega)) (WalkArith.wf_i64 (by omega))
                  have hsame : ∀ j, j < k → (keyV (F j) (L j 0) (Z j 0) = KY (F k) u0 u1 u2 ↔ sameKey F L Z j k) := fun j hj => by
                    have hLj := (HK.out j hj).1.2.1.1
                    have hLj' : L j 0 = L k 0 := by rw [Hl0.out]; omega
                    rw [← hkv, hLj', keyV_eq (by rw [Hl0.out]; omega)]
                    unfold sameKey eqL
                    rw [hLj']
                    exact ⟨fun h => ⟨h.1, rfl, h.2⟩, fun h => ⟨h.1, h.2.2⟩⟩
                  rw [hkv, He0.out, Hl0.out] at hkc
                  have Hkc := Lib.hid hkc
                  have Hkl := Lib.hid hkl
                  have Hkv := Lib.hid hkv
                  have Hok := Lib.hid hokr
                  have HS3 := Lib.hid (HSn2.out.keep hBi)
                  have HB3 := Lib.hid (HB1.out.trans (hBi.mono HB1.out.size))
                  have hkn2 : k < maxLen := by unfold maxLen; omega
                  clear hkc hkl hkv hokr hsl hends hu0 hu1 hu2 x1 r3 r4 Z0 Z1 Z2
                  by_cases hdup : ∃ j, j < k ∧ sameKey F L Z j k
                  · have hd : ∃ j, j < k ∧ keyV (F j) (L j 0) (Z j 0) = KY (F k) u0 u1 u2 := by
                      obtain ⟨j, hj, hs⟩ := hdup
                      exact ⟨j, hj, (hsame j hj).2 hs⟩
                    have Hd := Lib.hid hd
                    obtain rfl : b = false := by
                      cases b with
                      | false => rfl
                      | true =>
                        obtain ⟨j, hj, hs⟩ := hdup
                        exact absurd hs (((Hb.out.1 rfl).2 k hkn).2 j hj)
                    clear hd hdup hsame Hb
                    generalize F k = f at *
                    go_wp2_with (first
                      | (go_at_call 26; refine Hkc.out.mono ?_; rintro e w5 ⟨rfl, hb5⟩; have HS5 := Lib.hid (HS3.out.keep hb5); have HB5 := Lib.hid (HB3.out.trans (hb5.mono HB3.out.size)); clear hb5)
                      | (at_lookup; refine wpList_seen_look rfl (.tmp 133) (.tmp 134) rfl rfl (HS5.out.keep ((Below.refl _ _).alloc (Nat.le_refl _) _)) rfl Hkl.out (r := true) ⟨fun _ => Hd.out, fun _ => rfl⟩ ?_))
                    go_ret
                    exact ⟨rfl, HB0.out.trans (((HB5.out.alloc HB5.out.size _)).mono HB0.out.size)⟩
                  · have hd : ¬ ∃ j, j < k ∧ keyV (F j) (L j 0) (Z j 0) = KY (F k) u0 u1 u2 := by
                      rintro ⟨j, hj, hs⟩
                      exact hdup ⟨j, hj, (hsame j hj).1 hs⟩
                    have Hd := Lib.hid hd
                    have Hnd := Lib.hid (fun j (hj : j < k) (hs : sameKey F L Z j k) => hdup ⟨j, hj, hs⟩)
                    have HKk := Lib.hid (show keyOf Try.prog 58 ((fun j => keyV (F j) (L j 0) (Z j 0)) k) = some kl by rw [← Hkl.out, ← Hkv.out])
                    clear hd hdup hsame
                    go_wp2_with (first
                      | (go_at_call 26; refine Hkc.out.mono ?_; rintro e w5 ⟨rfl, hb5⟩; have HS5 := Lib.hid (HS3.out.keep hb5); have HB5 := Lib.hid (HB3.out.trans (hb5.mono HB3.out.size)); clear hb5)
                      | (at_lookup; refine wpList_seen_look rfl (.tmp 133) (.tmp 134) rfl rfl (HS5.out.keep ((Below.refl _ _).alloc (Nat.le_refl _) _)) rfl Hkl.out (r := false) ⟨fun h => (by cases h), fun h => absurd h Hd.out⟩ ?_)
                      | (at_mapUpdate; refine wpList_seen_put rfl (.tmp 136) (.tmp 137) (.const (.bool true)) rfl rfl (HS5.out.keep ((Below.refl _ _).alloc (Nat.le_refl _) _)) hkn2 Hkv.out.symm rfl HKk.out ?_; intro w6 hs6 hg6; have HS6 := Lib.hid hs6; have HB6 := Lib.hid ((HB5.out.alloc HB5.out.size _).grown hg6 (by have := HB5.out.size; simp; omega) (fun x hx => by cases hx; exact Nat.le_refl _)); clear hs6 hg6))
                    go_roundw
                    case rel => exact ⟨k + 1, by omega, Lib.hid (fun j hj => by
                      rcases Nat.lt_or_ge j k with hl | hl
                      · exact HK.out j hl
                      · obtain rfl : j = k := by omega
                        exact ⟨Hok.out, Hnd.out⟩), HS6, by go_num, HB6.out⟩
                    case measure => simp [intOf]; omega
            · obtain rfl : r = true := by rw [hrr, decide_eq_false ho]; rfl
              have hf : b = false := by
                cases b with
                | false => rfl
                | true =>
                  have h1 := ((Hb.out.1 rfl).2 k hkn).1
                  exact absurd ⟨h1.1, h1.2.1.1, h1.2.2.1.1, h1.2.2.2.1⟩ ho
              subst hf
              clear hrr ho Hb
              go_wp2
              go_ret
              exact ⟨rfl, HB0.out.trans (HB1.out.mono HB0.out.size)⟩
        · obtain rfl : k = n := by omega
          have hf : b = true := Hb.out.2 ⟨Hh.out, HK.out⟩
          subst hf
          go_wp2
          go_ret
          exact ⟨rfl, HB0.out.trans (hB.mono HB0.out.size)⟩
    · obtain rfl : r = true := by rw [hrr, decide_eq_false hh]; rfl
      have hf : b = false := by
        cases b with
        | false => rfl
        | true => exact absurd (Hb.out.1 rfl).1 hh
      subst hf
      clear hrr hh Hb
      go_wp2
      go_ret
      exact ⟨rfl, HB0.out⟩

end Go.Proofs.Ytjahkdomofhfgaa
