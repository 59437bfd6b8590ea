/- Plain: made tells whether the protocol solves the pairs, and its formula has the table; what bound.Solves answers; What bound.Solves answers; The reference's Execute on a protocol that fits. -/
import Derived.Test.YtpfbommaddaijaaZaQ7
import Derived.Test.YtpfbommaddaijaaZaPa
namespace Go.Proofs.Ytpfbommaddaijaa
open Go.RowKit Go.Proofs.YtpfbommaddaijaaW.PrintWords Go.Proofs.YtpfbommaddaijaaW.PrintLast PBoundTo
set_option linter.unusedVariables false
set_option linter.unusedSimpArgs false

theorem not_anyb {v : Nat} {is : Bool} {xs : List Int} : (!anyb v is xs) = true ↔ ∀ x ∈ xs, x.toNat.testBit v = is := by
  unfold anyb
  rw [Bool.not_eq_true', List.any_eq_false]
  constructor
  · intro h x hx
    have := h x hx
    cases e : x.toNat.testBit v <;> cases is <;> simp_all
  · intro h x hx
    rw [h x hx]
    simp
theorem zs_iff {ask : List Bool} {xs : List Int} {x : Int} : x ∈ zs ask xs ↔ x ∈ xs ∧ ask.getD x.toNat false = false := by
  unfold zs; rw [List.mem_filter]; simp
theorem os_iff {ask : List Bool} {xs : List Int} {x : Int} : x ∈ os ask xs ↔ x ∈ xs ∧ ask.getD x.toNat false = true := by
  unfold os; rw [List.mem_filter]
theorem comb_snd {k : Int} {f g : Fx × Bool} : (comb k f g).2 = true ↔ f.2 = true ∧ g.2 = true := by
  unfold comb
  split
  · rename_i h; simp only [Bool.and_eq_true] at h; simp [h]
  · rename_i h; simp only [Bool.and_eq_true] at h; simp; intro h1; cases e : g.2 with
    | false => rfl
    | true => exact absurd ⟨h1, e⟩ h
theorem md_ok : ∀ (t : Pt) {n : Nat}, t.ok n → ∀ (a b : List Int), (md t a b).2 = true ↔ ∀ x ∈ a, ∀ y ∈ b, apt t x.toNat y.toNat = true
  | .leaf v, n, ho, a, b => by
    rw [md]
    by_cases ea : a.length = 0
    · rw [if_pos ea, List.eq_nil_of_length_eq_zero ea]; simp
    rw [if_neg ea]
    by_cases eb : b.length = 0
    · rw [if_pos eb, List.eq_nil_of_length_eq_zero eb]; simp
    rw [if_neg eb]
    obtain ⟨ho1, ho2⟩ := ho
    have hm : a.getD 0 0 ∈ a := by
      rw [show a.getD 0 0 = a[0]'(by omega) by simp [List.getD, show 0 < a.length by omega]]
      exact List.getElem_mem _
    obtain ⟨b0, hb0⟩ : ∃ y, y ∈ b := ⟨b[0]'(by omega), List.getElem_mem _⟩
    generalize a.getD 0 0 = a0 at hm ⊢
    simp only [Bool.and_eq_true, not_anyb, apt, Pt.run, Nat.testBit_xor]
    constructor
    · rintro ⟨h1, h2⟩ x hx y hy
      rw [h1 x hx, h2 y hy]
      cases a0.toNat.testBit v.toNat <;> rfl
    · intro h
      refine ⟨fun x hx => ?_, fun y hy => ?_⟩
      · have q1 := h x hx b0 hb0
        have q2 := h a0 hm b0 hb0
        cases e1 : x.toNat.testBit v.toNat <;> cases e2 : b0.toNat.testBit v.toNat <;> cases e3 : a0.toNat.testBit v.toNat <;> simp_all
      · have q2 := h a0 hm y hy
        cases e2 : y.toNat.testBit v.toNat <;> cases e3 : a0.toNat.testBit v.toNat <;> simp_all
  | .node pl ask l r, n, ho, a, b => by
    rw [md]
    by_cases ea : a.length = 0
    · rw [if_pos ea, List.eq_nil_of_length_eq_zero ea]; simp
    rw [if_neg ea]
    by_cases eb : b.length = 0
    · rw [if_pos eb, List.eq_nil_of_length_eq_zero eb]; simp
    rw [if_neg eb]
    obtain ⟨ho1, ho2, ho3, ho4⟩ := ho
    rcases ho1 with rfl | rfl
    · rw [if_neg (by decide), comb_snd, md_ok l ho3, md_ok r ho4]
      unfold apt
      simp only [Pt.run0]
      constructor
      · rintro ⟨h1, h2⟩ x hx y hy
        cases e : ask.getD x.toNat false with
        | true => rw [if_pos rfl]; exact h2 x (os_iff.2 ⟨hx, e⟩) y hy
        | false => rw [if_neg (by decide)]; exact h1 x (zs_iff.2 ⟨hx, e⟩) y hy
      · intro h
        refine ⟨fun x hx y hy => ?_, fun x hx y hy => ?_⟩
        · obtain ⟨h1, h2⟩ := zs_iff.1 hx
          have := h x h1 y hy
          rwa [if_neg (by rw [h2]; decide)] at this
        · obtain ⟨h1, h2⟩ := os_iff.1 hx
          have := h x h1 y hy
          rwa [if_pos h2] at this
    · rw [if_pos rfl, comb_snd, md_ok l ho3, md_ok r ho4]
      unfold apt
      simp only [Pt.run1]
      constructor
      · rintro ⟨h1, h2⟩ x hx y hy
        cases e : ask.getD y.toNat false with
        | true => rw [if_pos rfl]; exact h2 x hx y (os_iff.2 ⟨hy, e⟩)
        | false => rw [if_neg (by decide)]; exact h1 x hx y (zs_iff.2 ⟨hy, e⟩)
      · intro h
        refine ⟨fun x hx y hy => ?_, fun x hx y hy => ?_⟩
        · obtain ⟨h1, h2⟩ := zs_iff.1 hy
          have := h x hx y h1
          rwa [if_neg (by rw [h2]; decide)] at this
        · obtain ⟨h1, h2⟩ := os_iff.1 hy
          have := h x hx y h1
          rwa [if_pos h2] at this
/-- on the ones and the zeros of a table: as the reference's Solves -/
theorem md_slv {t : Pt} {n : Nat} (ho : t.ok n) (l : List Bool) : (md t (ons l 0 l.length) (zrs l 0 l.length)).2 = slv t l := by
  rw [Bool.eq_iff_iff, md_ok t ho]
  unfold slv
  rw [allF_iff]
  constructor
  · intro h x _ hx
    cases e : l.getD x false with
    | false => rfl
    | true =>
      simp only [Bool.not_true, Bool.false_or]
      rw [allF_iff]
      intro y _ hy
      cases e2 : l.getD y false with
      | true => rfl
      | false =>
        have := h (x : Int) ((ons_mem l x _ _).2 ⟨x, rfl, by omega, hx, e⟩) (y : Int) ((zrs_mem l y _ _).2 ⟨y, rfl, by omega, hy, e2⟩)
        simpa using this
  · intro h x hx y hy
    obtain ⟨m, rfl, _, h1, h2⟩ := (ons_mem l x _ _).1 hx
    obtain ⟨k, rfl, _, h3, h4⟩ := (zrs_mem l y _ _).1 hy
    have q := h m (by omega) h1
    rw [h2] at q
    simp only [Bool.not_true, Bool.false_or] at q
    have q2 := (allF_iff _ _ _).1 q k (by omega) h3
    rw [h4] at q2
    simpa using q2
end Go.Proofs.Ytpfbommaddaijaa

namespace Go.Proofs.Ytpfbommaddaijaa
open Go.RowKit Go.Proofs.YtpfbommaddaijaaW.PrintWords Go.Proofs.YtpfbommaddaijaaW.PrintLast PBoundTo
set_option linter.unusedVariables false
set_option linter.unusedSimpArgs false

set_option maxHeartbeats 4000000 in
set_option maxRecDepth 100000 in
theorem solv57 {W : World} {lf b : Bool} {v pl er : Int} {la lk c3 c4 len tc : Nat} {A3 A4 ta : Option Addr}
    (HS : ∀ w' : World, Below W.heap.size W w' → Calls Try.prog 100 #[.agg #[.bool lf, I v, I pl, .slice A3 la c3, .slice A4 lk c4], .slice ta len tc] w' fun e w'' => ∃ k n A l c, e = .returned (.tuple #[.agg #[I k, I n, .slice A l c], .bool b, I er]) ∧ Below w'.heap.size w' w'') :
    Calls Try.prog 57 #[.agg #[.bool lf, I v, I pl, .slice A3 la c3, .slice A4 lk c4], .slice ta len tc] W fun e w' => e = .returned (.tuple #[.bool b, I er]) ∧ Below W.heap.size W w' := by
  replace HS := Lib.hid HS
  obtain ⟨W1, hW1⟩ : ∃ W1, W1 = W.alloc (.cells #[.bool lf, I v, I pl, .slice A3 la c3, .slice A4 lk c4] 32) := ⟨_, rfl⟩
  have HB1 : Hid (Below W.heap.size W W1) := Lib.hid (by rw [hW1]; exact below_alloc (Below.refl _ _) _)
  have BK : W1.heap[W.heap.size]? = some (.cells #[.bool lf, I v, I pl, .slice A3 la c3, .slice A4 lk c4] 32 (0, 0)) := by rw [hW1]; exact blk_new _ _
  have k0 : W1.cell? ⟨W.heap.size, 0, none⟩ = some (.bool lf) := (blk_cell BK 0).trans rfl
  have k1 : W1.cell? ⟨W.heap.size, 1, none⟩ = some (I v) := (blk_cell BK 1).trans rfl
  have k2 : W1.cell? ⟨W.heap.size, 2, none⟩ = some (I pl) := (blk_cell BK 2).trans rfl
  have k3 : W1.cell? ⟨W.heap.size, 3, none⟩ = some (.slice A3 la c3) := (blk_cell BK 3).trans rfl
  have k4 : W1.cell? ⟨W.heap.size, 4, none⟩ = some (.slice A4 lk c4) := (blk_cell BK 4).trans rfl
  clear BK
  go_enter Try.func57, Try.ntmps57
  go_upto_region 1 with fail
  rw [← hW1]
  clear hW1
  go_wp2_with (go_at_call 100; (with_reducible refine (HS.out _ HB1.out).mono ?_); rintro e w2 ⟨kk, nn, ka, kl, kc, rfl, hb⟩; have HB2 := Lib.hid (HB1.out.trans (hb.mono HB1.out.size)); clear hb)
  go_ret2
  exact ⟨rfl, below_alloc HB2.out _⟩
theorem rinF_pow {k : Nat} : ∀ j x, x ≤ k → k < x + j → rinF (2 ^ k) x j = k
  | 0, x, h1, h2 => by omega
  | j + 1, x, h1, h2 => by
    rw [rinF]
    by_cases e : k = x
    · rw [if_pos (by rw [e]), e]
    · rw [if_neg (fun h => e ((Nat.pow_right_inj (by decide)).1 h)), rinF_pow j (x + 1) (by omega) (by omega)]
theorem rin_pow {k : Nat} (h : k ≤ 12) : rin (2 ^ k) = k := rinF_pow 13 0 (by omega) (by omega)
theorem rinF_le (len : Nat) : ∀ j x, rinF len x j < ((x + j : Nat) : Int)
  | 0, x => by rw [rinF]; omega
  | j + 1, x => by
    rw [rinF]
    split
    · omega
    · have := rinF_le len j (x + 1); omega
theorem rin_le (len : Nat) : rin len ≤ 12 := by have := rinF_le len 13 0; unfold rin; omega
/-- solved, where the table or the protocol does not fit -/
theorem solved_bad {W : World} {x : S32} {A3 A4 ta : Option Addr} {c3 c4 len tc : Nat} (hlen : len < 8192) (hbad : rin len < 1 ∨ vld (rin len) x = false) (h3 : Kd.C Kd.bool W A3 x.f3.length x.f3) (h4 : Kd.C k32 W A4 x.f4.length x.f4) :
    Calls Try.prog 100 #[.agg #[.bool x.f0, I x.f1, I x.f2, .slice A3 x.f3.length c3, .slice A4 x.f4.length c4], .slice ta len tc] W fun e w' => e = .returned (.tuple #[.agg #[I 0, I 0, .slice none 0 0], .bool false, I 1]) ∧ Below W.heap.size W w' := by
  have HIN : ∀ (n : Int) (ok : Bool), Inp len n ok → ∀ w' : World, Calls Try.prog 84 #[.slice ta len tc] w' fun e w'' => e = .returned (.tuple #[I n, .bool ok]) ∧ Below w'.heap.size w' w'' := fun n ok hi w' => (inputs_any (w := w') (a := ta) (cap := tc) hlen hi).mono fun e w'' ⟨h1, m, h2⟩ => ⟨h1, by rw [h2]; exact pw_below_drewN (Below.refl _ _) m⟩
  by_cases hr : rin len < 1
  · obtain ⟨n, ok, hi⟩ : ∃ n ok, Inp len n ok := ⟨(bl 13 len : Int) - 1, decide (0 ≤ (bl 13 len : Int) - 1 ∧ len = 2 ^ ((bl 13 len : Int) - 1).toNat), rfl, by simp⟩
    cases ok with
    | false => exact sol_no (HIN n false hi) rfl
    | true =>
      obtain ⟨h0, h1⟩ := hi.2.1 rfl
      have hn : n < 1 := by
        have h12 : n.toNat ≤ 12 := by
          have : n = (bl 13 len : Int) - 1 := hi.1
          have := bl_le 13 len
          omega
        rw [h1, rin_pow h12] at hr
        omega
      exact sol_low (HIN n true hi) rfl (decide_eq_true hn)
  · obtain ⟨n, hn, hl⟩ := rin_spec (show 1 ≤ rin len by omega)
    have h12 := rin_le len
    have hv : vld (rin len) x = false := by rcases hbad with h | h; exact absurd h hr; exact h
    have hi : Inp len (n : Int) true := by rw [hl]; exact inp_pow (by omega)
    rw [hn] at hv
    exact sol_bad (HIN n true hi) rfl (decide_eq_false (by omega)) (fun w' hW => by have h := bValid_any (W := w') (x := x) (n := (n : Int)) (c3 := c3) (c4 := c4) (Kd.C_below h3 hW) (Kd.C_below h4 hW); rw [hv] at h; exact h)
/-- solved, where both fit -/
theorem solved_ok {W : World} {t : Pt} {n : Nat} {l : List Bool} {A3 A4 ta : Option Addr} {c3 c4 tc : Nat} (hn1 : 1 ≤ n) (hn : n ≤ 12) (ho : t.ok n) (hv : vld n t.toS = true) (hl : l.length = 2 ^ n) (h3 : Kd.C Kd.bool W A3 t.toS.f3.length t.toS.f3) (l3 : t.toS.f3.length ≤ c3) (h4 : Kd.C k32 W A4 t.toS.f4.length t.toS.f4) (hc : Kd.C Kd.bool W ta l.length l) (lc : l.length ≤ tc) :
    Calls Try.prog 100 #[.agg #[.bool t.toS.f0, I t.toS.f1, I t.toS.f2, .slice A3 t.toS.f3.length c3, .slice A4 t.toS.f4.length c4], .slice ta l.length tc] W (SR W (md t (ons l 0 l.length) (zrs l 0 l.length))) := by
  have h4096 : 2 ^ n ≤ 4096 := Nat.pow_le_pow_right (n := 2) (by decide) hn
  have HIN : ∀ w' : World, Calls Try.prog 84 #[.slice ta l.length tc] w' fun e w'' => e = .returned (.tuple #[I (n : Int), .bool true]) ∧ Below w'.heap.size w' w'' := fun w' => (inputs_any (w := w') (a := ta) (cap := tc) (by omega) (by rw [hl]; exact inp_pow hn)).mono fun e w'' ⟨h1, m, h2⟩ => ⟨h1, by rw [h2]; exact pw_below_drewN (Below.refl _ _) m⟩
  have hon : ∀ x ∈ ons l 0 l.length, 0 ≤ x ∧ x < ((2 ^ n : Nat) : Int) := fun x hx => by obtain ⟨m, rfl, _, h, _⟩ := (ons_mem l x _ _).1 hx; omega
  have hzr : ∀ x ∈ zrs l 0 l.length, 0 ≤ x ∧ x < ((2 ^ n : Nat) : Int) := fun x hx => by obtain ⟨m, rfl, _, h, _⟩ := (zrs_mem l x _ _).1 hx; omega
  have lon : (ons l 0 l.length).length ≤ l.length := by
    have : ∀ j i, (ons l i j).length ≤ j := by
      intro j
      induction j with
      | zero => intro i; simp [ons]
      | succ j ih => intro i; rw [ons]; split <;> (have := ih (i + 1); simp; omega)
    exact this _ _
  have lzr : (zrs l 0 l.length).length ≤ l.length := by
    have : ∀ j i, (zrs l i j).length ≤ j := by
      intro j
      induction j with
      | zero => intro i; simp [zrs]
      | succ j ih => intro i; rw [zrs]; split <;> (have := ih (i + 1); simp; omega)
    exact this _ _
  exact sol_ok HIN rfl (decide_eq_false (by omega)) (fun w' hW => by have h := bValid_any (W := w') (x := t.toS) (n := (n : Int)) (c3 := c3) (c4 := c4) (Kd.C_below h3 hW) (Kd.C_below h4 hW); rw [hv] at h; exact h)
    (fun w' hW => lists_any (Kd.C_below hc hW) lc (by omega))
    (fun w' A B c d hW hc1 hc2 hA hB => made_any hn t ho (Kd.C_below h3 hW) l3 (Kd.C_below h4 hW) ⟨hA, hon, by omega⟩ ⟨hB, hzr, by omega⟩ hc1 hc2)
end Go.Proofs.Ytpfbommaddaijaa

namespace Go.Proofs.Ytpfbommaddaijaa
open Go.RowKit Go.Proofs.YtpfbommaddaijaaW.PrintWords Go.Proofs.YtpfbommaddaijaaW.PrintLast Go.Proofs.YtpfbommaddaijaaW.PrintMore PBoundTo
set_option linter.unusedVariables false
set_option linter.unusedSimpArgs false

theorem V_came {α : Type} {d : Kd α} (hd : Kd.Heap d) {e : Nat} {w : World} {base : Nat} {A : Option Addr} {c : Nat} {xs : List α} (h : Kd.C d w A xs.length xs) (hc : xs.length ≤ c) : Kd.V d e w base (fun k => k < w.heap.size) (.slice A xs.length c) xs :=
  Kd.V_mk hc (fun W' hW => hd.C (fun k hk => hW k hk hk) h)
theorem refExecute_any {W : World} {n x y : Nat} {t : Pt} {A3 A4 : Option Addr} {c3 c4 : Nat} (ho : t.ok n) (hx : x < 2 ^ n) (hy : y < 2 ^ n) (h3 : Kd.C Kd.bool W A3 t.toS.f3.length t.toS.f3) (l3 : t.toS.f3.length ≤ c3) (h4 : Kd.C k32 W A4 t.toS.f4.length t.toS.f4) (l4 : t.toS.f4.length ≤ c4) :
    Calls Try.prog 52 #[.agg #[.bool t.toS.f0, I t.toS.f1, I t.toS.f2, .slice A3 t.toS.f3.length c3, .slice A4 t.toS.f4.length c4], I x, I y] W fun e W' => e = .returned (I (t.run x y)) ∧ Below W.heap.size W W' := by
  obtain ⟨k, hk⟩ := (execute_ev hx hy t ho).rounds
  exact commodatumref23_Execute.calls k _ _ _ _ A3 c3 _ _ A4 c4 _ _ _ _ W (V_came Kd.heap_bool h3 l3) (V_came k32_heap h4 l4) hk
end Go.Proofs.Ytpfbommaddaijaa

