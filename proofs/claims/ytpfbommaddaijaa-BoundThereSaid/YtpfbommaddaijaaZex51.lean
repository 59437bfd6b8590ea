/- The law BoundTo; The law BoundFrom. -/
import Derived.Test.YtpfbommaddaijaaZex41
import Derived.Test.YtpfbommaddaijaaZeVb
import Derived.Test.YtpfbommaddaijaaZeV8c
import Derived.Deep.RegionHeld3
import Derived.Test.YtpfbommaddaijaaZeQk
import Derived.Test.YtpfbommaddaijaaZePa
import Derived.Test.YtpfbommaddaijaaZeH1
import Derived.Test.YtpfbommaddaijaaZex34
import Derived.Test.YtpfbommaddaijaaZeJa
import Derived.Test.YtpfbommaddaijaaZeJ1
namespace Go.Proofs.Ytpfbommaddaijaa
open Go.RowKit Go.Proofs.YtpfbommaddaijaaW.PrintWords Go.Proofs.YtpfbommaddaijaaW.PrintLast PBoundTo
set_option linter.unusedVariables false
set_option linter.unusedSimpArgs false

theorem lvs_pos : ∀ t : Pt, 1 ≤ t.lvs
  | .leaf _ => Nat.le_refl _
  | .node _ _ l r => by rw [Pt.lvs]; have := lvs_pos l; omega
/-- what made builds is a formula without FXor, no larger and no deeper than the protocol -/
structure Mg (n : Nat) (t : Pt) (q : Fx) : Prop where
  ok : q.ok n
  no5 : q.has 5 = false
  dep : q.dep ≤ t.dep
  size : q.size ≤ t.lvs
  nodes : q.nodes + 1 ≤ 3 * t.lvs
  nest : q.nest ≤ t.dep + 2
theorem mg_const {n : Nat} {t : Pt} {c : Int} (h : c = 0 ∨ c = 1) : Mg n t (.leaf 1 c) := by
  have := lvs_pos t
  exact ⟨.inr ⟨rfl, h⟩, rfl, by rw [Fx.dep]; exact Nat.zero_le _, by rw [Fx.size]; omega, by rw [Fx.nodes]; omega, by rw [Fx.nest]; omega⟩
theorem mg_bin {n : Nat} {p : Int} {ask : List Bool} {l r : Pt} {k : Int} {x y : Fx} (hk : k = 3 ∨ k = 4) (hx : Mg n l x) (hy : Mg n r y) : Mg n (.node p ask l r) (.bin k x y) := by
  obtain ⟨a1, a2, a3, a4, a5, a6⟩ := hx
  obtain ⟨b1, b2, b3, b4, b5, b6⟩ := hy
  refine ⟨⟨by rcases hk with h | h <;> simp [h], a1, b1⟩, ?_, ?_, ?_, ?_, ?_⟩
  · rw [Fx.has, a2, b2]; rcases hk with rfl | rfl <;> rfl
  · rw [Fx.dep, Pt.dep]
    have : cost k = 1 := by rcases hk with rfl | rfl <;> rfl
    omega
  · rw [Fx.size, Pt.lvs]; omega
  · rw [Fx.nodes, Pt.lvs]; omega
  · rw [Fx.nest, Pt.dep]; omega
theorem md_good : ∀ (t : Pt) {n : Nat}, t.ok n → ∀ (a b : List Int), (md t a b).2 = true → Mg n t (md t a b).1
  | .leaf v, n, ho, a, b, h => by
    rw [md] at h ⊢
    by_cases ea : a.length = 0
    · rw [if_pos ea]; exact mg_const (.inl rfl)
    rw [if_neg ea]
    by_cases eb : b.length = 0
    · rw [if_pos eb]; exact mg_const (.inr rfl)
    rw [if_neg eb]
    obtain ⟨h1, h2⟩ := ho
    by_cases e : (a.getD 0 0).toNat.testBit v.toNat = true
    · rw [if_pos e]
      exact ⟨.inl ⟨rfl, h1, h2⟩, rfl, Nat.le_refl _, Nat.le_refl _, by show 1 + 1 ≤ 3 * 1; omega, by show 1 ≤ 0 + 2; omega⟩
    · rw [if_neg e]
      exact ⟨.inl ⟨rfl, h1, h2⟩, rfl, Nat.le_refl _, Nat.le_refl _, by show 1 + 1 + 1 ≤ 3 * 1; omega, by show 1 + 1 ≤ 0 + 2; omega⟩
  | .node pl ask l r, n, ho, a, b, h => by
    rw [md] at h ⊢
    by_cases ea : a.length = 0
    · rw [if_pos ea]; exact mg_const (.inl rfl)
    rw [if_neg ea] at h ⊢
    by_cases eb : b.length = 0
    · rw [if_pos eb]; exact mg_const (.inr rfl)
    rw [if_neg eb] at h ⊢
    obtain ⟨ho1, ho2, ho3, ho4⟩ := ho
    by_cases ep : pl = 1
    · rw [if_pos ep] at h ⊢
      obtain ⟨h1, h2⟩ := comb_snd.1 h
      unfold comb
      rw [if_pos (by rw [h1, h2]; rfl)]
      exact mg_bin (.inl rfl) (md_good l ho3 _ _ h1) (md_good r ho4 _ _ h2)
    · rw [if_neg ep] at h ⊢
      obtain ⟨h1, h2⟩ := comb_snd.1 h
      unfold comb
      rw [if_pos (by rw [h1, h2]; rfl)]
      exact mg_bin (.inr rfl) (md_good l ho3 _ _ h1) (md_good r ho4 _ _ h2)
/-- the formula that made builds has the table -/
theorem md_table {t : Pt} {n : Nat} (ho : t.ok n) (l : List Bool) (h : (md t (ons l 0 l.length) (zrs l 0 l.length)).2 = true) (u : Nat) (hu : u < l.length) : (md t (ons l 0 l.length) (zrs l 0 l.length)).1.val u = l.getD u false := by
  obtain ⟨h1, h2⟩ := md_val t ho _ _ h
  cases e : l.getD u false with
  | true => exact h1 (u : Int) ((ons_mem l _ _ _).2 ⟨u, rfl, Nat.zero_le _, by omega, e⟩)
  | false => exact h2 (u : Int) ((zrs_mem l _ _ _).2 ⟨u, rfl, Nat.zero_le _, by omega, e⟩)
theorem equal34 {W : World} {A B : Option Addr} {N c d : Nat} {f : Nat → Bool} (h1 : Bs W (.slice A N c) N f) (h2 : Bs W (.slice B N d) N f) : Calls Try.prog 34 #[.slice A N c, .slice B N d] W fun e w' => e = .returned (.bool true) ∧ Below W.heap.size W w' := by
  have H := Lib.hid (equal82 h1 h2)
  clear h1 h2
  go_enter Try.func34, Try.ntmps34
  go_wp2_with (go_at_call 82; (with_reducible refine H.out.mono ?_); rintro e w2 ⟨rfl, hb⟩)
  go_ret
  exact ⟨rfl, hb⟩
end Go.Proofs.Ytpfbommaddaijaa

namespace Go.Proofs.Ytpfbommaddaijaa
open Go.RowKit Go.Proofs.YtpfbommaddaijaaW.PrintWords Go.Proofs.YtpfbommaddaijaaW.PrintLast PBoundTo
set_option linter.unusedVariables false
set_option linter.unusedSimpArgs false

theorem ok_shp {n : Nat} : ∀ {t : Pt}, t.ok n → shp n t.toS = true
  | .leaf v, h => by
    obtain ⟨h1, h2⟩ := h
    rw [Pt.toS, shp]
    simp [h1, h2]
  | .node pl ask l r, h => by
    obtain ⟨h1, h2, h3, h4⟩ := h
    rw [Pt.toS, shp, shpL, shpL, shpL, ok_shp h3, ok_shp h4]
    rcases h1 with rfl | rfl <;> simp [h2]
theorem ok_inp {n : Int} : ∀ {t : Fx}, t.ok 16 → t.inp ≤ n → t.ok n
  | .leaf k v, h, hi => by
    rcases h with ⟨rfl, h0, h1⟩ | h
    · simp [Fx.inp] at hi
      exact .inl ⟨rfl, h0, by omega⟩
    · exact .inr h
  | .not a, h, hi => by
    rw [Fx.inp] at hi
    exact ok_inp (t := a) h (by omega)
  | .bin k a b, h, hi => by
    obtain ⟨hk, ha, hb⟩ := h
    rw [Fx.inp] at hi
    exact ⟨hk, ok_inp ha (by omega), ok_inp hb (by omega)⟩
theorem toS_inj : ∀ {t u : Fx}, toS t = toS u → t = u
  | .leaf k n, .leaf k' n', h => by simp [toS] at h; obtain ⟨rfl, rfl⟩ := h; rfl
  | .leaf k n, .not a, h => by simp [toS] at h
  | .leaf k n, .bin k' a b, h => by simp [toS] at h
  | .not a, .leaf k n, h => by simp [toS] at h
  | .not a, .not b, h => by simp [toS] at h; rw [toS_inj h]
  | .not a, .bin k b c, h => by simp [toS] at h
  | .bin k a b, .leaf k' n, h => by simp [toS] at h
  | .bin k a b, .not c, h => by simp [toS] at h
  | .bin k a b, .bin k' c d, h => by
    simp [toS] at h
    obtain ⟨rfl, h1, h2⟩ := h
    rw [toS_inj h1, toS_inj h2]
theorem fm_args {w : World} {t : Fx} {A : Option Addr} {c : Nat} (ho : t.ok 16) (hl : (toS t).f2.length ≤ c) (hC : Kd.C k24 w A (toS t).f2.length (toS t).f2) : Fm w t [I (toS t).f0, I (toS t).f1, .slice A (toS t).f2.length c] := by
  obtain ⟨u, h1, h2, h3⟩ := fm_of (fns (toS t)) (toS t) (Nat.le_refl _) (toS_sh t ho) (k24_mk w (toS t) (A2 := A) (c2 := c) hl hC)
  rw [← toS_inj h1]
  rw [← toS_inj h1] at h3
  exact h3
/-- the protocol is light, valid, no deeper, with no more leaves -/
theorem pq_of {t : Fx} {k : Nat} (hk1 : 1 ≤ k) (hk : k ≤ 12) (hp : t.pl k) (hs : t.size ≤ 3000) (hs2 : t.size ≤ 2 ^ (22 - k)) (hd : t.dep ≤ 60) : Pq (fpt k t false) k t.dep t.size := by
  have ho := fpt_ok (neg := false) hp
  have hwg := fpt_wg (n := k) (t := t) (neg := false)
  have hnd := fpt_nd (n := k) (t := t) (neg := false)
  have hdp := fpt_dep (neg := false) hp
  have hlv := fpt_lvs (n := k) (t := t) (neg := false)
  have hmul : t.size * (2 ^ k / 16) ≤ 262144 := by
    have h1 : t.size * (2 ^ k / 16) ≤ 2 ^ (22 - k) * (2 ^ k / 16) := Nat.mul_le_mul_right _ hs2
    have h2 : 2 ^ (22 - k) * (2 ^ k / 16) ≤ 2 ^ (22 - k) * 2 ^ k / 16 := Nat.mul_div_le_mul_div_assoc _ _ _
    have h3 : 2 ^ (22 - k) * 2 ^ k = 4194304 := by rw [← Nat.pow_add, show 22 - k + k = 22 by omega]
    rw [h3] at h2
    omega
  have hhv : hv 0 0 (fpt k t false).toS = false := hv_false.2 ⟨by rw [Nat.mul_add] at hwg; generalize 2 ^ k / 16 = M at hwg hmul; omega, by rw [Pt.hg, hdp]; omega⟩
  refine ⟨fun w A3 c3 A4 c4 h => ?_, fun w A3 c3 A4 c4 h => ?_, fun w A3 c3 A4 c4 h => ?_, fun w A3 c3 A4 c4 h => ?_⟩
  · have := heavy_any (w := w) h.a h.la h.k h.lk
    rw [hhv] at this
    exact this
  · have := hValid_any (W := w) (n := k) (c3 := c3) (c4 := c4) hhv h.a h.k
    rw [show vld k (fpt k t false).toS = true by
      unfold vld
      rw [Pt.hg, hdp, Int.toNat_natCast, ok_shp ho]
      simp only [Bool.and_eq_true, decide_eq_true_eq, and_true]
      omega] at this
    exact this
  · have := hDepth_any (W := w) (A3 := A3) (c3 := c3) (c4 := c4) h.k
    rw [dq_toS, hdp, Nat.min_eq_left (by omega)] at this
    exact this
  · have := protLeaves_any (fpt k t false) (W := w) (A3 := A3) (c3 := c3) (c4 := c4) (by rw [hlv]; omega) h.k
    rw [hlv] at this
    exact this
theorem w2i21 : ∀ j, j < 22 → wrap64 ((2 : Int) ^ j) = ((2 ^ j : Nat) : Int) := by decide +kernel
end Go.Proofs.Ytpfbommaddaijaa

