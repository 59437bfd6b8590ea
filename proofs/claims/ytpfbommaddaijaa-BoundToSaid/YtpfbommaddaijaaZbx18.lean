/- Formula trees and formulas as arguments: one for the other; Tables of any length: bits.Len, inputs, copies. -/
import Derived.Test.YtpfbommaddaijaaZbV6
import Derived.Test.YtpfbommaddaijaaZbx07
import Derived.Test.YtpfbommaddaijaaZbKb
import Derived.Test.YtpfbommaddaijaaZbx04
namespace Go.Proofs.Ytpfbommaddaijaa
open Go.RowKit Go.Proofs.YtpfbommaddaijaaW.PrintWords Go.Proofs.YtpfbommaddaijaaW.PrintLast PBoundTo
set_option linter.unusedVariables false
set_option linter.unusedSimpArgs false

def toS : Fx → S24
  | .leaf k n => ⟨k, n, []⟩
  | .not a => ⟨2, 0, [toS a]⟩
  | .bin k a b => ⟨k, 0, [toS a, toS b]⟩
theorem c_one {w : World} {d : Kd S24} (hsz : d.sz = 3) {ad : Addr} {s : S24} {ca : List Value} (hl : ca.length = 3) (hc : ∀ i u, ca[i]? = some u → w.cell? (ad.add i) = some u) (hk : d.K w s ca) : d.C w (some ad) [s].length [s] :=
  ⟨rfl, by simp, fun _ => ⟨ad, rfl, fun j p hj => by
    have hj0 : j = 0 := by have := (List.getElem?_eq_some_iff.1 hj).1; simpa using this
    subst hj0
    simp at hj
    subst hj
    exact ⟨ca, by rw [hl, hsz], hk, fun i u hu => by rw [Nat.zero_mul, Nat.zero_add]; exact hc i u hu⟩⟩⟩
theorem c_two {w : World} {d : Kd S24} (hsz : d.sz = 3) {ad : Addr} {s s' : S24} {ca cb : List Value} (hl : ca.length = 3) (hl' : cb.length = 3) (hc : ∀ i u, ca[i]? = some u → w.cell? (ad.add i) = some u) (hc' : ∀ i u, cb[i]? = some u → w.cell? (ad.add (3 + i)) = some u) (hk : d.K w s ca) (hk' : d.K w s' cb) : d.C w (some ad) [s, s'].length [s, s'] :=
  ⟨rfl, by simp, fun _ => ⟨ad, rfl, fun j p hj => by
    have hj2 : j < 2 := by have := (List.getElem?_eq_some_iff.1 hj).1; simpa using this
    have h01 : j = 0 ∨ j = 1 := by omega
    rcases h01 with rfl | rfl
    · simp at hj
      subst hj
      exact ⟨ca, by rw [hl, hsz], hk, fun i u hu => by rw [Nat.zero_mul, Nat.zero_add]; exact hc i u hu⟩
    · simp at hj
      subst hj
      exact ⟨cb, by rw [hl', hsz], hk', fun i u hu => by rw [Nat.one_mul, hsz]; exact hc' i u hu⟩⟩⟩
theorem fm_toS {w : World} : ∀ {t : Fx} {cs : List Value}, Fm w t cs → k24.K w (toS t) cs
  | .leaf k n, cs, ⟨A, c, h⟩ => by
    subst h
    exact k24_mk w ⟨k, n, []⟩ (A2 := A) (c2 := c) (Nat.zero_le _) ⟨rfl, by simp, fun h => absurd h (by simp)⟩
  | .not a, cs, ⟨ad, c, ca, h1, h2, h3, h4, h5⟩ => by
    subst h1
    exact k24_mk w ⟨2, 0, [toS a]⟩ (A2 := some ad) (c2 := c) h2 (c_one rfl h3 h4 (fm_toS h5))
  | .bin k a b, cs, ⟨ad, c, ca, cb, h1, h2, h3, h3', h4, h4', h5, h6⟩ => by
    subst h1
    exact k24_mk w ⟨k, 0, [toS a, toS b]⟩ (A2 := some ad) (c2 := c) h2 (c_two rfl h3 h3' h4 h4' (fm_toS h5) (fm_toS h6))
/-- as an argument -/
theorem fm_arg {w : World} {t : Fx} {x y z : Value} (h : Fm w t [x, y, z]) : ∃ A c, x = I (toS t).f0 ∧ y = I (toS t).f1 ∧ z = .slice A (toS t).f2.length c ∧ (toS t).f2.length ≤ c ∧ Kd.C k24 w A (toS t).f2.length (toS t).f2 := by
  obtain ⟨A, c, h1, h2, h3⟩ := k24_open (fm_toS h)
  simp only [List.cons.injEq, and_true] at h1
  exact ⟨A, c, h1.1, h1.2.1, h1.2.2, h2, h3⟩
def Fx.dep : Fx → Nat
  | .leaf k _ => cost k
  | .not a => a.dep
  | .bin k a b => max a.dep b.dep + cost k
theorem toS_nd : ∀ t : Fx, fnd (toS t) = t.nodes
  | .leaf k n => by rw [toS, fnd, fndL, Fx.nodes]
  | .not a => by rw [toS, fnd, fndL, fndL, Fx.nodes, toS_nd a]; rfl
  | .bin k a b => by rw [toS, fnd, fndL, fndL, fndL, Fx.nodes, toS_nd a, toS_nd b]; omega
theorem toS_ns : ∀ t : Fx, fns (toS t) = t.nest
  | .leaf k n => by rw [toS, fns, fnsL, Fx.nest]
  | .not a => by rw [toS, fns, fnsL, fnsL, Fx.nest, toS_ns a]; omega
  | .bin k a b => by rw [toS, fns, fnsL, fnsL, fnsL, Fx.nest, toS_ns a, toS_ns b]; omega
theorem toS_sz : ∀ t : Fx, fsz (toS t) = t.size
  | .leaf k n => by rw [toS, fsz, Fx.size]
  | .not a => by rw [toS, fsz, fszL, Fx.size, toS_sz a]; rfl
  | .bin k a b => by rw [toS, fsz, fszL, fszL, Fx.size, toS_sz a, toS_sz b]; rfl
theorem toS_dp : ∀ t : Fx, fdp (toS t) = t.dep
  | .leaf k n => by rw [toS, fdp, fdpL, Fx.dep]; omega
  | .not a => by rw [toS, fdp, fdpL, fdpL, Fx.dep, toS_dp a]; unfold cost; simp
  | .bin k a b => by rw [toS, fdp, fdpL, fdpL, fdpL, Fx.dep, toS_dp a, toS_dp b]; omega
theorem toS_has (q : Int) : ∀ t : Fx, fhas q (toS t) = t.has q
  | .leaf k n => by rw [toS, fhas, fhasL, Fx.has]; simp
  | .not a => by rw [toS, fhas, fhasL, fhasL, Fx.has, toS_has q a, Bool.or_false, show ((2 : Int) == q) = (q == 2) by rw [Bool.eq_iff_iff, beq_iff_eq, beq_iff_eq]; exact eq_comm]
  | .bin k a b => by rw [toS, fhas, fhasL, fhasL, fhasL, Fx.has, toS_has q a, toS_has q b, Bool.or_false, Bool.or_assoc]
theorem toS_sh : ∀ t : Fx, t.ok 16 → fsh (toS t) = true
  | .leaf k n, h => by
    rw [toS, fsh, fshL]
    rcases h with ⟨rfl, h1, h2⟩ | ⟨rfl, rfl | rfl⟩ <;> simp [nok]
    exact ⟨h1, h2⟩
  | .not a, h => by rw [toS, fsh, fshL, fshL, toS_sh a h]; simp [nok]
  | .bin k a b, h => by
    obtain ⟨hk, h1, h2⟩ := h
    rw [toS, fsh, fshL, fshL, fshL, toS_sh a h1, toS_sh b h2]
    rcases hk with rfl | rfl | rfl <;> simp [nok]
theorem toS_in : ∀ t : Fx, t.ok 16 → fin (toS t) = max 0 t.inp
  | .leaf k n, h => by
    rw [toS, fin, finL, Fx.inp]
    rcases h with ⟨rfl, h1, h2⟩ | ⟨rfl, _⟩
    · simp; omega
    · simp only [if_neg (show ¬ (1 : Int) = 0 by decide)]; omega
  | .not a, h => by rw [toS, fin, finL, finL, Fx.inp, toS_in a h]; simp; omega
  | .bin k a b, h => by
    obtain ⟨hk, h1, h2⟩ := h
    rw [toS, fin, finL, finL, finL, Fx.inp, toS_in a h1, toS_in b h2]
    rcases hk with rfl | rfl | rfl <;> simp <;> omega
end Go.Proofs.Ytpfbommaddaijaa

namespace Go.Proofs.Ytpfbommaddaijaa
open Go.RowKit
set_option linter.unusedVariables false
set_option linter.unusedSimpArgs false

def LbR (w : World) (e : Ending) (w' : World) : Prop := ∃ m : Int, 14 ≤ m ∧ m ≤ 400 ∧ e = .returned (I m) ∧ w = w'
theorem tab_32 {x : Nat} (h : 32 ≤ x) (h2 : x < 256) : 6 ≤ bl 13 x := by
  have : ∀ c : Fin 256, 32 ≤ c.val → 6 ≤ bl 13 c.val := by decide +kernel
  exact this ⟨x, h2⟩ h
theorem tab_any (T : ByteArray) (x : Nat) (hx : x < T.size) (k : Int) (h0 : 14 ≤ k) (h1 : k ≤ 64) : 14 ≤ wrap64 (k + wrap64 ((T[x]'hx).toNat : Int)) ∧ wrap64 (k + wrap64 ((T[x]'hx).toNat : Int)) ≤ 400 := by
  have h := (T[x]'hx).toNat_lt
  unfold wrap64
  omega
theorem tab_mid (T : ByteArray) (x : Nat) (hx : x < T.size) (hT : (List.range 256).all (fun i => (T.data.getD i 0).toNat == bl 13 i) = true) (h : 32 ≤ x) (h2 : x < 256) : 14 ≤ wrap64 (8 + wrap64 ((T[x]'hx).toNat : Int)) ∧ wrap64 (8 + wrap64 ((T[x]'hx).toNat : Int)) ≤ 400 := by
  have h3 := bl_le 13 x
  have h4 := tab_32 h h2
  rw [tab_at T _ hx hT h2, wr_small _ (by omega)]
  have e : (8 : Int) + (bl 13 x : Int) = ((bl 13 x + 8 : Nat) : Int) := by omega
  rw [e, wr_small _ (by omega)]
  omega
set_option maxHeartbeats 4000000 in
set_option maxRecDepth 100000 in
theorem len64_big {w : World} (x : Nat) (hx : 8192 ≤ x) (hx2 : x ≤ 140737488355328) : Calls Try.prog 124 #[U x] w (LbR w) := by
  by_cases h1 : 65536 ≤ x
  · by_cases h2 : 4294967296 ≤ x
    · have d1 : decide ((4294967296 : Int) ≤ x) = true := decide_eq_true (by omega)
      obtain ⟨y, hy⟩ : ∃ y, y = x / 4294967296 := ⟨_, rfl⟩
      have e : (x : Int) / 4294967296 = (y : Int) := by omega
      have hy5 : y ≤ 65535 := by omega
      have E := Lib.hid e
      clear e hy hx2
      go_enter Try.func124, Try.ntmps124
      go_upto_region 4 with fail
      rw [E.out]
      clear d1 E h2 h1 hx
      have d2 : decide ((65536 : Int) ≤ y) = false := decide_eq_false (by omega)
      by_cases h3 : 256 ≤ y
      · have d3 : decide ((256 : Int) ≤ y) = true := decide_eq_true (by omega)
        go_wp2
        go_ret
        unfold LbR
        refine ⟨_, ?_, ?_, rfl, rfl⟩
        · exact (tab_any _ _ _ 40 (by decide) (by decide)).1
        · exact (tab_any _ _ _ 40 (by decide) (by decide)).2
      · have d3 : decide ((256 : Int) ≤ y) = false := decide_eq_false (by omega)
        go_wp2
        go_ret
        unfold LbR
        refine ⟨_, ?_, ?_, rfl, rfl⟩
        · exact (tab_any _ _ _ 32 (by decide) (by decide)).1
        · exact (tab_any _ _ _ 32 (by decide) (by decide)).2
    · have d1 : decide ((4294967296 : Int) ≤ x) = false := decide_eq_false (by omega)
      have d2 : decide ((65536 : Int) ≤ x) = true := decide_eq_true (by omega)
      obtain ⟨y, hy⟩ : ∃ y, y = x / 65536 := ⟨_, rfl⟩
      have e : (x : Int) / 65536 = (y : Int) := by omega
      have hy5 : y ≤ 65535 := by omega
      have E := Lib.hid e
      clear e hy hx2
      go_enter Try.func124, Try.ntmps124
      go_upto_region 7 with fail
      rw [E.out]
      clear d1 d2 E h2 h1 hx
      by_cases h3 : 256 ≤ y
      · have d3 : decide ((256 : Int) ≤ y) = true := decide_eq_true (by omega)
        go_wp2
        go_ret
        unfold LbR
        refine ⟨_, ?_, ?_, rfl, rfl⟩
        · exact (tab_any _ _ _ 24 (by decide) (by decide)).1
        · exact (tab_any _ _ _ 24 (by decide) (by decide)).2
      · have d3 : decide ((256 : Int) ≤ y) = false := decide_eq_false (by omega)
        go_wp2
        go_ret
        unfold LbR
        refine ⟨_, ?_, ?_, rfl, rfl⟩
        · exact (tab_any _ _ _ 16 (by decide) (by decide)).1
        · exact (tab_any _ _ _ 16 (by decide) (by decide)).2
  · have d1 : decide ((4294967296 : Int) ≤ x) = false := decide_eq_false (by omega)
    have d2 : decide ((65536 : Int) ≤ x) = false := decide_eq_false (by omega)
    have d3 : decide ((256 : Int) ≤ x) = true := decide_eq_true (by omega)
    go_enter Try.func124, Try.ntmps124
    go_wp2
    go_ret
    unfold LbR
    refine ⟨_, ?_, ?_, rfl, rfl⟩
    · exact (tab_mid _ _ _ (by kernel_rfl) (by omega) (by omega)).1
    · exact (tab_mid _ _ _ (by kernel_rfl) (by omega) (by omega)).2
set_option maxHeartbeats 2000000 in
theorem len_big {w : World} (x : Nat) (hx : 8192 ≤ x) (hx2 : x ≤ 140737488355328) : Calls Try.prog 86 #[U x] w (LbR w) := by
  have H := Lib.hid (fun w : World => len64_big (w := w) x hx hx2)
  unfold LbR at H
  clear hx hx2
  go_enter Try.func86, Try.ntmps86
  go_wp2_with (go_at_call 124; refine (H.out _).mono ?_; rintro e w' ⟨m, m1, m2, rfl, rfl⟩)
  go_ret
  unfold LbR
  exact ⟨m, m1, m2, rfl, rfl⟩
def IbR (w : World) (e : Ending) (w' : World) : Prop := ∃ n : Int, e = .returned (.tuple #[I n, .bool false]) ∧ ∃ m, w' = w.drewN m
set_option maxHeartbeats 4000000 in
theorem inputs_big {w : World} {a : Option Addr} {len cap : Nat} (hl : 8192 ≤ len) (hl2 : len ≤ 140737488355328) : Calls Try.prog 84 #[.slice a len cap] w (IbR w) := by
  have H := Lib.hid (fun w : World => len_big (w := w) len hl hl2)
  unfold LbR at H
  clear hl
  go_enter Try.func84, Try.ntmps84
  go_upto_region 2 with (go_at_call 86; refine (H.out _).mono ?_; rintro e w' ⟨m, m1, m2, rfl, rfl⟩)
  have d1 : decide ((0 : Int) ≤ m - 1) = true := decide_eq_true (by omega)
  have d1' : decide ((1 : Int) ≤ m) = true := decide_eq_true (by omega)
  have d2 : decide (m - 1 ≤ 12) = false := decide_eq_false (by omega)
  have d2' : decide (m ≤ 13) = false := decide_eq_false (by omega)
  go_quiet (fail)
  go_wp2
  go_ret2
  unfold IbR
  exact ⟨_, rfl, _, rfl⟩
set_option maxRecDepth 100000 in
theorem bools_someB {w : World} {b : Addr} {n cap : Nat} {f : Nat → Bool} (h : Bs w (.slice (some b) n cap) n f) (hn : n ≤ 140737488355328) : Calls Try.prog 23 #[.slice (some b) n cap] w fun e w' => ∃ v, e = .returned v ∧ Bs w' v n f ∧ Below w.heap.size w w' := by
  obtain ⟨i0, hi, hz0, hz1, hz2⟩ := info_parts Try.info4
  have hcell : ∀ j u, ((List.range n).map fun i => Value.bool (f i))[j]? = some u → w.cell? (b.add j) = some u := fun j u hj => by
    have hjn : j < n := by have := (List.getElem?_eq_some_iff.1 hj).1; simpa using this
    simp [hjn] at hj
    subst hj
    obtain ⟨b', e, c⟩ := h.at' hjn
    cases e
    exact c
  have HC := Lib.hid (fun j u hj => cell_alloc (hcell j u hj) (.cells #[] 4))
  have hB : Hid (Below w.heap.size w (w.alloc (.cells #[] 4))) := Lib.hid ((Below.refl _ _).alloc (Nat.le_refl _) _)
  have HOW := Lib.hid (World.ownsRow_made (base := w.heap.size) (e := 4) (size := 1) w #[] 0 (Nat.le_refl _) (by decide) rfl)
  clear h hcell
  go_enter Try.func23, Try.ntmps23
  go_wp2_with (at_builtin; refine wpList_append_own _ rfl (.tmp 3) (.tmp 4) 29 rfl w.heap.size 4 i0 _ 1 1 Try.underlying29 hi hz0 hz1 hz2 rfl (by decide) _ 0 [] rfl HOW.out b n cap ((List.range n).map fun i => Value.bool (f i)) rfl (by simp) HC.out (fun u hu => by simp at hu; obtain ⟨i, _, rfl⟩ := hu; rfl) (by unfold maxLen; omega) (by omega) (by simp) ?_; intro v' w' ho hgr _; have HO := Lib.hid ho; have HG := Lib.hid (hB.out.grown hgr (by simp) (fun x hx => by cases hx; exact Nat.le_refl _)); clear ho hgr)
  go_ret
  exact ⟨_, rfl, own_bs (by simpa using HO.out), HG.out⟩
theorem bools_big {w : World} {a : Option Addr} {n cap : Nat} {f : Nat → Bool} (h : Bs w (.slice a n cap) n f) (hnil : a = none → cap = 0) (hn : n ≤ 140737488355328) : Calls Try.prog 23 #[.slice a n cap] w fun e w' => ∃ v, e = .returned v ∧ Bs w' v n f ∧ Below w.heap.size w w' := by
  cases a with
  | some b => exact bools_someB h hn
  | none =>
    obtain rfl := hnil rfl
    obtain ⟨a', c', h1, h2, h3, h4, h5⟩ := h.ex
    cases h1
    have h0 : n = 0 := by omega
    subst h0
    exact bools_none
end Go.Proofs.Ytpfbommaddaijaa

