/- The law BoundTo; A table that came in, with its reach. -/
import Derived.Test.YtpfbommaddaijaaZbVc
import Derived.Test.YtpfbommaddaijaaZbx24
import Derived.Test.YtpfbommaddaijaaZbH1
import Derived.Test.YtpfbommaddaijaaZbx04
namespace Go.Proofs.Ytpfbommaddaijaa
open Go.RowKit Go.Proofs.YtpfbommaddaijaaW.PrintWords Go.Proofs.YtpfbommaddaijaaW.PrintLast PBoundTo
set_option linter.unusedVariables false
set_option linter.unusedSimpArgs false

theorem lvs_pos : ∀ t : Pt, 1 ≤ t.lvs
  | .leaf _ => Nat.le_refl _
  | .node _ _ l r => by rw [Pt.lvs]; have := lvs_pos l; omega
theorem lvs_nd : ∀ t : Pt, t.lvs ≤ nd t.toS
  | .leaf v => by rw [Pt.toS, Pt.lvs, nd, ndL]; omega
  | .node p a l r => by rw [Pt.toS, Pt.lvs, nd, ndL, ndL, ndL]; have := lvs_nd l; have := lvs_nd r; omega
/-- what made builds is a formula without FXor, no larger and no deeper than the protocol -/
structure Mg (n : Nat) (t : Pt) (q : Fx) : Prop where
  ok : q.ok n
  no5 : q.has 5 = false
  dep : q.dep ≤ t.dep
  size : q.size ≤ t.lvs
  nodes : q.nodes + 1 ≤ 3 * t.lvs
  nest : q.nest ≤ t.dep + 2
theorem mg_const {n : Nat} {t : Pt} {c : Int} (h : c = 0 ∨ c = 1) : Mg n t (.leaf 1 c) := by
  have := lvs_pos t
  exact ⟨.inr ⟨rfl, h⟩, rfl, by rw [Fx.dep]; exact Nat.zero_le _, by rw [Fx.size]; omega, by rw [Fx.nodes]; omega, by rw [Fx.nest]; omega⟩
theorem mg_bin {n : Nat} {p : Int} {ask : List Bool} {l r : Pt} {k : Int} {x y : Fx} (hk : k = 3 ∨ k = 4) (hx : Mg n l x) (hy : Mg n r y) : Mg n (.node p ask l r) (.bin k x y) := by
  obtain ⟨a1, a2, a3, a4, a5, a6⟩ := hx
  obtain ⟨b1, b2, b3, b4, b5, b6⟩ := hy
  refine ⟨⟨by rcases hk with h | h <;> simp [h], a1, b1⟩, ?_, ?_, ?_, ?_, ?_⟩
  · rw [Fx.has, a2, b2]; rcases hk with rfl | rfl <;> rfl
  · rw [Fx.dep, Pt.dep]
    have : cost k = 1 := by rcases hk with rfl | rfl <;> rfl
    omega
  · rw [Fx.size, Pt.lvs]; omega
  · rw [Fx.nodes, Pt.lvs]; omega
  · rw [Fx.nest, Pt.dep]; omega
theorem md_good : ∀ (t : Pt) {n : Nat}, t.ok n → ∀ (a b : List Int), (md t a b).2 = true → Mg n t (md t a b).1
  | .leaf v, n, ho, a, b, h => by
    rw [md] at h ⊢
    by_cases ea : a.length = 0
    · rw [if_pos ea]; exact mg_const (.inl rfl)
    rw [if_neg ea]
    by_cases eb : b.length = 0
    · rw [if_pos eb]; exact mg_const (.inr rfl)
    rw [if_neg eb]
    obtain ⟨h1, h2⟩ := ho
    by_cases e : (a.getD 0 0).toNat.testBit v.toNat = true
    · rw [if_pos e]
      exact ⟨.inl ⟨rfl, h1, h2⟩, rfl, Nat.le_refl _, Nat.le_refl _, by show 1 + 1 ≤ 3 * 1; omega, by show 1 ≤ 0 + 2; omega⟩
    · rw [if_neg e]
      exact ⟨.inl ⟨rfl, h1, h2⟩, rfl, Nat.le_refl _, Nat.le_refl _, by show 1 + 1 + 1 ≤ 3 * 1; omega, by show 1 + 1 ≤ 0 + 2; omega⟩
  | .node pl ask l r, n, ho, a, b, h => by
    rw [md] at h ⊢
    by_cases ea : a.length = 0
    · rw [if_pos ea]; exact mg_const (.inl rfl)
    rw [if_neg ea] at h ⊢
    by_cases eb : b.length = 0
    · rw [if_pos eb]; exact mg_const (.inr rfl)
    rw [if_neg eb] at h ⊢
    obtain ⟨ho1, ho2, ho3, ho4⟩ := ho
    by_cases ep : pl = 1
    · rw [if_pos ep] at h ⊢
      obtain ⟨h1, h2⟩ := comb_snd.1 h
      unfold comb
      rw [if_pos (by rw [h1, h2]; rfl)]
      exact mg_bin (.inl rfl) (md_good l ho3 _ _ h1) (md_good r ho4 _ _ h2)
    · rw [if_neg ep] at h ⊢
      obtain ⟨h1, h2⟩ := comb_snd.1 h
      unfold comb
      rw [if_pos (by rw [h1, h2]; rfl)]
      exact mg_bin (.inr rfl) (md_good l ho3 _ _ h1) (md_good r ho4 _ _ h2)
/-- the formula that made builds has the table -/
theorem md_table {t : Pt} {n : Nat} (ho : t.ok n) (l : List Bool) (h : (md t (ons l 0 l.length) (zrs l 0 l.length)).2 = true) (u : Nat) (hu : u < l.length) : (md t (ons l 0 l.length) (zrs l 0 l.length)).1.val u = l.getD u false := by
  obtain ⟨h1, h2⟩ := md_val t ho _ _ h
  cases e : l.getD u false with
  | true => exact h1 (u : Int) ((ons_mem l _ _ _).2 ⟨u, rfl, Nat.zero_le _, by omega, e⟩)
  | false => exact h2 (u : Int) ((zrs_mem l _ _ _).2 ⟨u, rfl, Nat.zero_le _, by omega, e⟩)
theorem equal34 {W : World} {A B : Option Addr} {N c d : Nat} {f : Nat → Bool} (h1 : Bs W (.slice A N c) N f) (h2 : Bs W (.slice B N d) N f) : Calls Try.prog 34 #[.slice A N c, .slice B N d] W fun e w' => e = .returned (.bool true) ∧ Below W.heap.size W w' := by
  have H := Lib.hid (equal82 h1 h2)
  clear h1 h2
  go_enter Try.func34, Try.ntmps34
  go_wp2_with (go_at_call 82; (with_reducible refine H.out.mono ?_); rintro e w2 ⟨rfl, hb⟩)
  go_ret
  exact ⟨rfl, hb⟩
/-- solved, where the table is too long -/
theorem solved_long {W : World} {x : S32} {A3 A4 ta : Option Addr} {c3 c4 len tc : Nat} (hl : 8192 ≤ len) (hl2 : len ≤ 140737488355328) :
    Calls Try.prog 100 #[.agg #[.bool x.f0, I x.f1, I x.f2, .slice A3 x.f3.length c3, .slice A4 x.f4.length c4], .slice ta len tc] W fun e w' => e = .returned (.tuple #[.agg #[I 0, I 0, .slice none 0 0], .bool false, I 1]) ∧ Below W.heap.size W w' :=
  sol_noB (fun w' => (inputs_big (w := w') (a := ta) (cap := tc) hl hl2).mono fun e w'' ⟨n, h1, m, h2⟩ => ⟨n, h1, by rw [h2]; exact pw_below_drewN (Below.refl _ _) m⟩)
theorem fr2_of {W : World} {t : Pt} {n : Nat} {l : List Bool} {f : Nat → Bool} {ta : Option Addr} {len tc : Nat} {q : Fx} (hn : n ≤ 12) (hlen : len = 2 ^ n) (hq : Mg n t q) (hv : wok 0 1 (toS q) = true) (ht : Bs W (.slice ta len tc) len f) (hval : ∀ u, u < len → q.val u = f u) : Fr2 W q n (max 0 q.inp) q.dep q.size (.slice ta len tc) := by
  have ho16 : q.ok 16 := Fx.ok_mono (by omega) hq.ok
  obtain ⟨w1, w2, w3⟩ := wok_true.1 hv
  have hfn : fnd (toS q) ≤ 20000 := by omega
  refine ⟨fun w x y z hb hf => ?_, fun w x y z hb hf => ?_, fun w x y z hb hf => ?_, fun w x y z hb hf => ?_, fun w x y z hb hf => ?_, fun w x y z hb hf => ?_⟩
  · obtain ⟨A, c, rfl, rfl, rfl, l2, hC⟩ := fm_arg hf
    have h := rvalid (W := w) (c := c) hfn hC
    rw [show fvl (toS q) = true by unfold fvl; rw [w1]; simp; omega] at h
    exact h
  · obtain ⟨A, c, rfl, rfl, rfl, l2, hC⟩ := fm_arg hf
    have h := rhas 5 (fns (toS q)) (toS q) (W := w) (c := c) (Nat.le_refl _) hC
    rw [toS_has, hq.no5] at h
    exact h
  · obtain ⟨A, c, rfl, rfl, rfl, l2, hC⟩ := fm_arg hf
    have h := rinputs (fns (toS q)) (toS q) (W := w) (c := c) (Nat.le_refl _) w1 hC
    rw [toS_in q ho16] at h
    exact h
  · obtain ⟨A, c, rfl, rfl, rfl, l2, hC⟩ := fm_arg hf
    have h := rdepth (fns (toS q)) (toS q) (W := w) (c := c) (Nat.le_refl _) (by omega) hC
    rw [toS_dp] at h
    exact h
  · obtain ⟨A, c, rfl, rfl, rfl, l2, hC⟩ := fm_arg hf
    have h := rsize (fns (toS q)) (toS q) (W := w) (c := c) (Nat.le_refl _) (by omega) hC
    rw [toS_sz] at h
    exact h
  · refine (truth_any hn hf ho16).mono fun e w' h => ?_
    obtain ⟨a, c, h1, h2, _, h4⟩ := h
    refine ⟨_, h1, fun w3 hw3 => ?_, h4⟩
    rw [← hlen] at h2 ⊢
    exact equal34 ((h2.keep hw3).congr hval) ((ht.keep (hb.trans (h4.mono hb.size))).keep (hw3.mono (Nat.le_refl _)))
theorem to_law {W : World} {x : S32} {A3 A4 ta : Option Addr} {c3 c4 tc len : Nat} {f : Nat → Bool} (h3 : Kd.C Kd.bool W A3 x.f3.length x.f3) (l3 : x.f3.length ≤ c3) (h4 : Kd.C k32 W A4 x.f4.length x.f4) (l4 : x.f4.length ≤ c4) (ht : Bs W (.slice ta len tc) len f) (n1 : ta = none → tc = 0) (hl47 : len ≤ 140737488355328) :
    Calls Try.prog 10 #[.agg #[.bool x.f0, I x.f1, I x.f2, .slice A3 x.f3.length c3, .slice A4 x.f4.length c4], .slice ta len tc] W fun e W' => e = .returned (.bool true) ∧ Below W.heap.size W W' := by
  have hlc : len ≤ tc := by obtain ⟨a, c, h1, h2, _⟩ := ht.ex; cases h1; exact h2
  have hC := ht.C
  obtain ⟨l, hl⟩ : ∃ l : List Bool, l = (List.range len).map f := ⟨_, rfl⟩
  have hll : l.length = len := by rw [hl]; simp
  have HHV : ∀ W', Below W.heap.size W W' → _ := fun W' hW => heavy_any (w := W') (Kd.C_below h3 hW) l3 (Kd.C_below h4 hW) l4
  cases e1 : hv 0 0 x with
  | true => exact to_heavy (fun W' hW => by have := HHV W' hW; rw [e1] at this; exact this)
  | false =>
    have HHV' := fun W' hW => by have := HHV W' hW; rw [e1] at this; exact this
    by_cases g0 : (300000 : Int) < wrap64 ((len : Int) * (len : Int))
    · exact to_long HHV' rfl g0
    have hwg := (hv_false.1 e1).1
    have hC' : Kd.C Kd.bool W ta l.length l := by rw [hl]; exact hC
    have hRI : ∀ W', Below W.heap.size W W' → Calls Try.prog 17 #[.slice ta len tc] W' fun e W'' => e = .returned (I (rin len)) ∧ Below W'.heap.size W' W'' := fun W' hW => by
      exact hIn_any ta len tc
    have hTB : ∀ W', Below W.heap.size W W' → Calls Try.prog 23 #[.slice ta len tc] W' fun e W'' => ∃ tb, e = .returned tb ∧ (∃ tb' dt, tb = .slice tb' l.length dt ∧ l.length ≤ dt ∧ Kd.C Kd.bool W'' tb' l.length l) ∧ Below W'.heap.size W' W'' := fun W' hW => by
      refine (bools_big (ht.keep hW) n1 hl47).mono fun e W'' ⟨v, h1, h2, h3⟩ => ⟨v, h1, ?_, h3⟩
      have h2' := h2
      obtain ⟨a, c, rfl, hc, _⟩ := h2.ex
      refine ⟨a, c, by rw [hll], by omega, ?_⟩
      have := h2'.C
      rw [← hl] at this
      exact this
    have hCP : ∀ (TF : World → Ending → World → Prop), (∀ (w : World) (B3 B4 tb : Option Addr) (d3 d4 dt : Nat), Kd.C Kd.bool w B3 x.f3.length x.f3 → x.f3.length ≤ d3 → Kd.C k32 w B4 x.f4.length x.f4 → Kd.C Kd.bool w tb l.length l → l.length ≤ dt → Calls Try.prog 58 #[.agg #[.bool x.f0, I x.f1, I x.f2, .slice B3 x.f3.length d3, .slice B4 x.f4.length d4], .slice tb l.length dt] w (TF w)) →
        ∀ W', Below W.heap.size W W' → Calls Try.prog 54 #[.agg #[.bool x.f0, I x.f1, I x.f2, .slice A3 x.f3.length c3, .slice A4 x.f4.length c4]] W' fun e W'' => ∃ c, e = .returned c ∧ Cp2 W'' c (fun w v => ∃ tb' dt, v = .slice tb' l.length dt ∧ l.length ≤ dt ∧ Kd.C Kd.bool w tb' l.length l) TF ∧ Below W'.heap.size W' W'' := fun TF hTF W' hW => by
      refine (copy_any (W := W') (x := x) (by omega) (Kd.C_below h3 hW) l3 (Kd.C_below h4 hW) l4).mono fun e W'' h => ?_
      obtain ⟨B3, d3, B4, d4, he, k3, g3, k4, g4, hrow, hb⟩ := h.row
      refine ⟨_, he, fun w' tb hw h => ?_, hb⟩
      obtain ⟨tb', dt, rfl, q1, q2⟩ := h
      exact hTF w' B3 B4 tb' d3 d4 dt (Kd.C_below g3 hw) k3 (Kd.C_below g4 hw) q2 q1
    have HVL : ∀ W', Below W.heap.size W W' → _ := fun W' hW => hValid_any (W := W') (n := rin len) (A3 := A3) (c3 := c3) (c4 := c4) e1 (Kd.C_below h3 hW) (Kd.C_below h4 hW)
    by_cases g1 : rin len < 1
    · refine to_low HHV' rfl g0 hRI (decide_eq_true g1) (hCP _ fun w B3 B4 tb d3 d4 dt q3 k3 q4 qt kt => tf_form fun W' hW => ?_) hTB
      by_cases h8 : l.length < 8192
      · exact solved_bad h8 (.inl (by rw [hll]; exact g1)) (Kd.C_below q3 hW) (Kd.C_below q4 hW)
      · exact solved_long (by omega) (by omega)
    · obtain ⟨n, hn, hlen⟩ := rin_spec (show 1 ≤ rin len by omega)
      have hn12 : n ≤ 12 := by have := rin_le len; omega
      have h4096 : 2 ^ n ≤ 4096 := Nat.pow_le_pow_right (n := 2) (by decide) hn12
      cases e2 : vld (rin len) x with
      | false =>
        exact to_inv HHV' rfl g0 hRI (decide_eq_false g1) (fun W' hW => by have := HVL W' hW; rw [e2] at this; exact this) (hCP _ fun w B3 B4 tb d3 d4 dt q3 k3 q4 qt kt => tf_form fun W' hW => solved_bad (by omega) (.inr (by rw [hll]; exact e2)) (Kd.C_below q3 hW) (Kd.C_below q4 hW)) hTB
      | true =>
        have HVL' := fun W' hW => by have := HVL W' hW; rw [e2] at this; exact this
        have hvn := e2
        rw [hn] at hvn
        obtain ⟨k, t, hk, hk1, hk12, rfl, ho⟩ := vld_pt e2
        obtain rfl : k = n := by omega
        have hdeps : t.dep ≤ 60 ∧ nd t.toS ≤ 20000 := by
          have hv' := e2
          unfold vld at hv'
          simp only [Bool.and_eq_true, decide_eq_true_eq] at hv'
          obtain ⟨⟨⟨⟨_, _⟩, q3⟩, q4⟩, _⟩ := hv'
          rw [Pt.hg] at q3
          omega
        have hlvs := lvs_nd t
        have HSV : ∀ W', Below W.heap.size W W' → Calls Try.prog 20 #[.agg #[.bool t.toS.f0, I t.toS.f1, I t.toS.f2, .slice A3 t.toS.f3.length c3, .slice A4 t.toS.f4.length c4], .slice ta len tc] W' fun e W'' => e = .returned (.bool (slv t l)) ∧ Below W'.heap.size W' W'' := fun W' hW => by
          have := refSolves_any (W := W') (l := l) (c1 := tc) hk12 ho (by omega) (Kd.C_below h3 hW) l3 (Kd.C_below h4 hW) l4 (Kd.C_below hC' hW) (by omega)
          rw [hll] at this
          exact this
        have HSO : ∀ (w : World) (B3 B4 tb : Option Addr) (d3 d4 dt : Nat), Kd.C Kd.bool w B3 t.toS.f3.length t.toS.f3 → t.toS.f3.length ≤ d3 → Kd.C k32 w B4 t.toS.f4.length t.toS.f4 → Kd.C Kd.bool w tb l.length l → l.length ≤ dt → ∀ W', Below w.heap.size w W' → Calls Try.prog 100 #[.agg #[.bool t.toS.f0, I t.toS.f1, I t.toS.f2, .slice B3 t.toS.f3.length d3, .slice B4 t.toS.f4.length d4], .slice tb l.length dt] W' (SR W' (md t (ons l 0 l.length) (zrs l 0 l.length))) := fun w B3 B4 tb d3 d4 dt q3 k3 q4 qt kt W' hW =>
          solved_ok hk1 hk12 ho hvn (by omega) (Kd.C_below q3 hW) k3 (Kd.C_below q4 hW) (Kd.C_below qt hW) kt
        have hms := md_slv ho l
        cases e3 : slv t l with
        | false =>
          rw [e3] at hms
          exact to_none HHV' rfl g0 hRI (decide_eq_false g1) HVL' (fun W' hW => by have := HSV W' hW; rw [e3] at this; exact this) (hCP _ fun w B3 B4 tb d3 d4 dt q3 k3 q4 qt kt => tf_none hms (HSO w B3 B4 tb d3 d4 dt q3 k3 q4 qt kt)) hTB
        | true =>
          rw [e3] at hms
          have HSV' := fun W' hW => by have := HSV W' hW; rw [e3] at this; exact this
          have hmg := md_good t ho _ _ hms
          have HLV : ∀ W', Below W.heap.size W W' → _ := fun W' hW => protLeaves_any t (W := W') (A3 := A3) (c3 := c3) (c4 := c4) (by omega) (Kd.C_below h4 hW)
          cases e4 : wok 0 1 (toS (md t (ons l 0 l.length) (zrs l 0 l.length)).1) with
          | false =>
            refine to_size HHV' rfl g0 hRI (decide_eq_false g1) HVL' HSV' HLV ?_ (hCP _ fun w B3 B4 tb d3 d4 dt q3 k3 q4 qt kt => tf_size hms e4 (HSO w B3 B4 tb d3 d4 dt q3 k3 q4 qt kt)) hTB
            have hno : ¬ ((md t (ons l 0 l.length) (zrs l 0 l.length)).1.nodes ≤ 20000) := fun h => by
              have := wok_true (N := 0) (L := 1) |>.2 ⟨toS_sh _ (Fx.ok_mono (by omega) hmg.ok), by rw [toS_nd]; omega, by rw [toS_ns]; have := hmg.nest; omega⟩
              rw [e4] at this; cases this
            have := hmg.nodes
            omega
          | true =>
            have hval : ∀ u, u < len → (md t (ons l 0 l.length) (zrs l 0 l.length)).1.val u = f u := fun u hu => by
              rw [md_table ho l hms u (by omega), hl, getD_range f hu]
            have hfr := fr2_of (l := l) hk12 hlen hmg e4 ht hval
            have hin := Fx.inp_le (m := (k : Int)) (by omega) hmg.ok
            have hRI' := hRI
            rw [hn] at hRI' HVL' g1
            exact to_ok HHV' rfl g0 hRI' (decide_eq_false g1) HVL' HSV' HLV (fun W' hW => hDepth_any (W := W') (A3 := A3) (c3 := c3) (c4 := c4) (Kd.C_below h4 hW)) hfr (decide_eq_true (by omega)) (decide_eq_true (by have := hmg.dep; rw [dq_toS]; omega)) (decide_eq_true (by have := hmg.size; omega)) (by have := lvs_pos t; omega) (hCP _ fun w B3 B4 tb d3 d4 dt q3 k3 q4 qt kt => tf_ok hms e4 (HSO w B3 B4 tb d3 d4 dt q3 k3 q4 qt kt)) hTB
end Go.Proofs.Ytpfbommaddaijaa

namespace Go.Proofs.Ytpfbommaddaijaa
open Go.ChangeShapes Go.WideShapes Go.ChangeAt Go.RowKit Go.Joins Go.Deep
set_option linter.unusedVariables false
set_option maxRecDepth 100000

theorem open_truths47 {H : Type} {enc : TypeId × Value → H} {W : World} {base fuel : Nat} {held : Bool} {a0 : Option Addr} {len cap : Nat} {d : DataW H} {ps : List MemPlace} {ts : List TypeId} {ds : List (DataW H)} {j : Nat}
    (h : DataW.trod enc Try.prog W base (fun _ => true) held fuel 29 [.slice a0 len cap] = some (d, ps)) (hsz : (DataW.weightsEach Try.prog ts ds).all (· ≤ reachBytes) = true) (ht : ts[j]? = some 29) (hd : ds[j]? = some d) :
    ∃ f, Bs W (.slice a0 len cap) len f ∧ (a0 = none → cap = 0) ∧ len ≤ 140737488355328 := by
  rcases open_slice1 Try.underlying29 Try.cells4 h with ⟨hcs, hx⟩ | ⟨a, len', cap', m, n, V, D, P, hcs, _, hl, hm, hmm, hx, hi⟩
  · simp at hcs
    obtain ⟨rfl, rfl, rfl⟩ := hcs
    exact ⟨fun _ => false, ⟨none, 0, rfl, by omega, by decide, fun h => by omega, fun b hb => by cases hb⟩, fun _ => rfl, by omega⟩
  · simp at hcs
    obtain ⟨rfl, rfl, rfl⟩ := hcs
    simp only [Prod.mk.injEq] at hx
    obtain ⟨rfl, rfl⟩ := hx
    have h1 := sized_slice hsz ht hd Try.underlying29
    rw [Try.bytes4] at h1
    simp only [List.length_map, List.length_range, reachBytes] at h1
    have hlm : len ≤ m := by rw [hmm]; simp; omega
    have each : ∀ i, ∃ y : Bool, i < len → V i = .bool y := fun i => by
      by_cases hil : i < len
      · obtain ⟨_, t0⟩ := hi i (by omega)
        obtain ⟨b, e0, _⟩ := DataW.trod_bool Try.underlying4 t0
        simp at e0
        exact ⟨b, fun _ => e0⟩
      · exact ⟨false, fun h => absurd h hil⟩
    refine ⟨fun i => Classical.choose (each i), ⟨some a, cap, rfl, hl, hm, fun _ => ⟨a, rfl⟩, fun b hb i hil => ?_⟩, by simp, by omega⟩
    cases hb
    exact ((hi i (by omega)).1).trans (congrArg some (Classical.choose_spec (each i) hil))
end Go.Proofs.Ytpfbommaddaijaa

