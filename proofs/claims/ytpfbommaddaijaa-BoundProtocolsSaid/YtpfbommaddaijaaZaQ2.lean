/- What bound.Execute answers on any protocol. -/
import Derived.Test.YtpfbommaddaijaaZaQ1
namespace Go.Proofs.Ytpfbommaddaijaa
open Go.RowKit Go.Proofs.YtpfbommaddaijaaW.PrintWords Go.Proofs.YtpfbommaddaijaaW.PrintLast PBoundTo
set_option linter.unusedVariables false
set_option linter.unusedSimpArgs false

/-- five cells stored -/
theorem blk_put5 {W : World} {g : Nat} {t : TypeId} {a b c d e a' b' c' d' e' : Value} (h : W.heap[g]? = some (.cells #[a', b', c', d', e'] t (0, 0))) :
    (((((W.setCell ⟨g, 0, none⟩ a).setCell ⟨g, 1, none⟩ b).setCell ⟨g, 2, none⟩ c).setCell ⟨g, 3, none⟩ d).setCell ⟨g, 4, none⟩ e).heap[g]? = some (.cells #[a, b, c, d, e] t (0, 0)) :=
  blk_set (blk_set (blk_set (blk_set (blk_set h 0 a) 1 b) 2 c) 3 d) 4 e
theorem blk_far5 {W : World} {g g' : Nat} {t : TypeId} {cs : Array Value} {a b c d e : Value} (h : W.heap[g]? = some (.cells cs t (0, 0))) (hne : g ≠ g') :
    (((((W.setCell ⟨g', 0, none⟩ a).setCell ⟨g', 1, none⟩ b).setCell ⟨g', 2, none⟩ c).setCell ⟨g', 3, none⟩ d).setCell ⟨g', 4, none⟩ e).heap[g]? = some (.cells cs t (0, 0)) :=
  blk_far (blk_far (blk_far (blk_far (blk_far h hne a) hne b) hne c) hne d) hne e
theorem below_put5 {w W : World} {g : Nat} {a b c d e : Value} (h : Below w.heap.size w W) (hg : w.heap.size ≤ g) :
    Below w.heap.size w (((((W.setCell ⟨g, 0, none⟩ a).setCell ⟨g, 1, none⟩ b).setCell ⟨g, 2, none⟩ c).setCell ⟨g, 3, none⟩ d).setCell ⟨g, 4, none⟩ e) :=
  below_set (below_set (below_set (below_set (below_set h hg) hg) hg) hg) hg
set_option maxHeartbeats 4000000 in
set_option maxRecDepth 100000 in
theorem exe_form {W : World} {n x y : Int} {lf : Bool} {v pl : Int} {ask : List Bool} {kids : List S32} {A3 A4 : Option Addr} {c3 c4 : Nat}
    (HV : ∀ W' : World, Below W.heap.size W W' → Calls Try.prog 53 #[.agg #[.bool lf, I v, I pl, .slice A3 ask.length c3, .slice A4 kids.length c4], I n] W' fun e W'' => e = .returned (.bool false) ∧ Below W'.heap.size W' W'') :
    Calls Try.prog 56 #[.agg #[.bool lf, I v, I pl, .slice A3 ask.length c3, .slice A4 kids.length c4], I n, I x, I y] W fun e W' => e = .returned (.tuple #[I 0, I 1]) ∧ Below W.heap.size W W' := by
  replace HV := Lib.hid HV
  obtain ⟨W1, hW1⟩ : ∃ W1, W1 = W.alloc (.cells #[.bool lf, I v, I pl, .slice A3 ask.length c3, .slice A4 kids.length c4] 32) := ⟨_, rfl⟩
  have HB1 : Hid (Below W.heap.size W W1) := Lib.hid (by rw [hW1]; exact below_alloc (Below.refl _ _) _)
  have BK : W1.heap[W.heap.size]? = some (.cells #[.bool lf, I v, I pl, .slice A3 ask.length c3, .slice A4 kids.length c4] 32 (0, 0)) := by rw [hW1]; exact blk_new _ _
  have k0 : W1.cell? ⟨W.heap.size, 0, none⟩ = some (.bool lf) := (blk_cell BK 0).trans rfl
  have k1 : W1.cell? ⟨W.heap.size, 1, none⟩ = some (I v) := (blk_cell BK 1).trans rfl
  have k2 : W1.cell? ⟨W.heap.size, 2, none⟩ = some (I pl) := (blk_cell BK 2).trans rfl
  have k3 : W1.cell? ⟨W.heap.size, 3, none⟩ = some (.slice A3 ask.length c3) := (blk_cell BK 3).trans rfl
  have k4 : W1.cell? ⟨W.heap.size, 4, none⟩ = some (.slice A4 kids.length c4) := (blk_cell BK 4).trans rfl
  clear BK
  generalize ask.length = la at *
  generalize kids.length = lk at *
  go_enter Try.func56, Try.ntmps56
  go_upto_region 1 with fail
  rw [← hW1]
  clear hW1
  go_wp2_with (go_at_call 53; (with_reducible refine (HV.out _ HB1.out).mono ?_); rintro e w2 ⟨rfl, hb2⟩; have HB2 := Lib.hid (HB1.out.trans (hb2.mono HB1.out.size)); clear hb2)
  go_ret2
  exact ⟨rfl, HB2.out⟩
set_option maxHeartbeats 4000000 in
set_option maxRecDepth 100000 in
theorem exe_arg {W : World} {n N : Nat} {x y : Int} {lf b1 b2 b3 b4 : Bool} {v pl : Int} {ask : List Bool} {kids : List S32} {A3 A4 : Option Addr} {c3 c4 : Nat} (hn : (n : Int) ≤ 12) (hw : wrap64 ((2 : Int) ^ n) = (N : Int))
    (h1 : decide (x < 0) = b1) (h2 : decide ((N : Int) ≤ x) = b2) (h3 : decide (y < 0) = b3) (h4 : decide ((N : Int) ≤ y) = b4) (hb : (b1 || b2 || b3 || b4) = true)
    (HV : ∀ W' : World, Below W.heap.size W W' → Calls Try.prog 53 #[.agg #[.bool lf, I v, I pl, .slice A3 ask.length c3, .slice A4 kids.length c4], I n] W' fun e W'' => e = .returned (.bool true) ∧ Below W'.heap.size W' W'') :
    Calls Try.prog 56 #[.agg #[.bool lf, I v, I pl, .slice A3 ask.length c3, .slice A4 kids.length c4], I n, I x, I y] W fun e W' => e = .returned (.tuple #[I 0, I 2]) ∧ Below W.heap.size W W' := by
  replace HV := Lib.hid HV
  have hn0 : (0 : Int) ≤ n := Int.natCast_nonneg n
  obtain ⟨W1, hW1⟩ : ∃ W1, W1 = W.alloc (.cells #[.bool lf, I v, I pl, .slice A3 ask.length c3, .slice A4 kids.length c4] 32) := ⟨_, rfl⟩
  have HB1 : Hid (Below W.heap.size W W1) := Lib.hid (by rw [hW1]; exact below_alloc (Below.refl _ _) _)
  have BK : W1.heap[W.heap.size]? = some (.cells #[.bool lf, I v, I pl, .slice A3 ask.length c3, .slice A4 kids.length c4] 32 (0, 0)) := by rw [hW1]; exact blk_new _ _
  have k0 : W1.cell? ⟨W.heap.size, 0, none⟩ = some (.bool lf) := (blk_cell BK 0).trans rfl
  have k1 : W1.cell? ⟨W.heap.size, 1, none⟩ = some (I v) := (blk_cell BK 1).trans rfl
  have k2 : W1.cell? ⟨W.heap.size, 2, none⟩ = some (I pl) := (blk_cell BK 2).trans rfl
  have k3 : W1.cell? ⟨W.heap.size, 3, none⟩ = some (.slice A3 ask.length c3) := (blk_cell BK 3).trans rfl
  have k4 : W1.cell? ⟨W.heap.size, 4, none⟩ = some (.slice A4 kids.length c4) := (blk_cell BK 4).trans rfl
  clear BK
  generalize ask.length = la at *
  generalize kids.length = lk at *
  have hc : b1 = true ∨ (b1 = false ∧ b2 = true) ∨ (b1 = false ∧ b2 = false ∧ b3 = true) ∨ (b1 = false ∧ b2 = false ∧ b3 = false ∧ b4 = true) := by
    revert hb; cases b1 <;> cases b2 <;> cases b3 <;> cases b4 <;> simp
  clear hb
  rcases hc with rfl | ⟨rfl, rfl⟩ | ⟨rfl, rfl, rfl⟩ | ⟨rfl, rfl, rfl, rfl⟩
  all_goals
    go_enter Try.func56, Try.ntmps56
    go_upto_region 1 with fail
    rw [← hW1]
    clear hW1
    go_wp2_with (go_at_call 53; (with_reducible refine (HV.out _ HB1.out).mono ?_); rintro e w2 ⟨rfl, hb2⟩; have HB2 := Lib.hid (HB1.out.trans (hb2.mono HB1.out.size)); clear hb2)
    go_ret2
    exact ⟨rfl, HB2.out⟩
/-- what lies in p's own cells -/
structure Px (w0 w : World) (g : Nat) (t : Pt) : Prop where
  ex : ∃ (A3 A4 : Option Addr) (c3 c4 : Nat), w.heap[g]? = some (.cells #[.bool t.toS.f0, I t.toS.f1, I t.toS.f2, .slice A3 t.toS.f3.length c3, .slice A4 t.toS.f4.length c4] 32 (0, 0)) ∧ Kd.C Kd.bool w0 A3 t.toS.f3.length t.toS.f3 ∧ Kd.C k32 w0 A4 t.toS.f4.length t.toS.f4
set_option maxHeartbeats 8000000 in
set_option maxRecDepth 100000 in
theorem exe_ok {W : World} {n N x y : Nat} {t : Pt} {A3 A4 : Option Addr} {c3 c4 : Nat} (hn : n ≤ 12) (hN : N = 2 ^ n) (ho : t.ok n) (hx : x < N) (hy : y < N)
    (i3 : Kd.C Kd.bool W A3 t.toS.f3.length t.toS.f3) (i4 : Kd.C k32 W A4 t.toS.f4.length t.toS.f4)
    (HV : ∀ W' : World, Below W.heap.size W W' → Calls Try.prog 53 #[.agg #[.bool t.toS.f0, I t.toS.f1, I t.toS.f2, .slice A3 t.toS.f3.length c3, .slice A4 t.toS.f4.length c4], I n] W' fun e W'' => e = .returned (.bool true) ∧ Below W'.heap.size W' W'') :
    Calls Try.prog 56 #[.agg #[.bool t.toS.f0, I t.toS.f1, I t.toS.f2, .slice A3 t.toS.f3.length c3, .slice A4 t.toS.f4.length c4], I n, I x, I y] W fun e W' => e = .returned (.tuple #[I (t.run x y), I 0]) ∧ Below W.heap.size W W' := by
  replace HV := Lib.hid HV
  have hw := w2 n hn
  rw [← hN] at hw
  have HN := Lib.hid hN
  have HO := Lib.hid ho
  have hn0 : (0 : Int) ≤ n := Int.natCast_nonneg n
  have hn12 : (n : Int) ≤ 12 := by omega
  have d1 : decide ((x : Int) < 0) = false := decide_eq_false (by omega)
  have d2 : decide ((N : Int) ≤ x) = false := decide_eq_false (by omega)
  have d3 : decide ((y : Int) < 0) = false := decide_eq_false (by omega)
  have d4 : decide ((N : Int) ≤ y) = false := decide_eq_false (by omega)
  have d5 : decide (N ≤ x) = false := decide_eq_false (by omega)
  have d6 : decide (N ≤ y) = false := decide_eq_false (by omega)
  have HX := Lib.hid hx
  have HY := Lib.hid hy
  have HI3 := Lib.hid i3
  have HI4 := Lib.hid i4
  clear hN ho hn hx hy i3 i4
  obtain ⟨R, hR⟩ : ∃ R, R = t.run x y := ⟨_, rfl⟩
  rw [← hR]
  have HR := Lib.hid hR
  clear hR
  obtain ⟨W1, hW1⟩ : ∃ W1, W1 = W.alloc (.cells #[.bool t.toS.f0, I t.toS.f1, I t.toS.f2, .slice A3 t.toS.f3.length c3, .slice A4 t.toS.f4.length c4] 32) := ⟨_, rfl⟩
  have HB1 : Hid (Below W.heap.size W W1) := Lib.hid (by rw [hW1]; exact below_alloc (Below.refl _ _) _)
  have BK : W1.heap[W.heap.size]? = some (.cells #[.bool t.toS.f0, I t.toS.f1, I t.toS.f2, .slice A3 t.toS.f3.length c3, .slice A4 t.toS.f4.length c4] 32 (0, 0)) := by rw [hW1]; exact blk_new _ _
  have k0 : W1.cell? ⟨W.heap.size, 0, none⟩ = some (.bool t.toS.f0) := (blk_cell BK 0).trans rfl
  have k1 : W1.cell? ⟨W.heap.size, 1, none⟩ = some (I t.toS.f1) := (blk_cell BK 1).trans rfl
  have k2 : W1.cell? ⟨W.heap.size, 2, none⟩ = some (I t.toS.f2) := (blk_cell BK 2).trans rfl
  have k3 : W1.cell? ⟨W.heap.size, 3, none⟩ = some (.slice A3 t.toS.f3.length c3) := (blk_cell BK 3).trans rfl
  have k4 : W1.cell? ⟨W.heap.size, 4, none⟩ = some (.slice A4 t.toS.f4.length c4) := (blk_cell BK 4).trans rfl
  have HBK := Lib.hid BK
  have HPX : Hid (∀ w2, Below W1.heap.size W1 w2 → Px W w2 W.heap.size t) := Lib.hid (fun w2 hb => ⟨A3, A4, c3, c4, blk_below HBK.out hb, HI3.out, HI4.out⟩)
  clear BK
  generalize t.toS.f3.length = la at *
  generalize t.toS.f4.length = lk at *
  generalize t.toS.f0 = lf at *
  generalize t.toS.f1 = v at *
  generalize t.toS.f2 = pl at *
  go_enter Try.func56, Try.ntmps56
  go_upto_region 1 with fail
  rw [← hW1]
  clear hW1
  go_wp2_with (go_at_call 53; (with_reducible refine (HV.out _ HB1.out).mono ?_); rintro e w2 ⟨rfl, hb2⟩; have HB2 := Lib.hid (HB1.out.trans (hb2.mono HB1.out.size)); have HP2 := Lib.hid (HPX.out _ hb2); clear hb2)
  go_loopg [10, 11] t.dep (fun kq v10 v11 w' => ∃ t' : Pt, Hid (t'.dep = kq) ∧ Hid (t'.ok n) ∧ Hid (t'.run x y = R) ∧ Hid (Px W w' W.heap.size t') ∧ Hid (Below W.heap.size W w') ∧ Hid (W.heap.size < w'.heap.size))
  case atStart => exact ⟨t, Lib.hid rfl, HO, Lib.hid HR.out.symm, HP2, HB2, Lib.hid (by obtain ⟨_, _, _, _, h, _⟩ := HP2.out.ex; exact blk_lt h)⟩
  case round =>
    clear HP2 HB2 HBK HPX HB1 k0 k1 k2 k3 k4 HI3 HI4 HO HV d1 d2 d3 d4 d5 d6 hw
    obtain ⟨t', HD, HO, HR, HP, HB, HS⟩ := hrel
    obtain ⟨A3', A4', c3', c4', hbk, j3, j4⟩ := HP.out.ex
    cases t' with
    | leaf v' =>
      have k0 : wr.cell? ⟨W.heap.size, 0, none⟩ = some (.bool true) := (blk_cell hbk 0).trans rfl
      have k1 : wr.cell? ⟨W.heap.size, 1, none⟩ = some (I v') := (blk_cell hbk 1).trans rfl
      clear hbk j3 j4
      go_wp2
      go_ret2
      exact ⟨by rw [← HR.out]; rfl, HB.out⟩
    | node pl' ask l r =>
      have j3' : Kd.C Kd.bool W A3' ask.length ask := j3
      have j4' : Kd.C k32 W A4' ([l.toS, r.toS] : List S32).length [l.toS, r.toS] := j4
      obtain ⟨ad, B3, d3, B4, d4, rfl, x0, x1, x2, x3, x4, l3, i3, l4, i4⟩ := at_T32 j4' (0 : Int) (by omega) (by simp)
      obtain ⟨ad', C3, f3, C4, f4, he, y0, y1, y2, y3, y4, l3', i3', l4', i4'⟩ := at_T32 j4' (1 : Int) (by omega) (by simp)
      cases he
      have hbk' : wr.heap[W.heap.size]? = some (.cells #[.bool false, I 0, I pl', .slice A3' ask.length c3', .slice (some ad) 2 c4'] 32 (0, 0)) := hbk
      clear hbk j3 j4 j4'
      obtain ⟨ho1, ho2, ho3, ho4⟩ := HO.out
      have HO3 := Lib.hid ho3
      have HO4 := Lib.hid ho4
      have hlen : ask.length = N := by rw [ho2, HN.out]
      have HI3 := Lib.hid i3
      have HI4 := Lib.hid i4
      have HI3' := Lib.hid i3'
      have HI4' := Lib.hid i4'
      clear ho2 ho3 ho4 HO l3 l4 l3' l4' i3 i4 i3' i4'
      have x0' : W.cell? ad = some (.bool l.toS.f0) := by have h := x0; rw [show (0 : Int).toNat * 5 = 0 from rfl, Addr.add_zero'] at h; exact h
      have x1' : W.cell? ⟨ad.block, ad.off + 1, none⟩ = some (I l.toS.f1) := by have h := x1; rw [show (0 : Int).toNat * 5 = 0 from rfl, Addr.add_zero'] at h; exact h
      have x2' : W.cell? ⟨ad.block, ad.off + 2, none⟩ = some (I l.toS.f2) := by have h := x2; rw [show (0 : Int).toNat * 5 = 0 from rfl, Addr.add_zero'] at h; exact h
      have x3' : W.cell? ⟨ad.block, ad.off + 3, none⟩ = some (.slice B3 l.toS.f3.length d3) := by have h := x3; rw [show (0 : Int).toNat * 5 = 0 from rfl, Addr.add_zero'] at h; exact h
      have x4' : W.cell? ⟨ad.block, ad.off + 4, none⟩ = some (.slice B4 l.toS.f4.length d4) := by have h := x4; rw [show (0 : Int).toNat * 5 = 0 from rfl, Addr.add_zero'] at h; exact h
      have y0' : W.cell? ⟨ad.block, ad.off + 5, none⟩ = some (.bool r.toS.f0) := y0
      have y1' : W.cell? ⟨ad.block, ad.off + 5 + 1, none⟩ = some (I r.toS.f1) := y1
      have y2' : W.cell? ⟨ad.block, ad.off + 5 + 2, none⟩ = some (I r.toS.f2) := y2
      have y3' : W.cell? ⟨ad.block, ad.off + 5 + 3, none⟩ = some (.slice C3 r.toS.f3.length f3) := y3
      have y4' : W.cell? ⟨ad.block, ad.off + 5 + 4, none⟩ = some (.slice C4 r.toS.f4.length f4) := y4
      replace x0' := cell_keep' HB.out x0'
      replace y0' := cell_keep' HB.out y0'
      replace x1' := cell_keep' HB.out x1'
      replace y1' := cell_keep' HB.out y1'
      replace x2' := cell_keep' HB.out x2'
      replace y2' := cell_keep' HB.out y2'
      replace x3' := cell_keep' HB.out x3'
      replace y3' := cell_keep' HB.out y3'
      replace x4' := cell_keep' HB.out x4'
      replace y4' := cell_keep' HB.out y4'
      clear x0 x1 x2 x3 x4 y0 y1 y2 y3 y4
      rcases ho1 with rfl | rfl
      · obtain ⟨aa, rfl, ca⟩ := Kd.at_bool j3' (x : Int) (Int.natCast_nonneg _) (by rw [hlen]; exact Int.ofNat_lt.2 HX.out)
        have hrd : rdOf false ask (x : Int) = ask.getD x false := by simp only [rdOf, Int.toNat_natCast]
        rw [Int.toNat_natCast, hrd] at ca
        replace ca := cell_keep' HB.out ca
        have cat : (x : Int) < ask.length := by rw [hlen]; exact Int.ofNat_lt.2 HX.out
        have cat0 : (0 : Int) ≤ x := Int.natCast_nonneg _
        clear hrd j3' hlen
        have HPB0 := Lib.hid hbk'
        have k0 : wr.cell? ⟨W.heap.size, 0, none⟩ = some (.bool false) := (blk_cell hbk' 0).trans rfl
        have k2 : wr.cell? ⟨W.heap.size, 2, none⟩ = some (I 0) := (blk_cell hbk' 2).trans rfl
        have k4 : wr.cell? ⟨W.heap.size, 4, none⟩ = some (.slice (some ad) 2 c4') := (blk_cell hbk' 4).trans rfl
        clear hbk'
        obtain ⟨Wa, hWa⟩ : ∃ Wa, Wa = wr.alloc (.cells #[.bool l.toS.f0, I l.toS.f1, I l.toS.f2, .slice B3 l.toS.f3.length d3, .slice B4 l.toS.f4.length d4] 32) := ⟨_, rfl⟩
        have HNB : Hid (Wa.heap[wr.heap.size]? = some (.cells #[.bool l.toS.f0, I l.toS.f1, I l.toS.f2, .slice B3 l.toS.f3.length d3, .slice B4 l.toS.f4.length d4] 32 (0, 0))) := Lib.hid (by rw [hWa]; exact blk_new _ _)
        have HPB : Hid (Wa.heap[W.heap.size]? = some (.cells #[.bool false, I 0, I 0, .slice (some aa) ask.length c3', .slice (some ad) 2 c4'] 32 (0, 0))) := Lib.hid (by rw [hWa]; exact blk_alloc HPB0.out _)
        have HBW : Hid (Below wr.heap.size wr Wa) := Lib.hid (by rw [hWa]; exact below_alloc (Below.refl _ _) _)
        have HBa : Hid (Below W.heap.size W Wa) := Lib.hid (HB.out.trans (HBW.out.mono HB.out.size))
        have ca' := cell_keep' HBW.out ca
        have v0 : Wa.cell? ⟨ad.block, ad.off + 5, none⟩ = some (.bool r.toS.f0) := cell_keep' HBW.out y0'
        have v1 : Wa.cell? ⟨ad.block, ad.off + 5 + 1, none⟩ = some (I r.toS.f1) := cell_keep' HBW.out y1'
        have v2 : Wa.cell? ⟨ad.block, ad.off + 5 + 2, none⟩ = some (I r.toS.f2) := cell_keep' HBW.out y2'
        have v3 : Wa.cell? ⟨ad.block, ad.off + 5 + 3, none⟩ = some (.slice C3 r.toS.f3.length f3) := cell_keep' HBW.out y3'
        have v4 : Wa.cell? ⟨ad.block, ad.off + 5 + 4, none⟩ = some (.slice C4 r.toS.f4.length f4) := cell_keep' HBW.out y4'
        have g0 : Wa.cell? ⟨W.heap.size, 0, none⟩ = some (.bool false) := (blk_cell HPB.out 0).trans rfl
        have s0 := blk_frozen HPB.out 0
        have g1 : Wa.cell? ⟨W.heap.size, 1, none⟩ = some (I 0) := (blk_cell HPB.out 1).trans rfl
        have s1 := blk_frozen HPB.out 1
        have g2 : Wa.cell? ⟨W.heap.size, 2, none⟩ = some (I 0) := (blk_cell HPB.out 2).trans rfl
        have s2 := blk_frozen HPB.out 2
        have g3 : Wa.cell? ⟨W.heap.size, 3, none⟩ = some (.slice (some aa) ask.length c3') := (blk_cell HPB.out 3).trans rfl
        have s3 := blk_frozen HPB.out 3
        have g4 : Wa.cell? ⟨W.heap.size, 4, none⟩ = some (.slice (some ad) 2 c4') := (blk_cell HPB.out 4).trans rfl
        have s4 := blk_frozen HPB.out 4
        have z0 : Wa.cell? ⟨wr.heap.size, 0, none⟩ = some (.bool l.toS.f0) := (blk_cell HNB.out 0).trans rfl
        have o0 := blk_frozen HNB.out 0
        have z1 : Wa.cell? ⟨wr.heap.size, 1, none⟩ = some (I l.toS.f1) := (blk_cell HNB.out 1).trans rfl
        have o1 := blk_frozen HNB.out 1
        have z2 : Wa.cell? ⟨wr.heap.size, 2, none⟩ = some (I l.toS.f2) := (blk_cell HNB.out 2).trans rfl
        have o2 := blk_frozen HNB.out 2
        have z3 : Wa.cell? ⟨wr.heap.size, 3, none⟩ = some (.slice B3 l.toS.f3.length d3) := (blk_cell HNB.out 3).trans rfl
        have o3 := blk_frozen HNB.out 3
        have z4 : Wa.cell? ⟨wr.heap.size, 4, none⟩ = some (.slice B4 l.toS.f4.length d4) := (blk_cell HNB.out 4).trans rfl
        have o4 := blk_frozen HNB.out 4
        have HRR : Hid (ask.getD x false = true → Pt.run x y r = R) := Lib.hid (fun h => by have q := HR.out; rw [Pt.run0, if_pos h] at q; exact q)
        have HRL : Hid (ask.getD x false = false → Pt.run x y l = R) := Lib.hid (fun h => by have q := HR.out; rw [Pt.run0, if_neg (by rw [h]; decide)] at q; exact q)
        have HM : Hid (l.dep < gk ∧ r.dep < gk) := Lib.hid (by have q := HD.out; simp only [Pt.dep] at q; omega)
        clear HR HD ca
        generalize ask.getD x false = ba at *
        generalize ask.length = la at *
        go_upto_region 10 with fail
        rw [← hWa]
        clear hWa x0' x1' x2' x3' x4' y0' y1' y2' y3' y4' k0 k2 k4
        cases ba with
        | false =>
          have HRL' := Lib.hid (HRL.out rfl)
          clear HRR HRL
          have HF := Lib.hid (blk_put5 (a := .bool l.toS.f0) (b := I l.toS.f1) (c := I l.toS.f2) (d := .slice B3 l.toS.f3.length d3) (e := .slice B4 l.toS.f4.length d4) HPB.out)
          have HBF := Lib.hid (below_put5 (a := .bool l.toS.f0) (b := I l.toS.f1) (c := I l.toS.f2) (d := .slice B3 l.toS.f3.length d3) (e := .slice B4 l.toS.f4.length d4) HBa.out (Nat.le_refl _))
          go_wp2
          go_roundg l.dep
          case rel => exact ⟨l, Lib.hid rfl, HO3, HRL', Lib.hid ⟨B3, B4, d3, d4, HF.out, HI3.out, HI4.out⟩, HBF, Lib.hid (blk_lt HF.out)⟩
          case measure => exact HM.out.1
        | true =>
          have HRR' := Lib.hid (HRR.out rfl)
          clear HRR HRL
          go_upto_region 12 with fail
          have HNB2 : Hid ((((((Wa.setCell ⟨wr.heap.size, 0, none⟩ (.bool r.toS.f0)).setCell ⟨wr.heap.size, 1, none⟩ (I r.toS.f1)).setCell ⟨wr.heap.size, 2, none⟩ (I r.toS.f2)).setCell ⟨wr.heap.size, 3, none⟩ (.slice C3 r.toS.f3.length f3)).setCell ⟨wr.heap.size, 4, none⟩ (.slice C4 r.toS.f4.length f4)).heap[wr.heap.size]? = some (.cells #[.bool r.toS.f0, I r.toS.f1, I r.toS.f2, .slice C3 r.toS.f3.length f3, .slice C4 r.toS.f4.length f4] 32 (0, 0))) := Lib.hid (blk_put5 HNB.out)
          have HPB2 : Hid ((((((Wa.setCell ⟨wr.heap.size, 0, none⟩ (.bool r.toS.f0)).setCell ⟨wr.heap.size, 1, none⟩ (I r.toS.f1)).setCell ⟨wr.heap.size, 2, none⟩ (I r.toS.f2)).setCell ⟨wr.heap.size, 3, none⟩ (.slice C3 r.toS.f3.length f3)).setCell ⟨wr.heap.size, 4, none⟩ (.slice C4 r.toS.f4.length f4)).heap[W.heap.size]? = some (.cells #[.bool false, I 0, I 0, .slice (some aa) la c3', .slice (some ad) 2 c4'] 32 (0, 0))) := Lib.hid (blk_far5 HPB.out (Nat.ne_of_lt HS.out))
          have HB2 : Hid (Below W.heap.size W (((((Wa.setCell ⟨wr.heap.size, 0, none⟩ (.bool r.toS.f0)).setCell ⟨wr.heap.size, 1, none⟩ (I r.toS.f1)).setCell ⟨wr.heap.size, 2, none⟩ (I r.toS.f2)).setCell ⟨wr.heap.size, 3, none⟩ (.slice C3 r.toS.f3.length f3)).setCell ⟨wr.heap.size, 4, none⟩ (.slice C4 r.toS.f4.length f4))) := Lib.hid (below_put5 HBa.out (Nat.le_of_lt HS.out))
          clear HNB HPB HBa HBW HPB0 v0 v1 v2 v3 v4 g0 g1 g2 g3 g4 s0 s1 s2 s3 s4 z0 z1 z2 z3 z4 o0 o1 o2 o3 o4 ca'
          generalize (((((Wa.setCell ⟨wr.heap.size, 0, none⟩ (.bool r.toS.f0)).setCell ⟨wr.heap.size, 1, none⟩ (I r.toS.f1)).setCell ⟨wr.heap.size, 2, none⟩ (I r.toS.f2)).setCell ⟨wr.heap.size, 3, none⟩ (.slice C3 r.toS.f3.length f3)).setCell ⟨wr.heap.size, 4, none⟩ (.slice C4 r.toS.f4.length f4)) = Wb at *
          have g0 : Wb.cell? ⟨W.heap.size, 0, none⟩ = some (.bool false) := (blk_cell HPB2.out 0).trans rfl
          have s0 := blk_frozen HPB2.out 0
          have g1 : Wb.cell? ⟨W.heap.size, 1, none⟩ = some (I 0) := (blk_cell HPB2.out 1).trans rfl
          have s1 := blk_frozen HPB2.out 1
          have g2 : Wb.cell? ⟨W.heap.size, 2, none⟩ = some (I 0) := (blk_cell HPB2.out 2).trans rfl
          have s2 := blk_frozen HPB2.out 2
          have g3 : Wb.cell? ⟨W.heap.size, 3, none⟩ = some (.slice (some aa) la c3') := (blk_cell HPB2.out 3).trans rfl
          have s3 := blk_frozen HPB2.out 3
          have g4 : Wb.cell? ⟨W.heap.size, 4, none⟩ = some (.slice (some ad) 2 c4') := (blk_cell HPB2.out 4).trans rfl
          have s4 := blk_frozen HPB2.out 4
          have z0 : Wb.cell? ⟨wr.heap.size, 0, none⟩ = some (.bool r.toS.f0) := (blk_cell HNB2.out 0).trans rfl
          have z1 : Wb.cell? ⟨wr.heap.size, 1, none⟩ = some (I r.toS.f1) := (blk_cell HNB2.out 1).trans rfl
          have z2 : Wb.cell? ⟨wr.heap.size, 2, none⟩ = some (I r.toS.f2) := (blk_cell HNB2.out 2).trans rfl
          have z3 : Wb.cell? ⟨wr.heap.size, 3, none⟩ = some (.slice C3 r.toS.f3.length f3) := (blk_cell HNB2.out 3).trans rfl
          have z4 : Wb.cell? ⟨wr.heap.size, 4, none⟩ = some (.slice C4 r.toS.f4.length f4) := (blk_cell HNB2.out 4).trans rfl
          have HF := Lib.hid (blk_put5 (a := .bool r.toS.f0) (b := I r.toS.f1) (c := I r.toS.f2) (d := .slice C3 r.toS.f3.length f3) (e := .slice C4 r.toS.f4.length f4) HPB2.out)
          have HBF := Lib.hid (below_put5 (a := .bool r.toS.f0) (b := I r.toS.f1) (c := I r.toS.f2) (d := .slice C3 r.toS.f3.length f3) (e := .slice C4 r.toS.f4.length f4) HB2.out (Nat.le_refl _))
          go_wp2
          go_roundg r.dep
          case rel => exact ⟨r, Lib.hid rfl, HO4, HRR', Lib.hid ⟨C3, C4, f3, f4, HF.out, HI3'.out, HI4'.out⟩, HBF, Lib.hid (blk_lt HF.out)⟩
          case measure => exact HM.out.2
      · obtain ⟨aa, rfl, ca⟩ := Kd.at_bool j3' (y : Int) (Int.natCast_nonneg _) (by rw [hlen]; exact Int.ofNat_lt.2 HY.out)
        have hrd : rdOf false ask (y : Int) = ask.getD y false := by simp only [rdOf, Int.toNat_natCast]
        rw [Int.toNat_natCast, hrd] at ca
        replace ca := cell_keep' HB.out ca
        have cat : (y : Int) < ask.length := by rw [hlen]; exact Int.ofNat_lt.2 HY.out
        have cat0 : (0 : Int) ≤ y := Int.natCast_nonneg _
        clear hrd j3' hlen
        have HPB0 := Lib.hid hbk'
        have k0 : wr.cell? ⟨W.heap.size, 0, none⟩ = some (.bool false) := (blk_cell hbk' 0).trans rfl
        have k2 : wr.cell? ⟨W.heap.size, 2, none⟩ = some (I 1) := (blk_cell hbk' 2).trans rfl
        have k4 : wr.cell? ⟨W.heap.size, 4, none⟩ = some (.slice (some ad) 2 c4') := (blk_cell hbk' 4).trans rfl
        clear hbk'
        obtain ⟨Wa, hWa⟩ : ∃ Wa, Wa = wr.alloc (.cells #[.bool l.toS.f0, I l.toS.f1, I l.toS.f2, .slice B3 l.toS.f3.length d3, .slice B4 l.toS.f4.length d4] 32) := ⟨_, rfl⟩
        have HNB : Hid (Wa.heap[wr.heap.size]? = some (.cells #[.bool l.toS.f0, I l.toS.f1, I l.toS.f2, .slice B3 l.toS.f3.length d3, .slice B4 l.toS.f4.length d4] 32 (0, 0))) := Lib.hid (by rw [hWa]; exact blk_new _ _)
        have HPB : Hid (Wa.heap[W.heap.size]? = some (.cells #[.bool false, I 0, I 1, .slice (some aa) ask.length c3', .slice (some ad) 2 c4'] 32 (0, 0))) := Lib.hid (by rw [hWa]; exact blk_alloc HPB0.out _)
        have HBW : Hid (Below wr.heap.size wr Wa) := Lib.hid (by rw [hWa]; exact below_alloc (Below.refl _ _) _)
        have HBa : Hid (Below W.heap.size W Wa) := Lib.hid (HB.out.trans (HBW.out.mono HB.out.size))
        have ca' := cell_keep' HBW.out ca
        have v0 : Wa.cell? ⟨ad.block, ad.off + 5, none⟩ = some (.bool r.toS.f0) := cell_keep' HBW.out y0'
        have v1 : Wa.cell? ⟨ad.block, ad.off + 5 + 1, none⟩ = some (I r.toS.f1) := cell_keep' HBW.out y1'
        have v2 : Wa.cell? ⟨ad.block, ad.off + 5 + 2, none⟩ = some (I r.toS.f2) := cell_keep' HBW.out y2'
        have v3 : Wa.cell? ⟨ad.block, ad.off + 5 + 3, none⟩ = some (.slice C3 r.toS.f3.length f3) := cell_keep' HBW.out y3'
        have v4 : Wa.cell? ⟨ad.block, ad.off + 5 + 4, none⟩ = some (.slice C4 r.toS.f4.length f4) := cell_keep' HBW.out y4'
        have g0 : Wa.cell? ⟨W.heap.size, 0, none⟩ = some (.bool false) := (blk_cell HPB.out 0).trans rfl
        have s0 := blk_frozen HPB.out 0
        have g1 : Wa.cell? ⟨W.heap.size, 1, none⟩ = some (I 0) := (blk_cell HPB.out 1).trans rfl
        have s1 := blk_frozen HPB.out 1
        have g2 : Wa.cell? ⟨W.heap.size, 2, none⟩ = some (I 1) := (blk_cell HPB.out 2).trans rfl
        have s2 := blk_frozen HPB.out 2
        have g3 : Wa.cell? ⟨W.heap.size, 3, none⟩ = some (.slice (some aa) ask.length c3') := (blk_cell HPB.out 3).trans rfl
        have s3 := blk_frozen HPB.out 3
        have g4 : Wa.cell? ⟨W.heap.size, 4, none⟩ = some (.slice (some ad) 2 c4') := (blk_cell HPB.out 4).trans rfl
        have s4 := blk_frozen HPB.out 4
        have z0 : Wa.cell? ⟨wr.heap.size, 0, none⟩ = some (.bool l.toS.f0) := (blk_cell HNB.out 0).trans rfl
        have o0 := blk_frozen HNB.out 0
        have z1 : Wa.cell? ⟨wr.heap.size, 1, none⟩ = some (I l.toS.f1) := (blk_cell HNB.out 1).trans rfl
        have o1 := blk_frozen HNB.out 1
        have z2 : Wa.cell? ⟨wr.heap.size, 2, none⟩ = some (I l.toS.f2) := (blk_cell HNB.out 2).trans rfl
        have o2 := blk_frozen HNB.out 2
        have z3 : Wa.cell? ⟨wr.heap.size, 3, none⟩ = some (.slice B3 l.toS.f3.length d3) := (blk_cell HNB.out 3).trans rfl
        have o3 := blk_frozen HNB.out 3
        have z4 : Wa.cell? ⟨wr.heap.size, 4, none⟩ = some (.slice B4 l.toS.f4.length d4) := (blk_cell HNB.out 4).trans rfl
        have o4 := blk_frozen HNB.out 4
        have HRR : Hid (ask.getD y false = true → Pt.run x y r = R) := Lib.hid (fun h => by have q := HR.out; rw [Pt.run1, if_pos h] at q; exact q)
        have HRL : Hid (ask.getD y false = false → Pt.run x y l = R) := Lib.hid (fun h => by have q := HR.out; rw [Pt.run1, if_neg (by rw [h]; decide)] at q; exact q)
        have HM : Hid (l.dep < gk ∧ r.dep < gk) := Lib.hid (by have q := HD.out; simp only [Pt.dep] at q; omega)
        clear HR HD ca
        generalize ask.getD y false = ba at *
        generalize ask.length = la at *
        go_upto_region 10 with fail
        rw [← hWa]
        clear hWa x0' x1' x2' x3' x4' y0' y1' y2' y3' y4' k0 k2 k4
        cases ba with
        | false =>
          have HRL' := Lib.hid (HRL.out rfl)
          clear HRR HRL
          have HF := Lib.hid (blk_put5 (a := .bool l.toS.f0) (b := I l.toS.f1) (c := I l.toS.f2) (d := .slice B3 l.toS.f3.length d3) (e := .slice B4 l.toS.f4.length d4) HPB.out)
          have HBF := Lib.hid (below_put5 (a := .bool l.toS.f0) (b := I l.toS.f1) (c := I l.toS.f2) (d := .slice B3 l.toS.f3.length d3) (e := .slice B4 l.toS.f4.length d4) HBa.out (Nat.le_refl _))
          go_wp2
          go_roundg l.dep
          case rel => exact ⟨l, Lib.hid rfl, HO3, HRL', Lib.hid ⟨B3, B4, d3, d4, HF.out, HI3.out, HI4.out⟩, HBF, Lib.hid (blk_lt HF.out)⟩
          case measure => exact HM.out.1
        | true =>
          have HRR' := Lib.hid (HRR.out rfl)
          clear HRR HRL
          go_upto_region 12 with fail
          have HNB2 : Hid ((((((Wa.setCell ⟨wr.heap.size, 0, none⟩ (.bool r.toS.f0)).setCell ⟨wr.heap.size, 1, none⟩ (I r.toS.f1)).setCell ⟨wr.heap.size, 2, none⟩ (I r.toS.f2)).setCell ⟨wr.heap.size, 3, none⟩ (.slice C3 r.toS.f3.length f3)).setCell ⟨wr.heap.size, 4, none⟩ (.slice C4 r.toS.f4.length f4)).heap[wr.heap.size]? = some (.cells #[.bool r.toS.f0, I r.toS.f1, I r.toS.f2, .slice C3 r.toS.f3.length f3, .slice C4 r.toS.f4.length f4] 32 (0, 0))) := Lib.hid (blk_put5 HNB.out)
          have HPB2 : Hid ((((((Wa.setCell ⟨wr.heap.size, 0, none⟩ (.bool r.toS.f0)).setCell ⟨wr.heap.size, 1, none⟩ (I r.toS.f1)).setCell ⟨wr.heap.size, 2, none⟩ (I r.toS.f2)).setCell ⟨wr.heap.size, 3, none⟩ (.slice C3 r.toS.f3.length f3)).setCell ⟨wr.heap.size, 4, none⟩ (.slice C4 r.toS.f4.length f4)).heap[W.heap.size]? = some (.cells #[.bool false, I 0, I 1, .slice (some aa) la c3', .slice (some ad) 2 c4'] 32 (0, 0))) := Lib.hid (blk_far5 HPB.out (Nat.ne_of_lt HS.out))
          have HB2 : Hid (Below W.heap.size W (((((Wa.setCell ⟨wr.heap.size, 0, none⟩ (.bool r.toS.f0)).setCell ⟨wr.heap.size, 1, none⟩ (I r.toS.f1)).setCell ⟨wr.heap.size, 2, none⟩ (I r.toS.f2)).setCell ⟨wr.heap.size, 3, none⟩ (.slice C3 r.toS.f3.length f3)).setCell ⟨wr.heap.size, 4, none⟩ (.slice C4 r.toS.f4.length f4))) := Lib.hid (below_put5 HBa.out (Nat.le_of_lt HS.out))
          clear HNB HPB HBa HBW HPB0 v0 v1 v2 v3 v4 g0 g1 g2 g3 g4 s0 s1 s2 s3 s4 z0 z1 z2 z3 z4 o0 o1 o2 o3 o4 ca'
          generalize (((((Wa.setCell ⟨wr.heap.size, 0, none⟩ (.bool r.toS.f0)).setCell ⟨wr.heap.size, 1, none⟩ (I r.toS.f1)).setCell ⟨wr.heap.size, 2, none⟩ (I r.toS.f2)).setCell ⟨wr.heap.size, 3, none⟩ (.slice C3 r.toS.f3.length f3)).setCell ⟨wr.heap.size, 4, none⟩ (.slice C4 r.toS.f4.length f4)) = Wb at *
          have g0 : Wb.cell? ⟨W.heap.size, 0, none⟩ = some (.bool false) := (blk_cell HPB2.out 0).trans rfl
          have s0 := blk_frozen HPB2.out 0
          have g1 : Wb.cell? ⟨W.heap.size, 1, none⟩ = some (I 0) := (blk_cell HPB2.out 1).trans rfl
          have s1 := blk_frozen HPB2.out 1
          have g2 : Wb.cell? ⟨W.heap.size, 2, none⟩ = some (I 1) := (blk_cell HPB2.out 2).trans rfl
          have s2 := blk_frozen HPB2.out 2
          have g3 : Wb.cell? ⟨W.heap.size, 3, none⟩ = some (.slice (some aa) la c3') := (blk_cell HPB2.out 3).trans rfl
          have s3 := blk_frozen HPB2.out 3
          have g4 : Wb.cell? ⟨W.heap.size, 4, none⟩ = some (.slice (some ad) 2 c4') := (blk_cell HPB2.out 4).trans rfl
          have s4 := blk_frozen HPB2.out 4
          have z0 : Wb.cell? ⟨wr.heap.size, 0, none⟩ = some (.bool r.toS.f0) := (blk_cell HNB2.out 0).trans rfl
          have z1 : Wb.cell? ⟨wr.heap.size, 1, none⟩ = some (I r.toS.f1) := (blk_cell HNB2.out 1).trans rfl
          have z2 : Wb.cell? ⟨wr.heap.size, 2, none⟩ = some (I r.toS.f2) := (blk_cell HNB2.out 2).trans rfl
          have z3 : Wb.cell? ⟨wr.heap.size, 3, none⟩ = some (.slice C3 r.toS.f3.length f3) := (blk_cell HNB2.out 3).trans rfl
          have z4 : Wb.cell? ⟨wr.heap.size, 4, none⟩ = some (.slice C4 r.toS.f4.length f4) := (blk_cell HNB2.out 4).trans rfl
          have HF := Lib.hid (blk_put5 (a := .bool r.toS.f0) (b := I r.toS.f1) (c := I r.toS.f2) (d := .slice C3 r.toS.f3.length f3) (e := .slice C4 r.toS.f4.length f4) HPB2.out)
          have HBF := Lib.hid (below_put5 (a := .bool r.toS.f0) (b := I r.toS.f1) (c := I r.toS.f2) (d := .slice C3 r.toS.f3.length f3) (e := .slice C4 r.toS.f4.length f4) HB2.out (Nat.le_refl _))
          go_wp2
          go_roundg r.dep
          case rel => exact ⟨r, Lib.hid rfl, HO4, HRR', Lib.hid ⟨C3, C4, f3, f4, HF.out, HI3'.out, HI4'.out⟩, HBF, Lib.hid (blk_lt HF.out)⟩
          case measure => exact HM.out.2
/-- bound's Execute -/
theorem bExecute_ok {W : World} {n x y : Nat} {t : Pt} {A3 A4 : Option Addr} {c3 c4 : Nat} (hn : n ≤ 12) (ho : t.ok n) (hv : vld n t.toS = true) (hx : x < 2 ^ n) (hy : y < 2 ^ n)
    (i3 : Kd.C Kd.bool W A3 t.toS.f3.length t.toS.f3) (i4 : Kd.C k32 W A4 t.toS.f4.length t.toS.f4) :
    Calls Try.prog 56 #[.agg #[.bool t.toS.f0, I t.toS.f1, I t.toS.f2, .slice A3 t.toS.f3.length c3, .slice A4 t.toS.f4.length c4], I n, I x, I y] W fun e W' => e = .returned (.tuple #[I (t.run x y), I 0]) ∧ Below W.heap.size W W' :=
  exe_ok hn rfl ho hx hy i3 i4 (fun W' hW => by have h := bValid_any (W := W') (x := t.toS) (n := n) (c3 := c3) (c4 := c4) (Kd.C_below i3 hW) (Kd.C_below i4 hW); rw [hv] at h; exact h)
end Go.Proofs.Ytpfbommaddaijaa

