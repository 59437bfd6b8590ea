/- The law PebbleGraphs: the two rows of three, and its walk. -/
import Derived.Test.YtihpdmchppcbfaaTy
import Derived.Test.YtihpdmchppcbfaaTv
import Derived.Test.YtihpdmchppcbfaaTm
namespace Go.Proofs.Ytihpdmchppcbfaa
open Go.RowKit
set_option linter.unusedVariables false
set_option linter.unusedSimpArgs false

theorem Cp.weak {B B' k : Nat} {wr : World} {v : Value} {V : Nat → Value} {L : Nat → Nat} {Z : Nat → Nat → Int} (h : Cp B wr v k V L Z) (hb : B' ≤ B) : Cp B' wr v k V L Z := by
  have hk : ∀ {e n : Nat} {x : Value} {xs : List Value}, wr.ownsRow B e 1 x n xs → wr.ownsRow B' e 1 x n xs := fun {e n x xs} hx => by
    refine ⟨hx.1, ?_⟩
    rcases hx.2 with h1 | ⟨g, cap, cur, h1, h2, h3⟩
    · exact .inl h1
    · exact .inr ⟨g, cap, cur, h1, by omega, h3⟩
  exact ⟨hk h.outer, fun r hr => hk (h.rows r hr)⟩
theorem Cp.set_below {B k : Nat} {wr : World} {v : Value} {V : Nat → Value} {L : Nat → Nat} {Z : Nat → Nat → Int} (h : Cp B wr v k V L Z) {b : Nat} (hb : b < B) (i : Nat) (u : Value) : Cp B (wr.setCell ⟨b, i, none⟩ u) v k V L Z := by
  have hk : ∀ {e n : Nat} {x : Value} {xs : List Value}, wr.ownsRow B e 1 x n xs → (wr.setCell ⟨b, i, none⟩ u).ownsRow B e 1 x n xs := fun {e n x xs} hx => by
    refine ⟨hx.1, ?_⟩
    rcases hx.2 with h1 | ⟨g, cap, cur, h1, h2, h3, h4⟩
    · exact .inl h1
    · exact .inr ⟨g, cap, cur, h1, h2, (Deep.blk_setCell_other _ _ _ _ (by simp; omega)).trans h3, h4⟩
  exact ⟨hk h.outer, fun r hr => hk (h.rows r hr)⟩

/-- the two rows of three, at stage s -/
structure PG (B : Nat) (m : Nat → Nat) (L : Nat → Nat → Nat) (Z : Nat → Nat → Nat → Int) (c : Nat → Int) (s : Nat) (wr : World) (f : Nat → Value) : Prop where
  r1 : wr.rowIs B 39 3 f
  r2 : wr.rowIs (B + 1) 40 3 fun i => I (if i < s then c i else 0)
  hs : B + 2 ≤ wr.heap.size
  hg : ∀ i, i < 3 → ∃ V, Cp (B + 2) wr (f i) (if i < s then m i else 0) V (L i) (Z i)
  hr : ∀ i, s ≤ i → i < 3 → f i = .slice none 0 0
namespace PG
variable {B : Nat} {m : Nat → Nat} {L : Nat → Nat → Nat} {Z : Nat → Nat → Nat → Int} {c : Nat → Int} {s : Nat} {wr : World} {f : Nat → Value}
theorem start (w : World) (m : Nat → Nat) (L : Nat → Nat → Nat) (Z : Nat → Nat → Nat → Int) (c : Nat → Int) : PG w.heap.size m L Z c 0 ((w.alloc (.cells #[.slice none 0 0, .slice none 0 0, .slice none 0 0] 39)).alloc (.cells #[.int .i64 0, .int .i64 0, .int .i64 0] 40)) (fun _ => .slice none 0 0) where
  r1 := (World.rowIs_alloc w #[.slice none 0 0, .slice none 0 0, .slice none 0 0] 39 _ (fun i hi => by
    have : i = 0 ∨ i = 1 ∨ i = 2 := by simp at hi; omega
    rcases this with rfl | rfl | rfl <;> rfl)).alloc _
  r2 := by
    have h := World.rowIs_alloc (w.alloc (.cells #[.slice none 0 0, .slice none 0 0, .slice none 0 0] 39)) #[.int .i64 0, .int .i64 0, .int .i64 0] 40 (fun i => I (if i < 0 then c i else 0)) (fun i hi => by
      have : i = 0 ∨ i = 1 ∨ i = 2 := by simp at hi; omega
      rcases this with rfl | rfl | rfl <;> rfl)
    rw [World.size_alloc] at h
    exact h
  hs := by simp [World.size_alloc]
  hg i hi := ⟨fun _ => undef, by simpa using Cp.zero _ _ _ _ _⟩
  hr i _ _ := rfl
theorem keep (h : PG B m L Z c s wr f) {w1 : World} (hb : Below wr.heap.size wr w1) : PG B m L Z c s w1 f where
  r1 := h.r1.of_block (hb.block _ h.r1.lt)
  r2 := h.r2.of_block (hb.block _ h.r2.lt)
  hs := by have := hb.size; have := h.hs; omega
  hg i hi := by obtain ⟨V, hV⟩ := h.hg i hi; exact ⟨V, hV.keep hb⟩
  hr := h.hr
theorem err (h : PG B m L Z c s wr f) (hs3 : s < 3) (hc : c s = 2) (hm : m s = 0) : PG B m L Z c (s + 1) (wr.setCell ⟨B + 1, s, none⟩ (I 2)) f where
  r1 := h.r1.setOther (by simp) _
  r2 := (h.r2.set s (I 2)).congr fun i hi => by
    by_cases e : i = s
    · subst e; simp [hc]
    · have e2 : i < s + 1 ↔ i < s := by omega
      simp [e, e2]
  hs := by rw [World.size_setCell]; exact h.hs
  hg i hi := by
    obtain ⟨V, hV⟩ := h.hg i hi
    refine ⟨V, ?_⟩
    have e : (if i < s + 1 then m i else 0) = if i < s then m i else 0 := by
      by_cases e : i = s
      · subst e; simp [hm]
      · have e2 : i < s + 1 ↔ i < s := by omega
        simp [e2]
    rw [e]
    exact hV.set_below (by omega) _ _
  hr i h1 h2 := h.hr i (by omega) h2
theorem put (h : PG B m L Z c s wr f) (hs3 : s < 3) (hc : c s = 0) {w1 : World} (hb : Below wr.heap.size wr w1) {v : Value} {V : Nat → Value} (hv : Cp wr.heap.size w1 v (m s) V (L s) (Z s)) : PG B m L Z c (s + 1) (w1.setCell ⟨B, s, none⟩ v) (fun j => if j = s then v else f j) where
  r1 := (h.keep hb).r1.set s v
  r2 := ((h.keep hb).r2.setOther (by simp) _).congr fun i hi => by
    by_cases e : i = s
    · subst e; simp [hc]
    · have e2 : i < s + 1 ↔ i < s := by omega
      simp [e2]
  hs := by rw [World.size_setCell]; exact (h.keep hb).hs
  hg i hi := by
    by_cases e : i = s
    · subst e
      refine ⟨V, ?_⟩
      simp only [if_pos (Nat.lt_succ_self i), if_pos rfl]
      exact (hv.weak h.hs).set_below (by omega) _ _
    · obtain ⟨V', hV⟩ := (h.keep hb).hg i hi
      have e2 : i < s + 1 ↔ i < s := by omega
      refine ⟨V', ?_⟩
      simp only [e2, if_neg e]
      exact hV.set_below (by omega) _ _
  hr i h1 h2 := by rw [if_neg (by omega)]; exact h.hr i (by omega) h2
end PG

/-- what the statement says of one of the three -/
structure Kd (fp fr : Nat) (lo hi x : Int) (m : Nat) (L : Nat → Nat) (Z : Nat → Nat → Int) (c : Int) : Prop where
  hp : ∀ w : World, Calls Try.prog fp #[I x] w fun e w' => ∃ v A C, e = .returned (.tuple #[v, I c]) ∧ Dg w' v m A L C Z ∧ Below w.heap.size w w'
  hm : m ≤ 2 ^ 50
  hL : ∀ r, r < m → L r ≤ 2 ^ 50
  hr : ∀ {bad : Bool}, bad = (decide (x < lo) || decide (hi < x)) → (bad = false ∧ c = 0 ∧ ∀ w : World, Calls Try.prog fr #[I x] w (Cps w m L Z)) ∨ (bad = true ∧ c = 2 ∧ m = 0)

set_option maxHeartbeats 8000000 in
set_option maxRecDepth 100000 in
theorem law_graphs {w : World} {x0 x1 x2 : Int} {m : Nat → Nat} {L : Nat → Nat → Nat} {Z : Nat → Nat → Nat → Int} {c : Nat → Int} (h0 : Kd 22 19 1 1000 x0 (m 0) (L 0) (Z 0) (c 0)) (h1 : Kd 23 20 1 40 x1 (m 1) (L 1) (Z 1) (c 1)) (h2 : Kd 24 21 1 9 x2 (m 2) (L 2) (Z 2) (c 2)) : Calls Try.prog 4 #[I x0, I x1, I x2] w fun e w' => e = .returned (.bool true) ∧ Below w.heap.size w w' := by
  have H0 := Lib.hid h0
  have H1 := Lib.hid h1
  have H2 := Lib.hid h2
  have HG0 := Lib.hid (PG.start w m L Z c)
  have HB0 : Hid (Below w.heap.size w ((w.alloc (.cells #[.slice none 0 0, .slice none 0 0, .slice none 0 0] 39)).alloc (.cells #[.int .i64 0, .int .i64 0, .int .i64 0] 40))) := Lib.hid (((Below.refl _ _).alloc (Nat.le_refl _) _).alloc (by simp [World.size_alloc]) _)
  clear h0 h1 h2
  go_enter Try.func4, Try.ntmps4
  go_upto_region 3 with fail
  generalize (w.alloc (.cells #[.slice none 0 0, .slice none 0 0, .slice none 0 0] 39)).alloc (.cells #[.int .i64 0, .int .i64 0, .int .i64 0] 40) = w1 at *
  obtain ⟨f, HG0⟩ : ∃ f, Hid (PG w.heap.size m L Z c 0 w1 f) := ⟨_, HG0⟩
  go_upto_region 3 with fail
  obtain ⟨bad, hbad⟩ : ∃ bad, bad = (decide (x0 < 1) || decide ((1000 : Int) < x0)) := ⟨_, rfl⟩
  have HK := Lib.hid (H0.out.hr hbad)
  go_cut [20] from 15 to 21 (fun b wx => b = .bool bad ∧ wx = w1)
  case first =>
    by_cases d1 : decide (x0 < 1) = true
    · rw [d1, Bool.true_or] at hbad
      subst hbad
      go_wp2
      go_meet
      exact ⟨rfl, rfl⟩
    · have d1 := eq_false_of_ne_true d1
      rw [d1, Bool.false_or] at hbad
      subst hbad
      go_wp2
      go_meet
      exact ⟨rfl, rfl⟩
  case rest =>
    obtain ⟨rfl, hwx⟩ := hcut
    rw [hwx]
    clear hwx hbad
    go_upto_if 20 with fail
    go_cut [6] from 9 (fun x wr => x = .bool false ∧ ∃ f, Hid (PG w.heap.size m L Z c 1 wr f) ∧ Hid (Below w.heap.size w wr))
    case first =>
      have hc1 := HG0.out.r1.cell (i := 0) (by decide)
      have hf1 := HG0.out.r1.frozen 0
      have hc2 := HG0.out.r2.cell (i := 0) (by decide)
      have hf2 := HG0.out.r2.frozen 0
      rw [if_neg (by decide)] at hc2
      have hbz := HB0.out.size
      rcases HK.out with ⟨rfl, e0, hR⟩ | ⟨rfl, e0, em⟩
      · have HR := Lib.hid hR
        have E0 := Lib.hid e0
        clear hR e0
        go_wp2_with (go_at_call 19; refine (HR.out _).mono ?_; rintro e w2 ⟨v, V, rfl, hcp, hb⟩; obtain ⟨va, vc, rfl⟩ := own_shape hcp.outer; have HP := Lib.hid (HG0.out.put (by decide) E0.out hb hcp); have HB := Lib.hid ((HB0.out.trans (hb.mono hbz)).setCell (p := ⟨w.heap.size, 0, none⟩) (Nat.le_refl _) (.slice va (m 0) vc)); have hc3 := (HG0.out.keep hb).r1.cell (i := 0) (by decide); have hf3 := (HG0.out.keep hb).r1.frozen 0; clear hcp hb)
        go_meet
        exact ⟨rfl, _, HP, HB⟩
      · have HP := Lib.hid (HG0.out.err (by decide) e0 em)
        have HB := Lib.hid (HB0.out.setCell (p := ⟨w.heap.size + 1, 0, none⟩) (by simp) (I 2))
        clear e0 em
        go_wp2
        go_meet
        exact ⟨rfl, _, HP, HB⟩
    case rest =>
      clear HG0 HB0 HK 
      obtain ⟨rfl, f1, HG1, HB1⟩ := hcut
      go_upto_region 6 with fail
      obtain ⟨bad, hbad⟩ : ∃ bad, bad = (decide (x1 < 1) || decide ((40 : Int) < x1)) := ⟨_, rfl⟩
      have HK := Lib.hid (H1.out.hr hbad)
      go_cut [30] from 25 to 31 (fun b wx => b = .bool bad ∧ wx = wc)
      case first =>
        by_cases d1 : decide (x1 < 1) = true
        · rw [d1, Bool.true_or] at hbad
          subst hbad
          go_wp2
          go_meet
          exact ⟨rfl, rfl⟩
        · have d1 := eq_false_of_ne_true d1
          rw [d1, Bool.false_or] at hbad
          subst hbad
          go_wp2
          go_meet
          exact ⟨rfl, rfl⟩
      case rest =>
        obtain ⟨rfl, hwx⟩ := hcut
        rw [hwx]
        clear hwx hbad
        go_upto_if 30 with fail
        go_cut [6] from 9 (fun x wr => x = .bool false ∧ ∃ f, Hid (PG w.heap.size m L Z c 2 wr f) ∧ Hid (Below w.heap.size w wr))
        case first =>
          have hc1 := HG1.out.r1.cell (i := 1) (by decide)
          have hf1 := HG1.out.r1.frozen 1
          have hc2 := HG1.out.r2.cell (i := 1) (by decide)
          have hf2 := HG1.out.r2.frozen 1
          rw [if_neg (by decide)] at hc2
          have hbz := HB1.out.size
          rcases HK.out with ⟨rfl, e0, hR⟩ | ⟨rfl, e0, em⟩
          · have HR := Lib.hid hR
            have E0 := Lib.hid e0
            clear hR e0
            go_wp2_with (go_at_call 20; refine (HR.out _).mono ?_; rintro e w2 ⟨v, V, rfl, hcp, hb⟩; obtain ⟨va, vc, rfl⟩ := own_shape hcp.outer; have HP := Lib.hid (HG1.out.put (by decide) E0.out hb hcp); have HB := Lib.hid ((HB1.out.trans (hb.mono hbz)).setCell (p := ⟨w.heap.size, 1, none⟩) (Nat.le_refl _) (.slice va (m 1) vc)); have hc3 := (HG1.out.keep hb).r1.cell (i := 1) (by decide); have hf3 := (HG1.out.keep hb).r1.frozen 1; clear hcp hb)
            go_meet
            exact ⟨rfl, _, HP, HB⟩
          · have HP := Lib.hid (HG1.out.err (by decide) e0 em)
            have HB := Lib.hid (HB1.out.setCell (p := ⟨w.heap.size + 1, 1, none⟩) (by simp) (I 2))
            clear e0 em
            go_wp2
            go_meet
            exact ⟨rfl, _, HP, HB⟩
        case rest =>
          clear HG1 HB1 HK 
          obtain ⟨rfl, f2, HG2, HB2⟩ := hcut
          go_upto_region 9 with fail
          obtain ⟨bad, hbad⟩ : ∃ bad, bad = (decide (x2 < 1) || decide ((9 : Int) < x2)) := ⟨_, rfl⟩
          have HK := Lib.hid (H2.out.hr hbad)
          go_cut [40] from 35 to 41 (fun b wx => b = .bool bad ∧ wx = wc)
          case first =>
            by_cases d1 : decide (x2 < 1) = true
            · rw [d1, Bool.true_or] at hbad
              subst hbad
              go_wp2
              go_meet
              exact ⟨rfl, rfl⟩
            · have d1 := eq_false_of_ne_true d1
              rw [d1, Bool.false_or] at hbad
              subst hbad
              go_wp2
              go_meet
              exact ⟨rfl, rfl⟩
          case rest =>
            obtain ⟨rfl, hwx⟩ := hcut
            rw [hwx]
            clear hwx hbad
            go_upto_if 40 with fail
            go_cut [6] from 9 (fun x wr => x = .bool false ∧ ∃ f, Hid (PG w.heap.size m L Z c 3 wr f) ∧ Hid (Below w.heap.size w wr))
            case first =>
              have hc1 := HG2.out.r1.cell (i := 2) (by decide)
              have hf1 := HG2.out.r1.frozen 2
              have hc2 := HG2.out.r2.cell (i := 2) (by decide)
              have hf2 := HG2.out.r2.frozen 2
              rw [if_neg (by decide)] at hc2
              have hbz := HB2.out.size
              rcases HK.out with ⟨rfl, e0, hR⟩ | ⟨rfl, e0, em⟩
              · have HR := Lib.hid hR
                have E0 := Lib.hid e0
                clear hR e0
                go_wp2_with (go_at_call 21; refine (HR.out _).mono ?_; rintro e w2 ⟨v, V, rfl, hcp, hb⟩; obtain ⟨va, vc, rfl⟩ := own_shape hcp.outer; have HP := Lib.hid (HG2.out.put (by decide) E0.out hb hcp); have HB := Lib.hid ((HB2.out.trans (hb.mono hbz)).setCell (p := ⟨w.heap.size, 2, none⟩) (Nat.le_refl _) (.slice va (m 2) vc)); have hc3 := (HG2.out.keep hb).r1.cell (i := 2) (by decide); have hf3 := (HG2.out.keep hb).r1.frozen 2; clear hcp hb)
                go_meet
                exact ⟨rfl, _, HP, HB⟩
              · have HP := Lib.hid (HG2.out.err (by decide) e0 em)
                have HB := Lib.hid (HB2.out.setCell (p := ⟨w.heap.size + 1, 2, none⟩) (by simp) (I 2))
                clear e0 em
                go_wp2
                go_meet
                exact ⟨rfl, _, HP, HB⟩
            case rest =>
              clear HG2 HB2 HK 
              obtain ⟨rfl, f3, HG3, HB3⟩ := hcut
              obtain ⟨V0, cp0⟩ := HG3.out.hg 0 (by decide)
              obtain ⟨V1, cp1⟩ := HG3.out.hg 1 (by decide)
              obtain ⟨V2, cp2⟩ := HG3.out.hg 2 (by decide)
              rw [if_pos (by decide)] at cp0 cp1 cp2
              obtain ⟨A0, C0, dg0⟩ := cp0.dg H0.out.hm H0.out.hL
              obtain ⟨A1, C1, dg1⟩ := cp1.dg H1.out.hm H1.out.hL
              obtain ⟨A2, C2, dg2⟩ := cp2.dg H2.out.hm H2.out.hL
              have D0 := Lib.hid dg0
              have D1 := Lib.hid dg1
              have D2 := Lib.hid dg2
              have P0 := Lib.hid H0.out.hp
              have P1 := Lib.hid H1.out.hp
              have P2 := Lib.hid H2.out.hp
              have Q1 := Lib.hid HG3.out.r1
              have Q2 := Lib.hid HG3.out.r2
              clear cp0 cp1 cp2 dg0 dg1 dg2 HG3 H0 H1 H2
              go_upto_region 15 with (first
                | (go_at_call 22; refine (P0.out _).mono ?_; rintro e w5 ⟨a, A, C, rfl, hd, hb⟩; have T0 := Lib.hid hd; have E0 := Lib.hid hb; clear hd hb)
                | (go_at_call 23; refine (P1.out _).mono ?_; rintro e w6 ⟨b, A, C, rfl, hd, hb⟩; have T1 := Lib.hid hd; have E1 := Lib.hid hb; clear hd hb)
                | (go_at_call 24; refine (P2.out _).mono ?_; rintro e w7 ⟨d, A, C, rfl, hd, hb⟩; have T2 := Lib.hid hd; have E2 := Lib.hid hb; clear hd hb))
              have F0 := Lib.hid ((E0.out.trans (E1.out.mono E0.out.size)).trans (E2.out.mono (by have := E0.out.size; have := E1.out.size; omega)))
              have S0 := Lib.hid ((T0.out.keep E1.out).keep E2.out)
              have S1 := Lib.hid (T1.out.keep E2.out)
              have S2 := T2
              have HBX := Lib.hid (HB3.out.trans (F0.out.mono HB3.out.size))
              have R0 := Lib.hid (D0.out.keep F0.out)
              have R1 := Lib.hid (D1.out.keep F0.out)
              have R2 := Lib.hid (D2.out.keep F0.out)
              have q1 : w7.rowIs w.heap.size 39 3 f3 := Q1.out.of_block (F0.out.block _ Q1.out.lt)
              have q2 := Q2.out.of_block (F0.out.block _ Q2.out.lt)
              clear P0 P1 P2 T0 T1 T2 D0 D1 D2 HB3 Q1 Q2 E0 E1 E2 F0
              have z0 := q1.cell (i := 0) (by decide)
              have z1 := q1.cell (i := 1) (by decide)
              have z2 := q1.cell (i := 2) (by decide)
              have y0 := q2.cell (i := 0) (by decide)
              have y1 := q2.cell (i := 1) (by decide)
              have y2 := q2.cell (i := 2) (by decide)
              rw [if_pos (by decide)] at y0 y1 y2
              clear q1 q2
              generalize c 0 = e0 at *
              generalize c 1 = e1 at *
              generalize c 2 = e2 at *
              have t0 : (e0 == e0) = true := by simp
              have t1 : (e1 == e1) = true := by simp
              have t2 : (e2 == e2) = true := by simp
              generalize f3 0 = g0 at *
              generalize f3 1 = g1 at *
              generalize f3 2 = g2 at *
              go_wp2_with (first
                | (go_at_call 25; refine (same_any (S2.out.keep B9.out) (R2.out.keep B9.out)).mono ?_; rintro e w10 ⟨rfl, hb⟩; have B10 := Lib.hid (HBX.out.trans ((B9.out.trans (hb.mono B9.out.size)).mono HBX.out.size)); clear hb)
                | (go_at_call 25; refine (same_any (S1.out.keep B8.out) (R1.out.keep B8.out)).mono ?_; rintro e w9 ⟨rfl, hb⟩; have B9 := Lib.hid (B8.out.trans (hb.mono B8.out.size)); have z2' := (World.cell?_of_block (B9.out.block _ (World.block_lt_of_cell? _ _ z2))).trans z2; clear hb)
                | (go_at_call 25; refine (same_any S0.out R0.out).mono ?_; rintro e w8 ⟨rfl, hb⟩; have B8 := Lib.hid hb; have z1' := (World.cell?_of_block (hb.block _ (World.block_lt_of_cell? _ _ z1))).trans z1; clear hb)
                | (go_at_call 10; refine (awake_any _).mono ?_; rintro e w11 ⟨rfl, hb⟩; have B11 := Lib.hid (B10.out.trans (hb.mono B10.out.size)); clear hb))
              go_ret
              exact ⟨rfl, B11.out⟩
end Go.Proofs.Ytihpdmchppcbfaa
