/- The law BoundProtocols; Three numbers that came in as a struct, opened. -/
import Derived.Test.YtpfbommaddaijaaZaQl
import Derived.Test.YtpfbommaddaijaaZaPa
namespace Go.Proofs.Ytpfbommaddaijaa
open Go.RowKit Go.Proofs.YtpfbommaddaijaaW.PrintWords Go.Proofs.YtpfbommaddaijaaW.PrintLast PBoundTo
set_option linter.unusedVariables false
set_option linter.unusedSimpArgs false

theorem vld_pt {n : Int} {x : S32} (h : vld n x = true) : ∃ (k : Nat) (t : Pt), n = k ∧ 1 ≤ k ∧ k ≤ 12 ∧ x = t.toS ∧ t.ok k := by
  have h' := h
  unfold vld at h'
  simp only [Bool.and_eq_true, decide_eq_true_eq] at h'
  obtain ⟨⟨⟨⟨h1, h2⟩, _⟩, _⟩, h5⟩ := h'
  obtain ⟨t, rfl, ho⟩ := shp_ok n.toNat (hg x + 1) x (by omega) h5
  exact ⟨n.toNat, t, by omega, by omega, by omega, rfl, ho⟩
theorem exe_all {W : World} {x : S32} {n a b : Int} {A3 A4 : Option Addr} {c3 c4 : Nat} (h3 : Kd.C Kd.bool W A3 x.f3.length x.f3) (l3 : x.f3.length ≤ c3) (h4 : Kd.C k32 W A4 x.f4.length x.f4) (l4 : x.f4.length ≤ c4) :
    ∃ V DUE : Int, Dw W (.agg #[.bool x.f0, I x.f1, I x.f2, .slice A3 x.f3.length c3, .slice A4 x.f4.length c4]) (vld n x) n a b V DUE ∧
      ∀ (w : World) (B3 B4 : Option Addr) (d3 d4 : Nat), Kd.C Kd.bool w B3 x.f3.length x.f3 → Kd.C k32 w B4 x.f4.length x.f4 → Calls Try.prog 56 #[.agg #[.bool x.f0, I x.f1, I x.f2, .slice B3 x.f3.length d3, .slice B4 x.f4.length d4], I n, I a, I b] w fun e W' => e = .returned (.tuple #[I V, I DUE]) ∧ Below w.heap.size w W' := by
  cases hv : vld n x with
  | false =>
    refine ⟨0, 1, .inl ⟨rfl, rfl, rfl⟩, fun w B3 B4 d3 d4 g3 g4 => ?_⟩
    exact exe_form (fun W' hW => by have h := bValid_any (W := W') (x := x) (n := n) (c3 := d3) (c4 := d4) (Kd.C_below g3 hW) (Kd.C_below g4 hW); rw [hv] at h; exact h)
  | true =>
    obtain ⟨k, t, rfl, hk1, hk, rfl, ho⟩ := vld_pt hv
    have hw := w2i k (by omega)
    have HV : ∀ (w : World) (B3 B4 : Option Addr) (d3 d4 : Nat), Kd.C Kd.bool w B3 t.toS.f3.length t.toS.f3 → Kd.C k32 w B4 t.toS.f4.length t.toS.f4 → ∀ W', Below w.heap.size w W' → _ := fun w B3 B4 d3 d4 g3 g4 W' hW => by
      have h := bValid_any (W := W') (x := t.toS) (n := (k : Int)) (c3 := d3) (c4 := d4) (Kd.C_below g3 hW) (Kd.C_below g4 hW)
      rw [hv] at h
      exact h
    by_cases hr : 0 ≤ a ∧ a < ((2 ^ k : Nat) : Int) ∧ 0 ≤ b ∧ b < ((2 ^ k : Nat) : Int)
    · obtain ⟨p1, p2, p3, p4⟩ := hr
      obtain ⟨a, rfl⟩ := Int.eq_ofNat_of_zero_le p1
      obtain ⟨b, rfl⟩ := Int.eq_ofNat_of_zero_le p3
      have q2 := Int.ofNat_lt.1 p2
      have q4 := Int.ofNat_lt.1 p4
      refine ⟨t.run a b, 0, .inr (.inr ⟨k, 2 ^ k, rfl, hk, hw, rfl, rfl, decide_eq_false (by omega), decide_eq_false (by omega), decide_eq_false (by omega), decide_eq_false (by omega), fun W' hW => refExecute_any ho q2 q4 (Kd.C_below h3 hW) l3 (Kd.C_below h4 hW) l4⟩), fun w B3 B4 d3 d4 g3 g4 => ?_⟩
      exact bExecute_ok hk ho hv q2 q4 g3 g4
    · have hb : ((decide (a < 0) || decide (((2 ^ k : Nat) : Int) ≤ a)) || decide (b < 0) || decide (((2 ^ k : Nat) : Int) ≤ b)) = true := by
        simp only [Bool.or_eq_true, decide_eq_true_eq]
        omega
      refine ⟨0, 2, .inr (.inl ⟨k, 2 ^ k, _, _, _, _, rfl, hk, hw, rfl, rfl, rfl, rfl, rfl, rfl, rfl, hb⟩), fun w B3 B4 d3 d4 g3 g4 => ?_⟩
      exact exe_arg (by omega) hw rfl rfl rfl rfl hb (HV w B3 B4 d3 d4 g3 g4)
theorem sol_all {W : World} {x : S32} {A3 A4 ta : Option Addr} {c3 c4 tc : Nat} {l : List Bool} (hlen : l.length ≤ 5000) (hv0 : hv 0 0 x = false) (h3 : Kd.C Kd.bool W A3 x.f3.length x.f3) (l3 : x.f3.length ≤ c3) (h4 : Kd.C k32 W A4 x.f4.length x.f4) (l4 : x.f4.length ≤ c4) (ht : Kd.C Kd.bool W ta l.length l) (hc : l.length ≤ tc) :
    ∃ (LATE : Int) (WANT : Bool), Lw W (.agg #[.bool x.f0, I x.f1, I x.f2, .slice A3 x.f3.length c3, .slice A4 x.f4.length c4]) (.slice ta l.length tc) l.length (rin l.length) LATE WANT ∧
      ∀ (w : World) (B3 B4 tb : Option Addr) (d3 d4 dt : Nat), Kd.C Kd.bool w B3 x.f3.length x.f3 → x.f3.length ≤ d3 → Kd.C k32 w B4 x.f4.length x.f4 → Kd.C Kd.bool w tb l.length l → l.length ≤ dt → Calls Try.prog 57 #[.agg #[.bool x.f0, I x.f1, I x.f2, .slice B3 x.f3.length d3, .slice B4 x.f4.length d4], .slice tb l.length dt] w fun e W' => e = .returned (.tuple #[.bool WANT, I LATE]) ∧ Below w.heap.size w W' := by
  have HBAD : (rin l.length < 1 ∨ vld (rin l.length) x = false) → ∀ (w : World) (B3 B4 tb : Option Addr) (d3 d4 dt : Nat), Kd.C Kd.bool w B3 x.f3.length x.f3 → Kd.C k32 w B4 x.f4.length x.f4 → Calls Try.prog 57 #[.agg #[.bool x.f0, I x.f1, I x.f2, .slice B3 x.f3.length d3, .slice B4 x.f4.length d4], .slice tb l.length dt] w fun e W' => e = .returned (.tuple #[.bool false, I 1]) ∧ Below w.heap.size w W' := fun hb w B3 B4 tb d3 d4 dt g3 g4 =>
    solv57 (fun W' hW => (solved_bad (by omega) hb (Kd.C_below g3 hW) (Kd.C_below g4 hW)).mono fun e W'' ⟨h1, h2⟩ => ⟨_, _, _, _, _, h1, h2⟩)
  have HVL : ∀ W', Below W.heap.size W W' → _ := fun W' hW => refValid_any (W := W') (n := rin l.length) hv0 (Kd.C_below h3 hW) l3 (Kd.C_below h4 hW) l4
  by_cases g1 : rin l.length < 1
  · exact ⟨1, false, .inl ⟨decide_eq_true g1, rfl, rfl⟩, fun w B3 B4 tb d3 d4 dt g3 _ g4 _ _ => HBAD (.inl g1) w B3 B4 tb d3 d4 dt g3 g4⟩
  · cases e2 : vld (rin l.length) x with
    | false =>
      exact ⟨1, false, .inr (.inl ⟨decide_eq_false g1, rfl, rfl, fun W' hW => by have := HVL W' hW; rw [e2] at this; exact this⟩), fun w B3 B4 tb d3 d4 dt g3 _ g4 _ _ => HBAD (.inr e2) w B3 B4 tb d3 d4 dt g3 g4⟩
    | true =>
      have HVL' := fun W' hW => by have := HVL W' hW; rw [e2] at this; exact this
      obtain ⟨n, t, hn, hn1, hn12, rfl, ho⟩ := vld_pt e2
      obtain ⟨n', hn', hl⟩ := rin_spec (show 1 ≤ rin l.length by omega)
      obtain rfl : n' = n := by omega
      have hvn := e2
      rw [hn] at hvn
      refine ⟨0, slv t l, ?_, fun w B3 B4 tb d3 d4 dt g3 k3 g4 gt kt => solv57 (fun W' hW => (solved_ok hn1 hn12 ho hvn hl (Kd.C_below g3 hW) k3 (Kd.C_below g4 hW) (Kd.C_below gt hW) kt).mono fun e W'' h => ?_)⟩
      · by_cases hp : (l.length : Int) * l.length ≤ 300000
        · exact .inr (.inr (.inl ⟨decide_eq_false g1, rfl, hp, HVL', fun W' hW => refSolves_any hn12 ho hl (Kd.C_below h3 hW) l3 (Kd.C_below h4 hW) l4 (Kd.C_below ht hW) hc⟩))
        · exact .inr (.inr (.inr ⟨decide_eq_false g1, hp, HVL'⟩))
      · obtain ⟨k, m, A, l', c, h1, _, h2⟩ := h
        rw [md_slv ho] at h1
        exact ⟨k, m, A, l', c, h1, h2⟩
theorem protocols_law {W : World} {x : S32} {A3 A4 ta : Option Addr} {c3 c4 tc len : Nat} {f : Nat → Bool} {qn qx qy : Int} (h3 : Kd.C Kd.bool W A3 x.f3.length x.f3) (l3 : x.f3.length ≤ c3) (h4 : Kd.C k32 W A4 x.f4.length x.f4) (l4 : x.f4.length ≤ c4) (ht : Bs W (.slice ta len tc) len f) (n1 : ta = none → tc = 0) (_hl : len ≤ 2 ^ 50) :
    Calls Try.prog 9 #[.agg #[.bool x.f0, I x.f1, I x.f2, .slice A3 x.f3.length c3, .slice A4 x.f4.length c4], .slice ta len tc, .agg #[I qn, I qx, I qy]] W fun e W' => e = .returned (.bool true) ∧ Below W.heap.size W W' := by
  have hlc : len ≤ tc := by obtain ⟨a, c, h1, h2, _⟩ := ht.ex; cases h1; exact h2
  have hC := ht.C
  obtain ⟨l, hl⟩ : ∃ l : List Bool, l = (List.range len).map f := ⟨_, rfl⟩
  have hll : l.length = len := by rw [hl]; simp
  have HHV : ∀ W', Below W.heap.size W W' → _ := fun W' hW => heavy_any (w := W') (Kd.C_below h3 hW) l3 (Kd.C_below h4 hW) l4
  cases e1 : hv 0 0 x with
  | true => exact pr_heavy (fun W' hW => by have := HHV W' hW; rw [e1] at this; exact this)
  | false =>
    have HHV' := fun W' hW => by have := HHV W' hW; rw [e1] at this; exact this
    by_cases g0 : (5000 : Int) < (len : Int)
    · exact pr_long HHV' g0
    have hwg := (hv_false.1 e1).1
    have hC' : Kd.C Kd.bool W ta l.length l := by rw [hl]; exact hC
    obtain ⟨V, DUE, hD, hEX⟩ := exe_all (n := qn) (a := qx) (b := qy) h3 l3 h4 l4
    obtain ⟨LATE, WANT, hL, hSL⟩ := sol_all (l := l) (tc := tc) (by omega) e1 h3 l3 h4 l4 hC' (by omega)
    have hRI : ∀ W', Below W.heap.size W W' → Calls Try.prog 17 #[.slice ta len tc] W' fun e W'' => e = .returned (I (rin l.length)) ∧ Below W'.heap.size W' W'' := fun W' hW => by
      have := refIn_any (c := tc) (Kd.C_below hC' hW) (by omega)
      rw [hll] at this ⊢
      exact this
    rw [hll] at hL
    refine pr_main (TB := fun w v => ∃ tb dt, v = .slice tb l.length dt ∧ l.length ≤ dt ∧ Kd.C Kd.bool w tb l.length l) HHV' g0 (fun W' hW => refValid_any (W := W') (n := qn) e1 (Kd.C_below h3 hW) l3 (Kd.C_below h4 hW) l4) hD hRI (by rw [hll]; exact hL) (fun W' hW => ?_) (fun W' hW => ?_) (fun W' hW => refDepth_gen (W := W') e1 (Kd.C_below h3 hW) l3 (Kd.C_below h4 hW) l4)
    · refine (copy_any (W := W') (x := x) (by omega) (Kd.C_below h3 hW) l3 (Kd.C_below h4 hW) l4).mono fun e W'' h => ?_
      obtain ⟨B3, d3, B4, d4, he, k3, g3, k4, g4, hrow, hb⟩ := h.row
      refine ⟨_, he, ⟨fun w' hw => bValid_any (Kd.C_below g3 hw) (Kd.C_below g4 hw), fun w' hw => bDepth_any ?_, fun w' hw => hEX w' B3 B4 d3 d4 (Kd.C_below g3 hw) (Kd.C_below g4 hw), fun w' tb hw h => ?_⟩, hb⟩
      · obtain ⟨base, ok, h⟩ := hrow
        exact ⟨base, ok, Kd.R_below h hw⟩
      · obtain ⟨tb, dt, rfl, q1, q2⟩ := h
        exact hSL w' B3 B4 tb d3 d4 dt (Kd.C_below g3 hw) k3 (Kd.C_below g4 hw) q2 q1
    · refine (bools_any (ht.keep hW) n1 (by omega)).mono fun e W'' ⟨v, h1, h2, h3⟩ => ⟨v, h1, ?_, h3⟩
      have h2' := h2
      obtain ⟨a, c, rfl, hc, _⟩ := h2.ex
      refine ⟨a, c, by rw [hll], by omega, ?_⟩
      have := h2'.C
      rw [← hl] at this
      exact this
end Go.Proofs.Ytpfbommaddaijaa

namespace Go.Proofs.Ytpfbommaddaijaa
open Go.ChangeShapes Go.WideShapes Go.ChangeAt Go.RowKit Go.Joins Go.Deep Go.Proofs.YtpfbommaddaijaaW.PrintWords PBoundTo
set_option linter.unusedVariables false

theorem Try.cells71 : Try.prog.cellsOf 71 = 3 := by kernel_rfl
theorem opn71 : ∀ N, Opn Try.prog 71 (Kd.pair (Kd.int .i64) (Kd.pair (Kd.int .i64) (Kd.int .i64))) (fun _ => True) N
  | 0 => Opn.none
  | N + 1 => (Opn.struct Try.underlying71 Try.cells71 (OpnF.cons (off := 0) rfl Try.cells3 (Opn.int Try.underlying3 N) (OpnF.cons rfl Try.cells3 (Opn.int Try.underlying3 N) (OpnF.one rfl Try.cells3 (Opn.int Try.underlying3 N))))).any
theorem open_ends {H : Type} {enc : TypeId × Value → H} {W : World} {base fuel : Nat} {held : Bool} {cs : List Value} {x : DataW H} {ps : List MemPlace} {ts : List TypeId} {ds : List (DataW H)} {j : Nat}
    (hx : DataW.trod enc Try.prog W base (fun _ => true) held fuel 71 cs = some (x, ps)) (hsz : (DataW.weightsEach Try.prog ts ds).all (· ≤ reachBytes) = true) (ht : ts[j]? = some 71) (hd : ds[j]? = some x) :
    ∃ a b c : Int, cs = [.int .i64 a, .int .i64 b, .int .i64 c] := by
  obtain ⟨y, hy, _⟩ := (opn71 fuel).out enc W base held fuel _ _ (Nat.le_refl _) hx (reach_each hsz ht hd)
  obtain ⟨_, _, rfl, rfl, ⟨_, _, rfl, rfl, rfl⟩⟩ := hy
  exact ⟨_, _, _, rfl⟩
end Go.Proofs.Ytpfbommaddaijaa

