/- Protocols as trees, their weight and height; what Heavy answers; What the reference's shape and Valid answer on any protocol; What the reference's Valid answers on any protocol that is not too heavy; Plain: protocols as binary trees; the law of Karchmer and Wigderson: a protocol that solves a table gives a formula that is no deeper; What the reference's Execute, Solves and Depth answer on protocols; The law BoundGames: the walk; Trees that came in, opened: protocols and formulas. -/
import Derived.Test.YtpfbommaddaijaaZeKa
import Derived.Test.YtpfbommaddaijaaZePBoundTox0
import Derived.Test.YtpfbommaddaijaaZex12
import Derived.Test.YtpfbommaddaijaaZeKc
import Derived.Test.YtpfbommaddaijaaZeKq
namespace Go.Proofs.Ytpfbommaddaijaa
open Go.RowKit Go.Proofs.YtpfbommaddaijaaW.PrintWords Go.Proofs.YtpfbommaddaijaaW.PrintLast PBoundTo
set_option linter.unusedVariables false
set_option linter.unusedSimpArgs false

mutual
def wg : S32 → Nat
  | ⟨_, _, _, ask, kids⟩ => 1 + ask.length / 16 + wgL kids
def wgL : List S32 → Nat
  | [] => 0
  | x :: r => wg x + wgL r
end
mutual
def hg : S32 → Nat
  | ⟨_, _, _, _, kids⟩ => hgL kids
def hgL : List S32 → Nat
  | [] => 0
  | x :: r => max (1 + hg x) (hgL r)
end
theorem wg_eq (x : S32) : wg x = 1 + x.f3.length / 16 + wgL x.f4 := by cases x; rw [wg]
theorem hg_eq (x : S32) : hg x = hgL x.f4 := by cases x; rw [hg]
theorem wgL_cons (x : S32) (r : List S32) : wgL (x :: r) = wg x + wgL r := by rw [wgL]
theorem hgL_cons (x : S32) (r : List S32) : hgL (x :: r) = max (1 + hg x) (hgL r) := by rw [hgL]
theorem wgL_nil : wgL [] = 0 := by rw [wgL]
theorem hgL_nil : hgL [] = 0 := by rw [hgL]
theorem drop_rd (l : List S32) (i : Nat) (h : i < l.length) : l.drop i = rd_T32 l i :: l.drop (i + 1) := by
  rw [List.drop_eq_getElem_cons h]
  congr 1
  simp [rd_T32, List.getD, h]
theorem hg_kid (l : List S32) (i : Nat) (h : i < l.length) : 1 + hg (rd_T32 l i) ≤ hgL l := by
  have key : ∀ (l : List S32) (i : Nat), hgL (l.drop i) ≤ hgL l := by
    intro l
    induction l with
    | nil => intro i; simp
    | cons x r ih =>
      intro i
      cases i with
      | zero => simp
      | succ i => have := ih i; rw [List.drop_succ_cons, hgL_cons]; omega
  have := key l i
  rw [drop_rd l i h, hgL_cons] at this
  omega
/-- too heavy -/
def hv (N L : Nat) (x : S32) : Bool := !(decide (N + wg x ≤ 400000) && decide (L + hg x ≤ 70))
theorem hv_false {N L : Nat} {x : S32} : hv N L x = false ↔ N + wg x ≤ 400000 ∧ L + hg x ≤ 70 := by simp [hv]
theorem hv_true {N L : Nat} {x : S32} (h : 400000 < N + wg x ∨ 70 < L + hg x) : hv N L x = true := by
  cases e : hv N L x with
  | true => rfl
  | false => have := hv_false.1 e; omega
theorem quo16 (n : Nat) : (n : Int).tdiv 16 = ((n / 16 : Nat) : Int) := by
  rw [Int.tdiv_eq_ediv_of_nonneg (by omega)]; omega
theorem wr_ok {a : Int} (h0 : 0 ≤ a) (h : a ≤ 4611686018427387904) : wrap64 a = a := by unfold wrap64; omega
theorem div16 {m : Nat} (h : m ≤ 9223372036854775807) : m / 16 ≤ 1000000000000000000 := by omega
theorem wr_succ {b : Nat} (h : b ≤ 4611686018427387903) : wrap64 ((b : Int) + 1) = ((b + 1 : Nat) : Int) := by
  rw [wr_ok (by omega) (by omega)]; omega
theorem wr_lt {i n : Nat} (h : i < n) (hn : n ≤ 9223372036854775807) : wrap64 ((i : Int) + 1) = ((i + 1 : Nat) : Int) := by unfold wrap64; omega
theorem meas {n i : Nat} {x : Int} (hx : x = ((i + 1 : Nat) : Int)) (h : i < n) : n - (intOf (I x)).toNat < n - (intOf (I (i : Int))).toNat := by
  subst hx
  simp [intOf]
  omega
theorem weigh_num {m N M : Nat} (hN : N ≤ 400000) (hQ : m / 16 ≤ 1000000000000000000) (hM : M = N + (1 + m / 16)) :
    (m : Int).tdiv 16 = ((m / 16 : Nat) : Int) ∧ wrap64 ((m / 16 : Nat) : Int) = ((m / 16 : Nat) : Int) ∧ ∃ R : Int, wrap64 (1 + ((m / 16 : Nat) : Int)) = R ∧ wrap64 ((N : Int) + R) = (M : Int) := by
  refine ⟨quo16 m, wr_ok (by omega) (by omega), _, rfl, ?_⟩
  rw [wr_ok (a := 1 + _) (by omega) (by omega), wr_ok (by omega) (by omega)]
  omega
theorem hv_loop {N L Ni : Nat} {x : S32} {l : List S32} (h1 : Ni + wgL l = N + wg x) (h2 : L + hg x ≤ 70 ↔ L + hgL l ≤ 70) (hL : L ≤ 70) (hN : Ni ≤ 400000) (e : l = []) : hv N L x = false ∧ Ni = N + wg x := by
  subst e
  rw [wgL_nil] at h1
  rw [hgL_nil] at h2
  exact ⟨hv_false.2 ⟨by omega, h2.2 (by omega)⟩, by omega⟩
theorem hv_bad {N L Ni : Nat} {x y : S32} {l : List S32} (h1 : Ni + wgL (y :: l) = N + wg x) (h2 : L + hg x ≤ 70 ↔ L + hgL (y :: l) ≤ 70) (h : hv Ni (L + 1) y = true) : hv N L x = true := by
  rw [wgL_cons] at h1
  rw [hgL_cons] at h2
  cases e : hv N L x with
  | true => rfl
  | false =>
    obtain ⟨e1, e2⟩ := hv_false.1 e
    have e3 := h2.1 e2
    have : hv Ni (L + 1) y = false := hv_false.2 ⟨by omega, by omega⟩
    rw [this] at h; cases h
theorem hv_good {N L Ni : Nat} {x y : S32} {l : List S32} (h1 : Ni + wgL (y :: l) = N + wg x) (h2 : L + hg x ≤ 70 ↔ L + hgL (y :: l) ≤ 70) (h : hv Ni (L + 1) y = false) : Ni + wg y + wgL l = N + wg x ∧ (L + hg x ≤ 70 ↔ L + hgL l ≤ 70) ∧ Ni + wg y ≤ 400000 := by
  rw [wgL_cons] at h1
  rw [hgL_cons] at h2
  obtain ⟨e1, e2⟩ := hv_false.1 h
  refine ⟨by omega, ?_, e1⟩
  rw [h2]; omega
theorem cell_keep' {w w' : World} (hb : Below w.heap.size w w') {a : Addr} {v : Value} (h : w.cell? a = some v) : w'.cell? a = some v := (hb.cell (World.block_lt_of_cell? _ _ h)).trans h
/-- what weigh answers -/
def WeighR (W : World) (gn N L : Nat) (x : S32) (e : Ending) (W' : World) : Prop := e = .returned (.bool (hv N L x)) ∧ W.grownBy W' (some gn) ∧ (hv N L x = false → W'.heap[gn]? = some (.cells #[I ((N + wg x : Nat) : Int)] 3 (0, 0)))
theorem grown_drew {w W : World} {r : Option Nat} (h : w.grownBy W r) : w.grownBy W.drew r := ⟨h.os, h.tape, h.output, h.size, h.block⟩
set_option maxHeartbeats 8000000 in
set_option maxRecDepth 100000 in
theorem weigh_any (n : Nat) : ∀ (x : S32) {w0 W : World} {A3 A4 : Option Addr} {c3 c4 gn N L : Nat}, hg x < n → Kd.C Kd.bool w0 A3 x.f3.length x.f3 → x.f3.length ≤ c3 → Kd.C k32 w0 A4 x.f4.length x.f4 → x.f4.length ≤ c4 → Below w0.heap.size w0 W → w0.heap.size ≤ gn → N ≤ 400000 → L ≤ 71 → W.heap[gn]? = some (.cells #[I N] 3 (0, 0)) →
    Calls Try.prog 67 #[.agg #[.bool x.f0, I x.f1, I x.f2, .slice A3 x.f3.length c3, .slice A4 x.f4.length c4], I L, .pointer (some ⟨gn, 0, none⟩)] W (WeighR W gn N L x) := by
  induction n with
  | zero => intro x _ _ _ _ _ _ _ _ _ h; exact absurd h (by omega)
  | succ n ih =>
  intro x w0 W A3 A4 c3 c4 gn N L hn h3 hc3 h4 hc4 hB hg0 hN hL hcell
  have Hn := Lib.hid hn
  clear hn
  have hask : x.f3.length ≤ 9223372036854775807 := by have := h3.2.1; omega
  have hkids : x.f4.length ≤ 9223372036854775807 := by have := h4.2.1; omega
  have hQ := div16 hask
  have Hsum := Lib.hid (wg_eq x)
  have Hht := Lib.hid (hg_eq x)
  unfold WeighR
  obtain ⟨res, hres⟩ : ∃ r, r = hv N L x := ⟨_, rfl⟩
  rw [← hres]
  have HRES := Lib.hid hres
  clear hres
  generalize x.f3 = ask at *
  generalize x.f4 = kids at *
  generalize x.f0 = b at *
  generalize x.f1 = v at *
  generalize x.f2 = pl at *
  obtain ⟨W1, hW1⟩ : ∃ W1, W1 = W.alloc (.cells #[.bool b, I v, I pl, .slice A3 ask.length c3, .slice A4 kids.length c4] 32) := ⟨_, rfl⟩
  have hG1 : W.grownBy W1 (some gn) := by rw [hW1]; exact World.grownBy_alloc _ _ _
  have hgn : gn < W.heap.size := blk_lt hcell
  have BK : W1.heap[W.heap.size]? = some (.cells #[.bool b, I v, I pl, .slice A3 ask.length c3, .slice A4 kids.length c4] 32 (0, 0)) := by rw [hW1]; exact blk_new _ _
  have hcell1 : W1.heap[gn]? = some (.cells #[I N] 3 (0, 0)) := by rw [hW1]; exact blk_alloc hcell _
  obtain ⟨M, hM⟩ : ∃ M, M = N + (1 + ask.length / 16) := ⟨_, rfl⟩
  obtain ⟨hq, hw0, R, hw1, hw2⟩ := weigh_num hN hQ hM
  have hM8 : M ≤ 400000 + (1 + 1000000000000000000) := by rw [hM]; exact Nat.add_le_add hN (Nat.add_le_add_left hQ 1)
  have HM := Lib.hid hM
  have HM8 := Lib.hid hM8
  have HK8 := Lib.hid hkids
  have HN := Lib.hid hN
  have HL := Lib.hid hL
  clear hM hM8 hQ hask hkids
  generalize ask.length / 16 = Q at *
  have k3 : W1.cell? ⟨W.heap.size, 3, none⟩ = some (.slice A3 ask.length c3) := (blk_cell BK 3).trans rfl
  have d0 : W1.cell? ⟨gn, 0, none⟩ = some (I N) := (blk_cell hcell1 0).trans rfl
  have f0 := blk_frozen hcell1 0
  have HG1 := Lib.hid hG1
  have HBK := Lib.hid BK
  have HC1 := Lib.hid hcell1
  have HG := Lib.hid hgn
  have Hg0 := Lib.hid hg0
  have HC3 := Lib.hid h3
  have HC4 := Lib.hid h4
  have HB := Lib.hid hB
  clear hB hG1 BK hcell1 hcell hgn h3 h4 hg0 hN
  go_enter Try.func67, Try.ntmps67
  go_upto_region 1 with fail
  rw [← hW1]
  clear hW1
  go_region
  have HBK2 : Hid (((W1.setCell ⟨gn, 0, none⟩ (.int .i64 (M : Int))).drew).heap[W.heap.size]? = some (.cells #[.bool b, I v, I pl, .slice A3 ask.length c3, .slice A4 kids.length c4] 32 (0, 0))) := Lib.hid (blk_drew (blk_far HBK.out (show W.heap.size ≠ gn from Nat.ne_of_gt HG.out) _))
  have HC2 : Hid (((W1.setCell ⟨gn, 0, none⟩ (.int .i64 (M : Int))).drew).heap[gn]? = some (.cells #[I M] 3 (0, 0))) := Lib.hid (blk_drew (blk_set HC1.out 0 (I M)))
  have HG2 : Hid (W.grownBy ((W1.setCell ⟨gn, 0, none⟩ (.int .i64 (M : Int))).drew) (some gn)) := Lib.hid (grown_drew (grown_set HG1.out (.inl rfl) _ _))
  clear HBK HC1 HG1 k3 d0 f0 hq hw0 hw1 hw2
  generalize (W1.setCell ⟨gn, 0, none⟩ (.int .i64 (M : Int))).drew = W2 at *
  have d0 : W2.cell? ⟨gn, 0, none⟩ = some (I M) := (blk_cell HC2.out 0).trans rfl
  by_cases hbad : (400000 : Int) < (M : Int)
  · have e1 := decide_eq_true hbad
    have hr : Hid (res = true) := Lib.hid (HRES.out.trans (hv_true (.inl (by have := HM.out; have := Hsum.out; omega))))
    clear hbad HM8 HM HK8
    go_wp2
    go_ret
    exact ⟨by rw [hr.out]; rfl, HG2.out, fun h => by rw [hr.out] at h; cases h⟩
  · have e1 := decide_eq_false hbad
    by_cases hlv : (70 : Int) < (L : Int)
    · have e2 := decide_eq_true hlv
      have hr : Hid (res = true) := Lib.hid (HRES.out.trans (hv_true (.inr (by omega))))
      clear hbad hlv HM8 HM HK8
      go_wp2
      go_ret
      exact ⟨by rw [hr.out]; rfl, HG2.out, fun h => by rw [hr.out] at h; cases h⟩
    · have e2 := decide_eq_false hlv
      have HM0 : Hid (M ≤ 400000) := Lib.hid (by omega)
      have HL0 : Hid (L ≤ 70) := Lib.hid (by omega)
      have HS0 : Hid (M + wgL kids = N + wg x) := Lib.hid (by have := HM.out; have := Hsum.out; omega)
      have HH0 : Hid (L + hg x ≤ 70 ↔ L + hgL kids ≤ 70) := Lib.hid (by rw [Hht.out])
      have HKN : Hid (∀ i, i < kids.length → hg (rd_T32 kids i) < n) := Lib.hid (fun i hi => by have := hg_kid kids i hi; have := Hn.out; have := Hht.out; omega)
      clear hbad hlv HM8 HM
      go_wp2
      go_loopw [7] (fun y wr => ∃ i : Nat, i ≤ kids.length ∧ y = I i ∧ ∃ Ni : Nat, Hid (Ni + wgL (kids.drop i) = N + wg x) ∧ Hid (L + hg x ≤ 70 ↔ L + hgL (kids.drop i) ≤ 70) ∧ Hid (Ni ≤ 400000) ∧ Hid (wr.heap[gn]? = some (.cells #[I Ni] 3 (0, 0))) ∧ Hid (wr.heap[W.heap.size]? = some (.cells #[.bool b, I v, I pl, .slice A3 ask.length c3, .slice A4 kids.length c4] 32 (0, 0))) ∧ Hid (W.grownBy wr (some gn))) (fun y _ => kids.length - (intOf y).toNat)
      case atStart => exact ⟨0, Nat.zero_le _, rfl, M, HS0, HH0, HM0, HC2, HBK2, HG2⟩
      case round =>
        clear HC2 HBK2 HG2 d0 e1 e2
        obtain ⟨i, hi, rfl, Ni, HS, HH, HNi, HC, HBK, HGR⟩ := hrel
        have k4 : wr.cell? ⟨W.heap.size, 4, none⟩ = some (.slice A4 kids.length c4) := (blk_cell HBK.out 4).trans rfl
        by_cases hin : i < kids.length
        · have HBW : Below w0.heap.size w0 wr := pw_below_grown HB.out (some gn) HB.out.size HGR.out (fun k hk => by cases hk; exact Hg0.out)
          obtain ⟨ad, B3, d3, B4, d4, rfl, x0, x1, x2, x3, x4, l3, i3, l4, i4⟩ := at_T32 HC4.out (i : Int) (by omega) (by omega)
          have HKN' := HKN.out i hin
          have hdr := drop_rd kids i hin
          simp only [Int.toNat_natCast] at x0 x1 x2 x3 x4
          replace x0 := cell_keep' HBW x0
          replace x1 := cell_keep' HBW x1
          replace x2 := cell_keep' HBW x2
          replace x3 := cell_keep' HBW x3
          replace x4 := cell_keep' HBW x4
          obtain ⟨L1, hL1⟩ : ∃ L1, L1 = L + 1 := ⟨_, rfl⟩
          have h0i : (0 : Int) ≤ i := by omega
          have h1i : (i : Int) < kids.length := by omega
          have hL71 : L1 ≤ 71 := by have := HL0.out; omega
          have hLc : (L1 : Int) = (L : Int) + 1 := by omega
          have hwi : wrap64 ((i : Int) + 1) = ((i + 1 : Nat) : Int) := wr_lt hin HK8.out
          have HIH := ih (rd_T32 kids i) (L := L1) HKN' i3 l3 i4 l4 HBW Hg0.out HNi.out hL71 HC.out
          unfold WeighR at HIH
          obtain ⟨r, hr⟩ : ∃ r, r = hv Ni L1 (rd_T32 kids i) := ⟨_, rfl⟩
          rw [← hr, hLc] at HIH
          have HI := Lib.hid HIH
          have HR := Lib.hid hr
          have HD := Lib.hid hdr
          have HL1 := Lib.hid hL1
          clear HIH hr hdr HKN' hL1 HBW hL71 hLc l3 i3 l4 i4
          cases r with
          | true =>
            have hT : Hid (res = true) := Lib.hid (HRES.out.trans (hv_bad (by rw [← HD.out]; exact HS.out) (by rw [← HD.out]; exact HH.out) (by rw [← HL1.out]; exact HR.out.symm)))
            go_wp2_with (go_at_call 67; (with_reducible refine HI.out.mono ?_); rintro e w7 ⟨rfl, hg7, _⟩)
            go_ret
            exact ⟨by rw [hT.out]; rfl, HGR.out.trans hg7, fun h => by rw [hT.out] at h; cases h⟩
          | false =>
            obtain ⟨t1, t2, t3⟩ := hv_good (by rw [← HD.out]; exact HS.out) (by rw [← HD.out]; exact HH.out) (by rw [← HL1.out]; exact HR.out.symm)
            have T1 := Lib.hid t1
            have T2 := Lib.hid t2
            have T3 := Lib.hid t3
            clear t1 t2 t3
            go_wp2_with (go_at_call 67; (with_reducible refine HI.out.mono ?_); rintro e w7 ⟨rfl, hg7, hc7⟩; have HG7 := Lib.hid hg7; have HC7 := Lib.hid hc7; clear hg7 hc7)
            go_roundw
            case rel => exact ⟨i + 1, hin, by rw [hwi], Ni + wg (rd_T32 kids i), T1, T2, T3, Lib.hid (HC7.out trivial), Lib.hid (blk_grown HBK.out HG7.out (fun e => by cases e; exact absurd HG.out (Nat.lt_irrefl _))), Lib.hid (HGR.out.trans HG7.out)⟩
            case measure => exact meas hwi hin
        · obtain rfl : i = kids.length := by omega
          obtain ⟨t1, t2⟩ := hv_loop HS.out HH.out HL0.out HNi.out (by simp)
          have T1 := Lib.hid t1
          have T2 := Lib.hid t2
          clear t1 t2
          go_wp2
          go_ret
          exact ⟨by rw [HRES.out, T1.out]; rfl, HGR.out, fun _ => by rw [← T2.out]; exact HC.out⟩
set_option maxHeartbeats 8000000 in
set_option maxRecDepth 100000 in
/-- what Heavy answers -/
theorem heavy_any {w : World} {x : S32} {A3 A4 : Option Addr} {c3 c4 : Nat} (h3 : Kd.C Kd.bool w A3 x.f3.length x.f3) (l3 : x.f3.length ≤ c3) (h4 : Kd.C k32 w A4 x.f4.length x.f4) (l4 : x.f4.length ≤ c4) :
    Calls Try.prog 18 #[.agg #[.bool x.f0, I x.f1, I x.f2, .slice A3 x.f3.length c3, .slice A4 x.f4.length c4]] w fun e w' => e = .returned (.bool (hv 0 0 x)) ∧ Below w.heap.size w w' := by
  obtain ⟨W1, hW1⟩ : ∃ W1, W1 = w.alloc (.cells #[.bool x.f0, I x.f1, I x.f2, .slice A3 x.f3.length c3, .slice A4 x.f4.length c4] 32) := ⟨_, rfl⟩
  have hB1 : Below w.heap.size w W1 := by rw [hW1]; exact below_alloc (Below.refl _ _) _
  have BK : W1.heap[w.heap.size]? = some (.cells #[.bool x.f0, I x.f1, I x.f2, .slice A3 x.f3.length c3, .slice A4 x.f4.length c4] 32 (0, 0)) := by rw [hW1]; exact blk_new _ _
  have hsz1 : W1.heap.size = w.heap.size + 1 := by rw [hW1]; exact World.size_alloc _ _
  have HW := Lib.hid (weigh_any (hg x + 1) x (N := 0) (L := 0) (gn := W1.heap.size) (W := (W1.alloc (.cells #[I 0] 3))) (by omega) h3 l3 h4 l4 (below_alloc hB1 _) hB1.size (by decide) (by decide) (blk_new _ _))
  unfold WeighR at HW
  have HB2 : Hid (Below w.heap.size w (W1.alloc (.cells #[I 0] 3))) := Lib.hid (below_alloc hB1 _)
  have HS : Hid (w.heap.size ≤ W1.heap.size) := Lib.hid hB1.size
  have BK2 : (W1.alloc (.cells #[I 0] 3)).heap[w.heap.size]? = some (.cells #[.bool x.f0, I x.f1, I x.f2, .slice A3 x.f3.length c3, .slice A4 x.f4.length c4] 32 (0, 0)) := blk_alloc BK _
  have k0 : (W1.alloc (.cells #[I 0] 3)).cell? ⟨w.heap.size, 0, none⟩ = some (.bool x.f0) := (blk_cell BK2 0).trans rfl
  have k1 : (W1.alloc (.cells #[I 0] 3)).cell? ⟨w.heap.size, 1, none⟩ = some (I x.f1) := (blk_cell BK2 1).trans rfl
  have k2 : (W1.alloc (.cells #[I 0] 3)).cell? ⟨w.heap.size, 2, none⟩ = some (I x.f2) := (blk_cell BK2 2).trans rfl
  have k3 : (W1.alloc (.cells #[I 0] 3)).cell? ⟨w.heap.size, 3, none⟩ = some (.slice A3 x.f3.length c3) := (blk_cell BK2 3).trans rfl
  have k4 : (W1.alloc (.cells #[I 0] 3)).cell? ⟨w.heap.size, 4, none⟩ = some (.slice A4 x.f4.length c4) := (blk_cell BK2 4).trans rfl
  clear hB1 BK BK2 h3 h4 l3 l4 hsz1
  generalize x.f3 = ask at *
  generalize x.f4 = kids at *
  generalize x.f0 = b at *
  generalize x.f1 = v at *
  generalize x.f2 = pl at *
  go_enter Try.func18, Try.ntmps18
  go_upto_region 1 with fail
  rw [← hW1]
  clear hW1
  go_wp2_with (go_at_call 67; refine HW.out.mono ?_; rintro e w7 ⟨rfl, hg7, _⟩)
  go_ret
  exact ⟨rfl, pw_below_grown HB2.out _ HB2.out.size hg7 (fun k hk => by cases hk; exact HS.out)⟩
end Go.Proofs.Ytpfbommaddaijaa
namespace Go.Proofs.Ytpfbommaddaijaa
open Go.RowKit Go.Proofs.YtpfbommaddaijaaW.PrintWords Go.Proofs.YtpfbommaddaijaaW.PrintLast PBoundTo
set_option linter.unusedVariables false
set_option linter.unusedSimpArgs false

/-- worlds behind calls that make memory alone -/
structure Ext (w : World) where
  val : World
  ok : Below w.heap.size w val
instance (w : World) : Nonempty (Ext w) := ⟨⟨w, Below.refl _ _⟩⟩
theorem wp_region_ext {id : Nat} {Q : Exit → Act → World → Prop} {a : Act} {w : World} {l : List Oper} (hm : Try.prog.follows .mixedOrders = true) (hB : Region.lexB .any l.toArray = true)
    (h : wpQuiet Try.prog l.toArray (fun w' => ∃ x : Ext w, w' = x.val) (fun a' => ∀ w', (∃ x : Ext w, w' = x.val) → Q .normal a' w') l a) : (Code.region id l.toArray true).wp Try.prog Q a w :=
  wp_region_quiet (C := fun w' => ∃ x : Ext w, w' = x.val) hm hB ⟨⟨{ w with drawn := w.drawn + 1 }, ⟨rfl, rfl, rfl, Nat.le_refl _, fun _ _ => rfl⟩⟩, rfl⟩ (by simpa using h)
theorem Ext.call {f : FuncId} {args : Array Value} {v : Value} {w : World} (x : Ext w) (h : Calls Try.prog f args x.val fun e w' => e = .returned v ∧ Below x.val.heap.size x.val w') : Calls Try.prog f args x.val fun e w'' => e = .returned v ∧ ∃ y : Ext w, w'' = y.val :=
  h.mono fun _ w'' ⟨he, hb⟩ => ⟨he, ⟨w'', x.ok.trans (hb.mono x.ok.size)⟩, rfl⟩
theorem Ext.cell {w : World} (x : Ext w) {a : Addr} {v : Value} (h : w.cell? a = some v) : x.val.cell? a = some v := cell_keep' x.ok h

mutual
def shp (n : Nat) : S32 → Bool
  | ⟨lf, v, pl, ask, kids⟩ => if lf = true then decide (0 ≤ v) && decide (v < n) && pl == 0 && (ask.length : Int) == 0 && (kids.length : Int) == 0 else v == 0 && (pl == 0 || pl == 1) && (ask.length : Int) == ((2 ^ n : Nat) : Int) && (kids.length : Int) == 2 && shpL n kids
def shpL (n : Nat) : List S32 → Bool
  | [] => true
  | x :: r => shp n x && shpL n r
end
theorem shp_leaf (n : Nat) (v pl : Int) (ask : List Bool) (kids : List S32) : shp n ⟨true, v, pl, ask, kids⟩ = (decide (0 ≤ v) && decide (v < n) && pl == 0 && (ask.length : Int) == 0 && (kids.length : Int) == 0) := by rw [shp]; rfl
theorem shp_node (n : Nat) (v pl : Int) (ask : List Bool) (kids : List S32) : shp n ⟨false, v, pl, ask, kids⟩ = (v == 0 && (pl == 0 || pl == 1) && (ask.length : Int) == ((2 ^ n : Nat) : Int) && (kids.length : Int) == 2 && shpL n kids) := by rw [shp]; rfl
theorem shpL_two (n : Nat) (x y : S32) : shpL n [x, y] = (shp n x && shp n y) := by rw [shpL, shpL, shpL]; simp
theorem w2 (n : Nat) (h : n ≤ 12) : wrap64 ((2 : Int) ^ n) = ((2 ^ n : Nat) : Int) := w2i n (by omega)
set_option maxHeartbeats 8000000 in
set_option maxRecDepth 100000 in
theorem shape_leaf {W : World} {n : Nat} {v pl : Int} {ask : List Bool} {kids : List S32} {A3 A4 : Option Addr} {c3 c4 : Nat} {b1 b2 b3 b4 b5 : Bool} (h1 : decide (0 ≤ v) = b1) (h2 : decide (v < n) = b2) (h3 : (pl == 0) = b3) (h4 : ((ask.length : Int) == 0) = b4) (h5 : ((kids.length : Int) == 0) = b5) :
    Calls Try.prog 70 #[.agg #[.bool true, I v, I pl, .slice A3 ask.length c3, .slice A4 kids.length c4], I n] W fun e W' => e = .returned (.bool (b1 && b2 && b3 && b4 && b5)) ∧ Below W.heap.size W W' := by
  obtain ⟨W1, hW1⟩ : ∃ W1, W1 = W.alloc (.cells #[.bool true, I v, I pl, .slice A3 ask.length c3, .slice A4 kids.length c4] 32) := ⟨_, rfl⟩
  have HB1 : Hid (Below W.heap.size W W1) := Lib.hid (by rw [hW1]; exact below_alloc (Below.refl _ _) _)
  have BK : W1.heap[W.heap.size]? = some (.cells #[.bool true, I v, I pl, .slice A3 ask.length c3, .slice A4 kids.length c4] 32 (0, 0)) := by rw [hW1]; exact blk_new _ _
  have k0 : W1.cell? ⟨W.heap.size, 0, none⟩ = some (.bool true) := (blk_cell BK 0).trans rfl
  have k1 : W1.cell? ⟨W.heap.size, 1, none⟩ = some (I v) := (blk_cell BK 1).trans rfl
  have k2 : W1.cell? ⟨W.heap.size, 2, none⟩ = some (I pl) := (blk_cell BK 2).trans rfl
  have k3 : W1.cell? ⟨W.heap.size, 3, none⟩ = some (.slice A3 ask.length c3) := (blk_cell BK 3).trans rfl
  have k4 : W1.cell? ⟨W.heap.size, 4, none⟩ = some (.slice A4 kids.length c4) := (blk_cell BK 4).trans rfl
  clear BK
  have hc : b1 = false ∨ (b1 = true ∧ b2 = false) ∨ (b1 = true ∧ b2 = true ∧ b3 = false) ∨ (b1 = true ∧ b2 = true ∧ b3 = true ∧ b4 = false) ∨ (b1 = true ∧ b2 = true ∧ b3 = true ∧ b4 = true) := by
    cases b1 <;> cases b2 <;> cases b3 <;> cases b4 <;> simp
  generalize ask.length = la at *
  generalize kids.length = lk at *
  rcases hc with rfl | ⟨rfl, rfl⟩ | ⟨rfl, rfl, rfl⟩ | ⟨rfl, rfl, rfl, rfl⟩ | ⟨rfl, rfl, rfl, rfl⟩
  all_goals
    go_enter Try.func70, Try.ntmps70
    go_upto_region 1 with fail
    rw [← hW1]
    clear hW1
    go_wp2
    go_ret
    exact ⟨by simp only [h1, h2, h3, h4, h5] <;> rfl, HB1.out⟩
set_option maxHeartbeats 8000000 in
set_option maxRecDepth 100000 in
theorem shape_short {W : World} {n : Nat} {v pl : Int} {ask : List Bool} {kids : List S32} {A3 A4 : Option Addr} {c3 c4 N : Nat} {b1 b2 b3 b4 b5 : Bool} (hn : (n : Int) ≤ 12) (hw : wrap64 ((2 : Int) ^ n) = (N : Int)) (h1 : (v == 0) = b1) (h2 : (pl == 0) = b2) (h3 : (pl == 1) = b3) (h4 : ((ask.length : Int) == (N : Int)) = b4) (h5 : ((kids.length : Int) == 2) = b5) (hx : (b1 && (b2 || b3) && b4 && b5) = false) :
    Calls Try.prog 70 #[.agg #[.bool false, I v, I pl, .slice A3 ask.length c3, .slice A4 kids.length c4], I n] W fun e W' => e = .returned (.bool false) ∧ Below W.heap.size W W' := by
  obtain ⟨W1, hW1⟩ : ∃ W1, W1 = W.alloc (.cells #[.bool false, I v, I pl, .slice A3 ask.length c3, .slice A4 kids.length c4] 32) := ⟨_, rfl⟩
  have HB1 : Hid (Below W.heap.size W W1) := Lib.hid (by rw [hW1]; exact below_alloc (Below.refl _ _) _)
  have BK : W1.heap[W.heap.size]? = some (.cells #[.bool false, I v, I pl, .slice A3 ask.length c3, .slice A4 kids.length c4] 32 (0, 0)) := by rw [hW1]; exact blk_new _ _
  have k0 : W1.cell? ⟨W.heap.size, 0, none⟩ = some (.bool false) := (blk_cell BK 0).trans rfl
  have k1 : W1.cell? ⟨W.heap.size, 1, none⟩ = some (I v) := (blk_cell BK 1).trans rfl
  have k2 : W1.cell? ⟨W.heap.size, 2, none⟩ = some (I pl) := (blk_cell BK 2).trans rfl
  have k3 : W1.cell? ⟨W.heap.size, 3, none⟩ = some (.slice A3 ask.length c3) := (blk_cell BK 3).trans rfl
  have k4 : W1.cell? ⟨W.heap.size, 4, none⟩ = some (.slice A4 kids.length c4) := (blk_cell BK 4).trans rfl
  have hn0 : (0 : Int) ≤ n := Int.natCast_nonneg n
  have e0 : ∀ x : Ext W1, x.val.cell? ⟨W.heap.size, 0, none⟩ = some (.bool false) := fun x => x.cell k0
  have e1 : ∀ x : Ext W1, x.val.cell? ⟨W.heap.size, 1, none⟩ = some (I v) := fun x => x.cell k1
  have e2 : ∀ x : Ext W1, x.val.cell? ⟨W.heap.size, 2, none⟩ = some (I pl) := fun x => x.cell k2
  have e3 : ∀ x : Ext W1, x.val.cell? ⟨W.heap.size, 3, none⟩ = some (.slice A3 ask.length c3) := fun x => x.cell k3
  have e4 : ∀ x : Ext W1, x.val.cell? ⟨W.heap.size, 4, none⟩ = some (.slice A4 kids.length c4) := fun x => x.cell k4
  clear BK k1 k2 k3 k4
  have hc : b1 = false ∨ (b1 = true ∧ b2 = false ∧ b3 = false) ∨ (b1 = true ∧ b2 = true ∧ b4 = false) ∨ (b1 = true ∧ b2 = false ∧ b3 = true ∧ b4 = false) ∨ (b1 = true ∧ b2 = true ∧ b4 = true ∧ b5 = false) ∨ (b1 = true ∧ b2 = false ∧ b3 = true ∧ b4 = true ∧ b5 = false) := by
    revert hx; cases b1 <;> cases b2 <;> cases b3 <;> cases b4 <;> cases b5 <;> simp
  clear hx
  generalize ask.length = la at *
  generalize kids.length = lk at *
  rcases hc with rfl | ⟨rfl, rfl, rfl⟩ | ⟨rfl, rfl, rfl⟩ | ⟨rfl, rfl, rfl, rfl⟩ | ⟨rfl, rfl, rfl, rfl⟩ | ⟨rfl, rfl, rfl, rfl, rfl⟩
  all_goals
    go_enter Try.func70, Try.ntmps70
    go_upto_region 1 with fail
    rw [← hW1]
    clear hW1
    go_upto_region 3 with fail
    refine wp_region_ext (by kernel_rfl) (by kernel_rfl) ?_
    repeat (go_big_quiet_step (fail))
    refine wpQuiet_nil ?_
    rintro _ ⟨x, rfl⟩
    go_wp2
    go_ret
    exact ⟨rfl, HB1.out.trans (x.ok.mono HB1.out.size)⟩
set_option maxHeartbeats 8000000 in
set_option maxRecDepth 100000 in
theorem shape_full {W : World} {n : Nat} {v pl : Int} {ask : List Bool} {ad : Addr} {A3 : Option Addr} {c3 c4 N : Nat} {b2 b3 r0 r1 : Bool} {x0 x1 x2 x3 x4 y0 y1 y2 y3 y4 : Value} (hn : (n : Int) ≤ 12) (hw : wrap64 ((2 : Int) ^ n) = (N : Int)) (h1 : (v == 0) = true) (h2 : (pl == 0) = b2) (h3 : (pl == 1) = b3) (h4 : ((ask.length : Int) == (N : Int)) = true) (hx : (b2 || b3) = true)
    (p0 : W.cell? (ad.add 0) = some x0) (p1 : W.cell? (ad.add 1) = some x1) (p2 : W.cell? (ad.add 2) = some x2) (p3 : W.cell? (ad.add 3) = some x3) (p4 : W.cell? (ad.add 4) = some x4)
    (q0 : W.cell? (ad.add 5) = some y0) (q1 : W.cell? (ad.add 6) = some y1) (q2 : W.cell? (ad.add 7) = some y2) (q3 : W.cell? (ad.add 8) = some y3) (q4 : W.cell? (ad.add 9) = some y4)
    (HX : ∀ W', Below W.heap.size W W' → Calls Try.prog 70 #[.agg #[x0, x1, x2, x3, x4], I n] W' fun e W'' => e = .returned (.bool r0) ∧ Below W'.heap.size W' W'') (HY : ∀ W', Below W.heap.size W W' → Calls Try.prog 70 #[.agg #[y0, y1, y2, y3, y4], I n] W' fun e W'' => e = .returned (.bool r1) ∧ Below W'.heap.size W' W'') :
    Calls Try.prog 70 #[.agg #[.bool false, I v, I pl, .slice A3 ask.length c3, .slice (some ad) 2 c4], I n] W fun e W' => e = .returned (.bool (r0 && r1)) ∧ Below W.heap.size W W' := by
  obtain ⟨W1, hW1⟩ : ∃ W1, W1 = W.alloc (.cells #[.bool false, I v, I pl, .slice A3 ask.length c3, .slice (some ad) 2 c4] 32) := ⟨_, rfl⟩
  have HB1 : Hid (Below W.heap.size W W1) := Lib.hid (by rw [hW1]; exact below_alloc (Below.refl _ _) _)
  have BK : W1.heap[W.heap.size]? = some (.cells #[.bool false, I v, I pl, .slice A3 ask.length c3, .slice (some ad) 2 c4] 32 (0, 0)) := by rw [hW1]; exact blk_new _ _
  have k0 : W1.cell? ⟨W.heap.size, 0, none⟩ = some (.bool false) := (blk_cell BK 0).trans rfl
  have k1 : W1.cell? ⟨W.heap.size, 1, none⟩ = some (I v) := (blk_cell BK 1).trans rfl
  have k2 : W1.cell? ⟨W.heap.size, 2, none⟩ = some (I pl) := (blk_cell BK 2).trans rfl
  have k3 : W1.cell? ⟨W.heap.size, 3, none⟩ = some (.slice A3 ask.length c3) := (blk_cell BK 3).trans rfl
  have k4 : W1.cell? ⟨W.heap.size, 4, none⟩ = some (.slice (some ad) 2 c4) := (blk_cell BK 4).trans rfl
  have hn0 : (0 : Int) ≤ n := Int.natCast_nonneg n
  have e0 : ∀ x : Ext W1, x.val.cell? ⟨W.heap.size, 0, none⟩ = some (.bool false) := fun x => x.cell k0
  have e1 : ∀ x : Ext W1, x.val.cell? ⟨W.heap.size, 1, none⟩ = some (I v) := fun x => x.cell k1
  have e2 : ∀ x : Ext W1, x.val.cell? ⟨W.heap.size, 2, none⟩ = some (I pl) := fun x => x.cell k2
  have e3 : ∀ x : Ext W1, x.val.cell? ⟨W.heap.size, 3, none⟩ = some (.slice A3 ask.length c3) := fun x => x.cell k3
  have e4 : ∀ x : Ext W1, x.val.cell? ⟨W.heap.size, 4, none⟩ = some (.slice (some ad) 2 c4) := fun x => x.cell k4
  have f0 : ∀ x : Ext W1, x.val.cell? ad = some x0 := fun x => x.cell (cell_keep' HB1.out (by rw [Addr.add_zero'] at p0; exact p0))
  have f1 : ∀ x : Ext W1, x.val.cell? ⟨ad.block, ad.off + 1, none⟩ = some x1 := fun x => x.cell (cell_keep' HB1.out p1)
  have f2 : ∀ x : Ext W1, x.val.cell? ⟨ad.block, ad.off + 2, none⟩ = some x2 := fun x => x.cell (cell_keep' HB1.out p2)
  have f3 : ∀ x : Ext W1, x.val.cell? ⟨ad.block, ad.off + 3, none⟩ = some x3 := fun x => x.cell (cell_keep' HB1.out p3)
  have f4 : ∀ x : Ext W1, x.val.cell? ⟨ad.block, ad.off + 4, none⟩ = some x4 := fun x => x.cell (cell_keep' HB1.out p4)
  have g0 : ∀ x : Ext W1, x.val.cell? ⟨ad.block, ad.off + 5, none⟩ = some y0 := fun x => x.cell (cell_keep' HB1.out q0)
  have g1 : ∀ x : Ext W1, x.val.cell? ⟨ad.block, ad.off + 5 + 1, none⟩ = some y1 := fun x => x.cell (cell_keep' HB1.out q1)
  have g2 : ∀ x : Ext W1, x.val.cell? ⟨ad.block, ad.off + 5 + 2, none⟩ = some y2 := fun x => x.cell (cell_keep' HB1.out q2)
  have g3 : ∀ x : Ext W1, x.val.cell? ⟨ad.block, ad.off + 5 + 3, none⟩ = some y3 := fun x => x.cell (cell_keep' HB1.out q3)
  have g4 : ∀ x : Ext W1, x.val.cell? ⟨ad.block, ad.off + 5 + 4, none⟩ = some y4 := fun x => x.cell (cell_keep' HB1.out q4)
  have HX := Lib.hid (fun x : Ext W1 => x.call (HX x.val (HB1.out.trans (x.ok.mono HB1.out.size))))
  have HY := Lib.hid (fun x : Ext W1 => x.call (HY x.val (HB1.out.trans (x.ok.mono HB1.out.size))))
  clear BK k1 k2 k3 k4 p0 p1 p2 p3 p4 q0 q1 q2 q3 q4
  have hc : (b2 = true ∧ r0 = false) ∨ (b2 = false ∧ b3 = true ∧ r0 = false) ∨ (b2 = true ∧ r0 = true) ∨ (b2 = false ∧ b3 = true ∧ r0 = true) := by
    revert hx; cases b2 <;> cases b3 <;> cases r0 <;> simp
  clear hx
  generalize ask.length = la at *
  rcases hc with ⟨rfl, rfl⟩ | ⟨rfl, rfl, rfl⟩ | ⟨rfl, rfl⟩ | ⟨rfl, rfl, rfl⟩
  all_goals
    go_enter Try.func70, Try.ntmps70
    go_upto_region 1 with fail
    rw [← hW1]
    clear hW1
    go_upto_region 3 with fail
    refine wp_region_ext (by kernel_rfl) (by kernel_rfl) ?_
    repeat (go_big_quiet_step (first
      | (go_at_call 70; with_reducible exact HX.out _)
      | (go_at_call 70; with_reducible exact HY.out _)))
    refine wpQuiet_nil ?_
    rintro _ ⟨x, rfl⟩
    go_wp2
    go_ret
    exact ⟨rfl, HB1.out.trans (x.ok.mono HB1.out.size)⟩
end Go.Proofs.Ytpfbommaddaijaa
namespace Go.Proofs.Ytpfbommaddaijaa
open Go.RowKit Go.Proofs.YtpfbommaddaijaaW.PrintWords Go.Proofs.YtpfbommaddaijaaW.PrintLast PBoundTo
set_option linter.unusedVariables false
set_option linter.unusedSimpArgs false

mutual
def nd : S32 → Nat
  | ⟨_, _, _, _, kids⟩ => 1 + ndL kids
def ndL : List S32 → Nat
  | [] => 0
  | x :: r => nd x + ndL r
end
theorem nd_eq (x : S32) : nd x = 1 + ndL x.f4 := by cases x; rw [nd]
theorem ndL_cons (x : S32) (r : List S32) : ndL (x :: r) = nd x + ndL r := by rw [ndL]
theorem ndL_nil : ndL [] = 0 := by rw [ndL]
/-- the parts of a kid, as two lists told them -/
theorem shape_any {n : Nat} (hn : n ≤ 12) : ∀ (m : Nat) (x : S32) {W : World} {A3 A4 : Option Addr} {c3 c4 : Nat}, hg x < m → Kd.C Kd.bool W A3 x.f3.length x.f3 → Kd.C k32 W A4 x.f4.length x.f4 →
    Calls Try.prog 70 #[.agg #[.bool x.f0, I x.f1, I x.f2, .slice A3 x.f3.length c3, .slice A4 x.f4.length c4], I n] W fun e W' => e = .returned (.bool (shp n x)) ∧ Below W.heap.size W W' := by
  intro m
  induction m with
  | zero => intro x _ _ _ _ _ h; exact absurd h (by omega)
  | succ m ih =>
    intro x W A3 A4 c3 c4 hm h3 h4
    obtain ⟨lf, v, pl, ask, kids⟩ := x
    simp only at h3 h4 ⊢
    cases lf with
    | true => rw [shp_leaf]; exact shape_leaf rfl rfl rfl rfl rfl
    | false =>
      rw [shp_node]
      have hw := w2 n hn
      by_cases hx : (v == 0 && (pl == 0 || pl == 1) && (ask.length : Int) == ((2 ^ n : Nat) : Int) && (kids.length : Int) == 2) = true
      · rw [hx, Bool.true_and]
        simp only [Bool.and_eq_true] at hx
        obtain ⟨⟨⟨e1, e2⟩, e3⟩, e4⟩ := hx
        have hk2 : kids.length = 2 := by have := eq_of_beq e4; omega
        obtain ⟨k0, k1, rfl⟩ : ∃ a b, kids = [a, b] := by
          match kids, hk2 with
          | [a, b], _ => exact ⟨a, b, rfl⟩
        obtain ⟨ad, B3, d3, B4, d4, rfl, x0, x1, x2, x3, x4, l3, i3, l4, i4⟩ := at_T32 h4 (0 : Int) (by omega) (by simp)
        obtain ⟨ad', C3, f3, C4, f4, he, y0, y1, y2, y3, y4, l3', i3', l4', i4'⟩ := at_T32 h4 (1 : Int) (by omega) (by simp)
        cases he
        have g0 := hg_kid [k0, k1] 0 (by simp)
        have g1 := hg_kid [k0, k1] 1 (by simp)
        rw [hg_eq] at hm
        simp only at hm
        have hfull := shape_full (W := W) (n := n) (A3 := A3) (c3 := c3) (c4 := c4) (v := v) (pl := pl) (ask := ask) (ad := ad) (r0 := shp n k0) (r1 := shp n k1) (by omega) hw e1 rfl rfl e3 e2 x0 x1 x2 x3 x4 y0 y1 y2 y3 y4
          (fun W' hW => ih k0 (by have : rd_T32 [k0, k1] (0 : Nat) = k0 := rfl; rw [this] at g0; omega) (Kd.C_below i3 hW) (Kd.C_below i4 hW))
          (fun W' hW => ih k1 (by have : rd_T32 [k0, k1] (1 : Nat) = k1 := rfl; rw [this] at g1; omega) (Kd.C_below i3' hW) (Kd.C_below i4' hW))
        rw [shpL_two]
        exact hfull
      · have hx' := Bool.eq_false_iff.2 hx
        rw [hx', Bool.false_and]
        exact shape_short (by omega) hw rfl rfl rfl rfl rfl hx'
mutual
theorem nd_le : ∀ x : S32, 1 ≤ nd x ∧ nd x ≤ wg x
  | ⟨a, b, c, ask, kids⟩ => by
    rw [nd, wg]
    have := ndL_le kids
    omega
theorem ndL_le : ∀ l : List S32, l.length ≤ ndL l ∧ ndL l ≤ wgL l
  | [] => by rw [ndL, wgL]; simp
  | x :: r => by
    rw [ndL, wgL, List.length_cons]
    have := nd_le x
    have := ndL_le r
    omega
end
/-- valid for n inputs -/
def vld (n : Int) (x : S32) : Bool := decide (1 ≤ n) && decide (n ≤ 12) && decide (((min (hg x) 61 : Nat) : Int) ≤ 60) && decide ((nd x : Int) ≤ 20000) && shp n.toNat x
set_option maxHeartbeats 8000000 in
set_option maxRecDepth 100000 in
theorem valid_walk {W : World} {n : Int} {a b : Int} {b1 b2 b3 b4 b5 lf : Bool} {v pl : Int} {ask : List Bool} {kids : List S32} {A3 A4 : Option Addr} {c3 c4 : Nat} (h1 : decide (1 ≤ n) = b1) (h2 : decide (n ≤ 12) = b2) (h3 : decide (a ≤ 60) = b3) (h4 : decide (b ≤ 20000) = b4)
    (HA : ∀ W', Below W.heap.size W W' → Calls Try.prog 68 #[.agg #[.bool lf, I v, I pl, .slice A3 ask.length c3, .slice A4 kids.length c4], I 61] W' fun e W'' => e = .returned (I a) ∧ Below W'.heap.size W' W'')
    (HB : ∀ W', Below W.heap.size W W' → Calls Try.prog 69 #[.agg #[.bool lf, I v, I pl, .slice A3 ask.length c3, .slice A4 kids.length c4]] W' fun e W'' => e = .returned (I b) ∧ Below W'.heap.size W' W'')
    (HC : b1 = true → b2 = true → ∀ W', Below W.heap.size W W' → Calls Try.prog 70 #[.agg #[.bool lf, I v, I pl, .slice A3 ask.length c3, .slice A4 kids.length c4], I n] W' fun e W'' => e = .returned (.bool b5) ∧ Below W'.heap.size W' W'') :
    Calls Try.prog 19 #[.agg #[.bool lf, I v, I pl, .slice A3 ask.length c3, .slice A4 kids.length c4], I n] W fun e W' => e = .returned (.bool (b1 && b2 && b3 && b4 && b5)) ∧ Below W.heap.size W W' := by
  replace HA := Lib.hid HA
  replace HB := Lib.hid HB
  replace HC := Lib.hid HC
  obtain ⟨W1, hW1⟩ : ∃ W1, W1 = W.alloc (.cells #[.bool lf, I v, I pl, .slice A3 ask.length c3, .slice A4 kids.length c4] 32) := ⟨_, rfl⟩
  have HB1 : Hid (Below W.heap.size W W1) := Lib.hid (by rw [hW1]; exact below_alloc (Below.refl _ _) _)
  have BK : W1.heap[W.heap.size]? = some (.cells #[.bool lf, I v, I pl, .slice A3 ask.length c3, .slice A4 kids.length c4] 32 (0, 0)) := by rw [hW1]; exact blk_new _ _
  have k0 : W1.cell? ⟨W.heap.size, 0, none⟩ = some (.bool lf) := (blk_cell BK 0).trans rfl
  have k1 : W1.cell? ⟨W.heap.size, 1, none⟩ = some (I v) := (blk_cell BK 1).trans rfl
  have k2 : W1.cell? ⟨W.heap.size, 2, none⟩ = some (I pl) := (blk_cell BK 2).trans rfl
  have k3 : W1.cell? ⟨W.heap.size, 3, none⟩ = some (.slice A3 ask.length c3) := (blk_cell BK 3).trans rfl
  have k4 : W1.cell? ⟨W.heap.size, 4, none⟩ = some (.slice A4 kids.length c4) := (blk_cell BK 4).trans rfl
  clear BK
  have hc : b1 = false ∨ (b1 = true ∧ b2 = false) ∨ (b1 = true ∧ b2 = true ∧ b3 = false) ∨ (b1 = true ∧ b2 = true ∧ b3 = true ∧ b4 = false) ∨ (b1 = true ∧ b2 = true ∧ b3 = true ∧ b4 = true) := by
    cases b1 <;> cases b2 <;> cases b3 <;> cases b4 <;> simp
  generalize ask.length = la at *
  generalize kids.length = lk at *
  rcases hc with rfl | ⟨rfl, rfl⟩ | ⟨rfl, rfl, rfl⟩ | ⟨rfl, rfl, rfl, rfl⟩ | ⟨rfl, rfl, rfl, rfl⟩
  · go_enter Try.func19, Try.ntmps19
    go_upto_region 1 with fail
    rw [← hW1]
    clear hW1
    go_wp2_with (first | (go_at_call 68; (with_reducible refine (HA.out _ HB1.out).mono ?_); rintro e w3 ⟨rfl, hb3⟩; have m0 := cell_keep' hb3 k0; have m1 := cell_keep' hb3 k1; have m2 := cell_keep' hb3 k2; have m3 := cell_keep' hb3 k3; have m4 := cell_keep' hb3 k4; have HB3 := Lib.hid (HB1.out.trans (hb3.mono HB1.out.size))) | (go_at_call 69; (with_reducible refine (HB.out _ HB3.out).mono ?_); rintro e w4 ⟨rfl, hb4⟩; have n0 := cell_keep' hb4 m0; have n1 := cell_keep' hb4 m1; have n2 := cell_keep' hb4 m2; have n3 := cell_keep' hb4 m3; have n4 := cell_keep' hb4 m4; have HB4 := Lib.hid (HB3.out.trans (hb4.mono HB3.out.size))) | (go_at_call 70; (with_reducible refine (HC.out rfl rfl _ HB4.out).mono ?_); rintro e w5 ⟨rfl, hb5⟩; have HB5 := Lib.hid (HB4.out.trans (hb5.mono HB4.out.size))))
    go_ret
    exact ⟨rfl, HB1.out⟩
  · go_enter Try.func19, Try.ntmps19
    go_upto_region 1 with fail
    rw [← hW1]
    clear hW1
    go_wp2_with (first | (go_at_call 68; (with_reducible refine (HA.out _ HB1.out).mono ?_); rintro e w3 ⟨rfl, hb3⟩; have m0 := cell_keep' hb3 k0; have m1 := cell_keep' hb3 k1; have m2 := cell_keep' hb3 k2; have m3 := cell_keep' hb3 k3; have m4 := cell_keep' hb3 k4; have HB3 := Lib.hid (HB1.out.trans (hb3.mono HB1.out.size))) | (go_at_call 69; (with_reducible refine (HB.out _ HB3.out).mono ?_); rintro e w4 ⟨rfl, hb4⟩; have n0 := cell_keep' hb4 m0; have n1 := cell_keep' hb4 m1; have n2 := cell_keep' hb4 m2; have n3 := cell_keep' hb4 m3; have n4 := cell_keep' hb4 m4; have HB4 := Lib.hid (HB3.out.trans (hb4.mono HB3.out.size))) | (go_at_call 70; (with_reducible refine (HC.out rfl rfl _ HB4.out).mono ?_); rintro e w5 ⟨rfl, hb5⟩; have HB5 := Lib.hid (HB4.out.trans (hb5.mono HB4.out.size))))
    go_ret
    exact ⟨rfl, HB1.out⟩
  · go_enter Try.func19, Try.ntmps19
    go_upto_region 1 with fail
    rw [← hW1]
    clear hW1
    go_wp2_with (first | (go_at_call 68; (with_reducible refine (HA.out _ HB1.out).mono ?_); rintro e w3 ⟨rfl, hb3⟩; have m0 := cell_keep' hb3 k0; have m1 := cell_keep' hb3 k1; have m2 := cell_keep' hb3 k2; have m3 := cell_keep' hb3 k3; have m4 := cell_keep' hb3 k4; have HB3 := Lib.hid (HB1.out.trans (hb3.mono HB1.out.size))) | (go_at_call 69; (with_reducible refine (HB.out _ HB3.out).mono ?_); rintro e w4 ⟨rfl, hb4⟩; have n0 := cell_keep' hb4 m0; have n1 := cell_keep' hb4 m1; have n2 := cell_keep' hb4 m2; have n3 := cell_keep' hb4 m3; have n4 := cell_keep' hb4 m4; have HB4 := Lib.hid (HB3.out.trans (hb4.mono HB3.out.size))) | (go_at_call 70; (with_reducible refine (HC.out rfl rfl _ HB4.out).mono ?_); rintro e w5 ⟨rfl, hb5⟩; have HB5 := Lib.hid (HB4.out.trans (hb5.mono HB4.out.size))))
    go_ret
    exact ⟨rfl, HB3.out⟩
  · go_enter Try.func19, Try.ntmps19
    go_upto_region 1 with fail
    rw [← hW1]
    clear hW1
    go_wp2_with (first | (go_at_call 68; (with_reducible refine (HA.out _ HB1.out).mono ?_); rintro e w3 ⟨rfl, hb3⟩; have m0 := cell_keep' hb3 k0; have m1 := cell_keep' hb3 k1; have m2 := cell_keep' hb3 k2; have m3 := cell_keep' hb3 k3; have m4 := cell_keep' hb3 k4; have HB3 := Lib.hid (HB1.out.trans (hb3.mono HB1.out.size))) | (go_at_call 69; (with_reducible refine (HB.out _ HB3.out).mono ?_); rintro e w4 ⟨rfl, hb4⟩; have n0 := cell_keep' hb4 m0; have n1 := cell_keep' hb4 m1; have n2 := cell_keep' hb4 m2; have n3 := cell_keep' hb4 m3; have n4 := cell_keep' hb4 m4; have HB4 := Lib.hid (HB3.out.trans (hb4.mono HB3.out.size))) | (go_at_call 70; (with_reducible refine (HC.out rfl rfl _ HB4.out).mono ?_); rintro e w5 ⟨rfl, hb5⟩; have HB5 := Lib.hid (HB4.out.trans (hb5.mono HB4.out.size))))
    go_ret
    exact ⟨rfl, HB4.out⟩
  · have HD := Lib.hid (HC.out rfl rfl)
    clear HC
    go_enter Try.func19, Try.ntmps19
    go_upto_region 1 with fail
    rw [← hW1]
    clear hW1
    go_wp2_with (first | (go_at_call 68; (with_reducible refine (HA.out _ HB1.out).mono ?_); rintro e w3 ⟨rfl, hb3⟩; have m0 := cell_keep' hb3 k0; have m1 := cell_keep' hb3 k1; have m2 := cell_keep' hb3 k2; have m3 := cell_keep' hb3 k3; have m4 := cell_keep' hb3 k4; have HB3 := Lib.hid (HB1.out.trans (hb3.mono HB1.out.size))) | (go_at_call 69; (with_reducible refine (HB.out _ HB3.out).mono ?_); rintro e w4 ⟨rfl, hb4⟩; have n0 := cell_keep' hb4 m0; have n1 := cell_keep' hb4 m1; have n2 := cell_keep' hb4 m2; have n3 := cell_keep' hb4 m3; have n4 := cell_keep' hb4 m4; have HB4 := Lib.hid (HB3.out.trans (hb4.mono HB3.out.size))) | (go_at_call 70; (with_reducible refine (HD.out _ HB4.out).mono ?_); rintro e w5 ⟨rfl, hb5⟩; have HB5 := Lib.hid (HB4.out.trans (hb5.mono HB4.out.size))))
    go_ret
    exact ⟨rfl, HB5.out⟩
end Go.Proofs.Ytpfbommaddaijaa
namespace Go.Proofs.Ytpfbommaddaijaa
open PBoundTo
set_option linter.unusedVariables false
set_option linter.unusedSimpArgs false

inductive Pt where
  | leaf (v : Int)
  | node (pl : Int) (ask : List Bool) (l r : Pt)
def Pt.toS : Pt → S32
  | .leaf v => ⟨true, v, 0, [], []⟩
  | .node pl ask l r => ⟨false, 0, pl, ask, [l.toS, r.toS]⟩
def Pt.ok (n : Nat) : Pt → Prop
  | .leaf v => 0 ≤ v ∧ v < n
  | .node pl ask l r => (pl = 0 ∨ pl = 1) ∧ ask.length = 2 ^ n ∧ l.ok n ∧ r.ok n
def Pt.dep : Pt → Nat
  | .leaf _ => 0
  | .node _ _ l r => 1 + max l.dep r.dep
def Pt.lvs : Pt → Nat
  | .leaf _ => 1
  | .node _ _ l r => l.lvs + r.lvs
def Pt.run (x y : Nat) : Pt → Int
  | .leaf v => v
  | .node pl ask l r => if ask.getD (if pl = 1 then y else x) false = true then r.run x y else l.run x y
theorem Pt.run0 (x y : Nat) (ask : List Bool) (l r : Pt) : Pt.run x y (.node 0 ask l r) = if ask.getD x false = true then r.run x y else l.run x y := by rw [Pt.run, if_neg (show ¬ ((0 : Int) = 1) by decide)]
theorem Pt.run1 (x y : Nat) (ask : List Bool) (l r : Pt) : Pt.run x y (.node 1 ask l r) = if ask.getD y false = true then r.run x y else l.run x y := by rw [Pt.run, if_pos rfl]
theorem Pt.hg : ∀ t : Pt, hg t.toS = t.dep
  | .leaf v => by rw [Pt.toS, hg_eq, hgL_nil]; rfl
  | .node pl ask l r => by rw [Pt.toS, hg_eq, hgL_cons, hgL_cons, hgL_nil, l.hg, r.hg]; simp only [Pt.dep]; omega
section
variable {n M : Nat}
/-- the protocol solves the table -/
def Slv (n : Nat) (t : Pt) (f : Nat → Bool) : Prop := ∀ x, x < 2 ^ n → f x = true → ∀ y, y < 2 ^ n → f y = false → (x ^^^ y).testBit (t.run x y).toNat = true
end
end Go.Proofs.Ytpfbommaddaijaa
namespace Go.Proofs.Ytpfbommaddaijaa
open Go.RowKit Go.Proofs.YtpfbommaddaijaaW.PrintWords Go.Proofs.YtpfbommaddaijaaW.PrintLast Go.Proofs.YtpfbommaddaijaaW.PrintMore PBoundTo
set_option linter.unusedVariables false
set_option linter.unusedSimpArgs false

theorem w11 : wrap64 (1 + 1) = 2 := wr_ok (by decide) (by decide)
/-- all from i on, j of them -/
def allF (p : Nat → Bool) : Nat → Nat → Bool
  | _, 0 => true
  | i, j + 1 => p i && allF p (i + 1) j
theorem allF_iff (p : Nat → Bool) : ∀ j i, allF p i j = true ↔ ∀ x, i ≤ x → x < i + j → p x = true
  | 0, i => by simp [allF]; intro x h1 h2; omega
  | j + 1, i => by
    rw [allF, Bool.and_eq_true, allF_iff p j (i + 1)]
    constructor
    · rintro ⟨h1, h2⟩ x h3 h4
      by_cases e : x = i
      · rw [e]; exact h1
      · exact h2 x (by omega) (by omega)
    · intro h
      exact ⟨h i (by omega) (by omega), fun x h1 h2 => h x (by omega) (by omega)⟩
/-- the pair is told apart -/
def apt (t : Pt) (x y : Nat) : Bool := (x ^^^ y).testBit (t.run x y).toNat
def slv (t : Pt) (l : List Bool) : Bool := allF (fun x => !l.getD x false || allF (fun y => l.getD y false || apt t x y) 0 l.length) 0 l.length
theorem slv_iff {t : Pt} {l : List Bool} {n : Nat} (hl : l.length = 2 ^ n) : slv t l = true ↔ Slv n t (fun x => l.getD x false) := by
  unfold slv Slv apt
  rw [allF_iff, hl]
  constructor
  · intro h x hx hfx y hy hfy
    have h1 := h x (by omega) (by omega)
    simp only at hfx hfy
    rw [hfx] at h1
    simp only [Bool.not_true, Bool.false_or] at h1
    have h2 := (allF_iff _ _ _).1 h1 y (by omega) (by omega)
    rw [hfy] at h2
    simpa using h2
  · intro h x _ hx
    cases e : l.getD x false with
    | false => rfl
    | true =>
      simp only [Bool.not_true, Bool.false_or]
      rw [allF_iff]
      intro y _ hy
      cases e2 : l.getD y false with
      | true => rfl
      | false => simpa using h x (by omega) e y (by omega) e2
section
variable {n : Nat} {t : Pt} {l : List Bool}
end
end Go.Proofs.Ytpfbommaddaijaa
namespace Go.Proofs.Ytpfbommaddaijaa
open Go.RowKit Go.Proofs.YtpfbommaddaijaaW.PrintWords Go.Proofs.YtpfbommaddaijaaW.PrintLast Go.Proofs.YtpfbommaddaijaaW.PrintMore PBoundTo
set_option linter.unusedVariables false
set_option linter.unusedSimpArgs false

theorem getD_range (f : Nat → Bool) {n x : Nat} (h : x < n) : ((List.range n).map f).getD x false = f x := by simp [List.getD, h]
end Go.Proofs.Ytpfbommaddaijaa
namespace Go.Proofs.Ytpfbommaddaijaa
open Go.ChangeShapes Go.WideShapes Go.ChangeAt Go.RowKit Go.Joins Go.Deep Go.Proofs.YtpfbommaddaijaaW.PrintWords PBoundTo
set_option linter.unusedVariables false

theorem Opn.any {α : Type} {P : Program} {t : TypeId} {d : Kd α} {Sz : α → Prop} {N : Nat} (h : Opn P t d Sz N) : Opn P t d (fun _ => True) N := ⟨fun enc W base held fuel cs x hf hx hr => by
  obtain ⟨y, hy, _⟩ := h.out enc W base held fuel cs x hf hx hr
  exact ⟨y, hy, trivial⟩⟩
theorem Opn.none {α : Type} {P : Program} {t : TypeId} {d : Kd α} {Sz : α → Prop} : Opn P t d Sz 0 := ⟨fun enc W base held fuel cs x hf hx hr => by
  have : fuel = 0 := by omega
  subst this
  simp [DataW.trod] at hx⟩
theorem Try.cells24 : Try.prog.cellsOf 24 = 3 := by kernel_rfl
theorem Try.cells22 : Try.prog.cellsOf 22 = 1 := by kernel_rfl
theorem opn24 : ∀ N, Opn Try.prog 24 (Kd.upto F24 3 [24] N) (fun _ => True) N
  | 0 => Opn.none
  | N + 1 => by
    have h22 : Opn Try.prog 22 (Kd.slice 24 (Kd.upto F24 3 [24] N)) _ N := (Opn.slice Try.underlying22 (Try.cells24.trans (sz24 N).symm) (opn24 N)).less (Nat.le_succ N)
    have h := Opn.struct (d := Kd.pair (Kd.int .i64) (Kd.pair (Kd.int .i64) (Kd.slice 24 (Kd.upto F24 3 [24] N)))) Try.underlying24 Try.cells24
      (OpnF.cons (off := 0) rfl Try.cells3 (Opn.int Try.underlying3 N) (OpnF.cons rfl Try.cells3 (Opn.int Try.underlying3 N) (OpnF.one rfl Try.cells22 h22)))
    exact (h.iso (fun x : S24 => (x.f0, x.f1, x.f2)) (fun z => ⟨z.1, z.2.1, z.2.2⟩) (fun z => rfl)).any
/-- a formula that came in, at the row -/
theorem open_form {H : Type} {enc : TypeId × Value → H} {W : World} {base fuel : Nat} {held : Bool} {cs : List Value} {x : DataW H} {ps : List MemPlace} {ts : List TypeId} {ds : List (DataW H)} {j : Nat}
    (hx : DataW.trod enc Try.prog W base (fun _ => true) held fuel 24 cs = some (x, ps)) (hsz : (DataW.weightsEach Try.prog ts ds).all (· ≤ reachBytes) = true) (ht : ts[j]? = some 24) (hd : ds[j]? = some x) :
    ∃ (y : S24) (A2 : Option Addr) (c2 : Nat), cs = [.int .i64 y.f0, .int .i64 y.f1, .slice A2 y.f2.length c2] ∧ y.f2.length ≤ c2 ∧ k24.C W A2 y.f2.length y.f2 := by
  obtain ⟨y, hy, _⟩ := (opn24 fuel).out enc W base held fuel _ _ (Nat.le_refl _) hx (reach_each hsz ht hd)
  obtain ⟨A2, c2, h⟩ := k24_open (x := y) ⟨fuel, hy⟩
  exact ⟨y, A2, c2, h⟩
end Go.Proofs.Ytpfbommaddaijaa

