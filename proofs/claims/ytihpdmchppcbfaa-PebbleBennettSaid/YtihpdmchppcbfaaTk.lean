/- A play performed by the reference: the pebbles that lie at its end and the most that lay. -/
import Derived.Test.YtihpdmchppcbfaaTj
namespace Go.Proofs.Ytihpdmchppcbfaa
open Go.RowKit
set_option linter.unusedVariables false
set_option linter.unusedSimpArgs false

/-- a row of cells of the call's own, with or without spare cells behind it -/
def Rw (w : World) (b t n : Nat) (f : Nat → Value) : Prop := ∃ c : Array Value, w.heap[b]? = some (.cells c t (0, 0)) ∧ n ≤ c.size ∧ ∀ i, i < n → c[i]? = some (f i)
namespace Rw
variable {w w' : World} {b t n : Nat} {f g : Nat → Value}
theorem cell (h : Rw w b t n f) {i : Nat} (hi : i < n) : w.cell? ⟨b, i, none⟩ = some (f i) := by
  obtain ⟨c, hb, _, hc⟩ := h
  simp [World.cell?, hb, hc i hi]
theorem frozen (h : Rw w b t n f) (i : Nat) : w.frozen? ⟨b, i, none⟩ = false := by
  obtain ⟨c, hb, _, _⟩ := h
  simp [World.frozen?, hb]
theorem lt (h : Rw w b t n f) : b < w.heap.size := by
  obtain ⟨c, hb, _, _⟩ := h
  exact (Array.getElem?_eq_some_iff.1 hb).1
theorem congr (h : Rw w b t n f) (e : ∀ i, i < n → f i = g i) : Rw w b t n g := by
  obtain ⟨c, hb, hn, hc⟩ := h
  exact ⟨c, hb, hn, fun i hi => by rw [hc i hi, e i hi]⟩
theorem of_block (h : Rw w b t n f) (e : w'.heap[b]? = w.heap[b]?) : Rw w' b t n f := by
  obtain ⟨c, hb, hn, hc⟩ := h
  exact ⟨c, e.trans hb, hn, hc⟩
theorem keep (h : Rw w b t n f) (hb : Below w.heap.size w w') : Rw w' b t n f := h.of_block (hb.block _ h.lt)
theorem drew (h : Rw w b t n f) (m : Nat) : Rw (w.drewN m) b t n f := h
theorem set (h : Rw w b t n f) (i : Nat) (x : Value) (e : ∀ u, (if u = i then x else f u) = g u) : Rw (w.setCell ⟨b, i, none⟩ x) b t n g := by
  obtain ⟨c, hb, hn, hc⟩ := h
  refine ⟨c.setIfInBounds i x, ?_, by simpa using hn, fun j hj => ?_⟩
  · simp [World.setCell, Array.getElem?_modify, hb]
  · rw [← e j, Array.getElem?_setIfInBounds]
    by_cases c1 : i = j
    · subst c1
      rw [if_pos rfl, if_pos (by omega), if_pos rfl]
    · rw [if_neg c1, if_neg (fun h => c1 h.symm)]
      exact hc j hj
end Rw
theorem own_rw {w : World} {B e n : Nat} {v : Value} {f : Nat → Value} (h : w.ownsRow B e 1 v n ((List.range n).map f)) : ∃ a cap, v = .slice a n cap ∧ n ≤ cap ∧ cap ≤ maxLen ∧ (0 < n → ∃ g, a = some ⟨g, 0, none⟩ ∧ B ≤ g ∧ Rw w g e n f) := by
  rcases h.2 with ⟨h1, h0⟩ | ⟨g, cap, cur, h1, h2, h3, h4, h5, h6, h7⟩
  · exact ⟨none, 0, by rw [h1, h0], by omega, by decide, fun h => by omega⟩
  · refine ⟨_, cap, h1, h4, h5, fun _ => ⟨g, rfl, h2, cur, h3, by omega, fun i hi => ?_⟩⟩
    have e : (cur.toList.take (n * 1))[i]? = some (f i) := by rw [h7]; simp [hi]
    rw [List.getElem?_take, if_pos (by omega), Array.getElem?_toList] at e
    exact e

theorem rw_bs {w : World} {g n cap : Nat} {f : Nat → Bool} (h : Rw w g 4 n (fun u => .bool (f u))) (h1 : n ≤ cap) (h2 : cap ≤ maxLen) : Bs w (.slice (some ⟨g, 0, none⟩) n cap) n f := by
  refine ⟨some ⟨g, 0, none⟩, cap, rfl, h1, h2, fun _ => ⟨_, rfl⟩, ?_⟩
  intro b hb i hi
  cases hb
  rw [add_z]
  exact h.cell hi

theorem max_if (a b : Int) : (if a < b then b else a) = max a b := by split <;> omega
def upd (f : Nat → Bool) (m : Bool × Int) : Nat → Bool := fun u => if u = m.2.toNat then m.1 else f u
def step1 (m : Bool × Int) (now : Int) : Int := if m.1 = true then now + 1 else now - 1
open Classical in
noncomputable def run (L : Nat → Nat) (Z : Nat → Nat → Int) (rev : Bool) : List (Bool × Int) → (Nat → Bool) → Int → Int → Option ((Nat → Bool) × Int)
  | [], f, _, most => some (f, most)
  | m :: ms, f, now, most => if AL L Z f m rev then run L Z rev ms (upd f m) (step1 m now) (max most (step1 m now)) else none
def cnt (f : Nat → Bool) : Nat → Nat
  | 0 => 0
  | i + 1 => cnt f i + if f i = true then 1 else 0
theorem cnt_le (f : Nat → Bool) : ∀ i, cnt f i ≤ i
  | 0 => Nat.le_refl _
  | i + 1 => by have := cnt_le f i; simp only [cnt]; split <;> omega
theorem drop_cons {α : Type} {l : List α} {i : Nat} (z : α) (h : i < l.length) : l.drop i = l.getD i z :: l.drop (i + 1) := by
  rw [List.drop_eq_getElem_cons h]; simp [List.getD, h]

/-- what a play comes to -/
def Ply (w : World) (n : Nat) (r : Option ((Nat → Bool) × Int)) (e : Ending) (w' : World) : Prop :=
  match r with
  | some (f, most) => ∃ v, e = .returned (.tuple #[v, I most, .bool true]) ∧ Bs w' v n f ∧ Below w.heap.size w w'
  | none => e = .returned (.tuple #[.slice none 0 0, I 0, .bool false]) ∧ Below w.heap.size w w'
theorem Try.info4 : (Try.prog.info? 4).map (fun i => (i.zero, i.size, i.bytes)) = some (some (.bool false), 1, 1) := by kernel_rfl

set_option maxHeartbeats 8000000 in
theorem play_any {w : World} {v bv pv : Value} {n : Nat} {A : Nat → Option Addr} {L C : Nat → Nat} {Z : Nat → Nat → Int} (hd : Dg w v n A L C Z) (hr : okDag n L Z) {f : Nat → Bool} (hb : Bs w bv n f) {ms : List (Bool × Int)} (hp : Pl w pv ms) (hl : ms.length ≤ 200000) (hok : ∀ i, i < ms.length → okM n (ms.getD i dm)) (rev : Bool) :
    Calls Try.prog 28 #[v, bv, pv, .bool rev] w (Ply w n (run L Z rev ms f (cnt f n) (cnt f n))) := by
  obtain ⟨pa, pc, rfl⟩ := hp.shape
  obtain ⟨ba, bc, rfl⟩ := hb.shape
  have hn1 := hr.1
  have hn1000 := hr.2.1
  obtain ⟨bb, rfl, _⟩ := hb.at' (i := 0) (by omega)
  have Hd := Lib.hid hd
  have HOK := Lib.hid hr
  have HBs := Lib.hid hb
  have HP := Lib.hid hp
  have HM := Lib.hid hok
  obtain ⟨R, hR⟩ : ∃ R, R = run L Z rev ms f (cnt f n) (cnt f n) := ⟨_, rfl⟩
  rw [← hR]
  have HRR := Lib.hid hR
  obtain ⟨i0, hi, hz0, hz1, hz2⟩ := info_parts Try.info4
  have hnews : ∀ j u, ((List.range n).map fun c => Value.bool (f c))[j]? = some u → (w.alloc (.cells #[] 4)).cell? (bb.add j) = some u := by
    intro j u hj
    have hjl : j < n := by
      have := (List.getElem?_eq_some_iff.1 hj).1
      simpa using this
    have hu : u = .bool (f j) := by simpa [hjl] using hj.symm
    obtain ⟨_, e, h1⟩ := HBs.out.at' hjl
    cases e
    rw [hu]
    exact cell_alloc h1 _
  have hone : ∀ u ∈ (List.range n).map (fun c => Value.bool (f c)), u.oneCell' = true := by
    intro u hu
    obtain ⟨c, _, rfl⟩ := List.mem_map.1 hu
    rfl
  have Hnews := Lib.hid hnews
  have Hone := Lib.hid hone
  generalize hk : ms.length = k at *
  have HK := Lib.hid hk
  clear hk hd hr hb hp hok hR hnews hone
  go_enter Try.func28, Try.ntmps28
  go_upto_block 0 with (first
    | (at_builtin; refine wpList_append_own _ rfl (.tmp 16) (.tmp 17) 50 rfl w.heap.size 4 i0 (.bool false) 1 1 Try.underlying50 hi hz0 hz1 hz2 rfl (by decide) _ _ _ rfl (World.ownsRow_made w #[] 0 (Nat.le_refl _) (by decide) rfl) bb n bc ((List.range n).map fun c => Value.bool (f c)) rfl (by simp) Hnews.out Hone.out (by unfold maxLen; omega) (by omega) (by simp) ?_; intro u w1 hown1 hgrow1 _; simp only [Nat.zero_add, List.nil_append] at hown1; obtain ⟨ua, uc, rfl, huc1, huc2, hg⟩ := own_rw hown1; obtain ⟨g, rfl, hgB, hrow⟩ := hg (by omega); have HROW := Lib.hid hrow; have HB1 := Lib.hid (((Below.refl w.heap.size w).alloc (Nat.le_refl _) (.cells #[] 4)).grown hgrow1 (by simp) (fun x hx => by cases hx; exact Nat.le_refl _)); clear hgrow1 hown1 hg hrow))
  clear Hnews Hone
  obtain ⟨c0, hc0⟩ : ∃ c0, c0 = cnt f n := ⟨_, rfl⟩
  have HC0 := Lib.hid hc0
  clear hc0
  go_cut [12, 13] from 14 (fun x y wr => x = I (cnt f n : Nat) ∧ Hid (Rw wr g 4 n (fun u => .bool (f u))) ∧ Hid (Below w.heap.size w wr))
  case first =>
    go_wp2
    go_loop [12, 13] (fun x y => ∃ i : Nat, i ≤ n ∧ x = I (cnt f i : Nat) ∧ y = I i) (fun _ y => n - (intOf y).toNat)
    case atStart => exact ⟨0, by omega, rfl, rfl⟩
    case round =>
      obtain ⟨i, hin, rfl, rfl⟩ := hrel
      have hci := cnt_le f i
      by_cases hlt : i < n
      · have ci := HROW.out.cell hlt
        have hst : cnt f (i + 1) = cnt f i + if f i = true then 1 else 0 := rfl
        generalize cnt f i = c at *
        obtain ⟨d, hd⟩ : ∃ d, d = cnt f (i + 1) := ⟨_, rfl⟩
        rw [← hd] at hst
        have HD := Lib.hid hd
        clear hd
        obtain ⟨fi, hfi⟩ : ∃ fi, fi = f i := ⟨_, rfl⟩
        rw [← hfi] at ci hst
        clear hfi
        cases fi with
        | true =>
          simp only [if_true] at hst
          have hst' := Lib.hid hst
          clear hst
          go_wp2
          go_round
          case rel => exact ⟨i + 1, by omega, by rw [← HD.out, hst'.out]; go_num, by go_num⟩
          case measure => simp [intOf]; omega
        | false =>
          simp only [Bool.false_eq_true, if_false, Nat.add_zero] at hst
          have hst' := Lib.hid hst
          clear hst
          go_wp2
          go_round
          case rel => exact ⟨i + 1, by omega, by rw [← HD.out, hst'.out], by go_num⟩
          case measure => simp [intOf]; omega
      · obtain rfl : i = n := by omega
        go_wp2
        go_meet
        exact ⟨rfl, HROW, HB1⟩
  case rest =>
    clear HROW HB1
    obtain ⟨rfl, hrow, hB⟩ := hcut
    rw [← HC0.out]
    have hc0n : c0 ≤ n := by rw [HC0.out]; exact cnt_le f n
    go_wp2
    go_loopw [12, 14, 15] (fun x y z wr => ∃ (i : Nat) (fi : Nat → Bool) (now most : Int), i ≤ k ∧ x = I now ∧ y = I most ∧ z = I i ∧ -(i : Int) ≤ now ∧ now ≤ n + i ∧ 0 ≤ most ∧ most ≤ n + i ∧ Hid (R = run L Z rev (ms.drop i) fi now most) ∧ Hid (Rw wr g 4 n (fun u => .bool (fi u))) ∧ Hid (Below w.heap.size w wr)) (fun _ _ z _ => k - (intOf z).toNat)
    case atStart => exact ⟨0, f, c0, c0, by omega, rfl, rfl, rfl, by omega, by omega, by omega, by omega, Lib.hid (by rw [HRR.out, ← HC0.out]; rfl), hrow, hB⟩
    case round =>
      clear HRR hrow hB
      obtain ⟨i, fi, now, most, hik, rfl, rfl, rfl, b1, b2, b3, b4, HRR, hrow, hB⟩ := hrel
      by_cases hlt : i < k
      · have hd := Lib.hid (Hd.out.keep hB.out)
        have hbs := Lib.hid (rw_bs hrow.out huc1 huc2)
        have hpl := Lib.hid (HP.out.keep hB.out)
        obtain ⟨pb, rfl, cp0, cp1⟩ := hpl.out.at' (i := i) (by rw [HK.out]; exact hlt)
        have hom := HM.out i hlt
        have hdc := drop_cons dm (l := ms) (i := i) (by rw [HK.out]; exact hlt)
        obtain ⟨m, hm⟩ : ∃ m, m = ms.getD i dm := ⟨_, rfl⟩
        rw [← hm] at cp0 cp1 hom hdc
        obtain ⟨x, hx⟩ : ∃ x : Nat, m.2 = x := ⟨m.2.toNat, by have := hom.1; omega⟩
        have hxn : x < n := by have := hom.2; omega
        rw [hx] at cp1
        obtain ⟨p, hp⟩ : ∃ p, p = m.1 := ⟨_, rfl⟩
        rw [← hp] at cp0
        have hmm : m = (p, (x : Int)) := by rw [hp, ← hx]
        have HGM : Hid (ms.getD i dm = (p, (x : Int))) := Lib.hid (by rw [← hm, hmm])
        have HMM := Lib.hid hmm
        have HDC := Lib.hid hdc
        clear hm hx hp hmm hdc hom
        by_cases hal : AL L Z fi (p, (x : Int)) rev
        · have HAL := Lib.hid (allowed_any hd.out HOK.out hbs.out hxn p rev (r := true) (by simp [hal]))
          have HRN : Hid (R = run L Z rev (ms.drop (i + 1)) (upd fi (p, (x : Int))) (step1 (p, (x : Int)) now) (max most (step1 (p, (x : Int)) now))) := Lib.hid (by rw [HRR.out, HDC.out, HMM.out, run, if_pos hal])
          clear hal HRR
          have hx1 : (0 : Int) ≤ x := by omega
          have hx2 : (x : Int) < n := by omega
          go_upto_region 14 with (go_at_call 39; refine HAL.out.mono ?_; rintro e w2 ⟨rfl, hb2⟩; have HB2 := Lib.hid hb2; have hro := Lib.hid (hrow.out.keep hb2); have hpl2 := Lib.hid (hpl.out.keep hb2); clear hb2)
          obtain ⟨_, e, cp0', cp1'⟩ := hpl2.out.at' (i := i) (by rw [HK.out]; exact hlt)
          cases e
          rw [HGM.out] at cp0' cp1'
          simp only at cp0' cp1'
          have cr := hro.out.cell hxn
          have fr := hro.out.frozen x
          clear cp0 cp1
          go_region
          have NR : Hid (Rw (w2.setCell ⟨g, x, none⟩ (.bool p)).drew g 4 n (fun u => .bool (upd fi (p, (x : Int)) u))) := Lib.hid ((hro.out.set x (.bool p) (g := fun u => .bool (upd fi (p, (x : Int)) u)) (fun u => by simp only [upd, Int.toNat_natCast]; split <;> rfl)).drew 1)
          have NB := Lib.hid ((((hB.out.trans (HB2.out.mono hB.out.size)).setCell (p := ⟨g, x, none⟩) hgB (.bool p))).drew)
          have NP := Lib.hid (HP.out.keep NB.out)
          clear cp0' cp1' cr fr hro HB2 hpl2 hpl hbs hd HAL
          generalize (w2.setCell ⟨g, x, none⟩ (.bool p)).drew = w9 at *
          obtain ⟨_, e, cp0, cp1⟩ := NP.out.at' (i := i) (by rw [HK.out]; exact hlt)
          cases e
          rw [HGM.out] at cp0 cp1
          simp only at cp0 cp1
          clear NP
          cases p with
          | true =>
            go_wp2
            go_roundw
            case rel => exact ⟨i + 1, _, now + 1, max most (now + 1), by omega, rfl, by rw [max_if], by go_num, by omega, by omega, by omega, by omega, by simpa [step1] using HRN, NR, NB⟩
            case measure => simp [intOf]; omega
          | false =>
            go_wp2
            go_roundw
            case rel => exact ⟨i + 1, _, now - 1, max most (now - 1), by omega, rfl, by rw [max_if], by go_num, by omega, by omega, by omega, by omega, by simpa [step1] using HRN, NR, NB⟩
            case measure => simp [intOf]; omega
        · have HAL := Lib.hid (allowed_any hd.out HOK.out hbs.out hxn p rev (r := false) (by simp [hal]))
          have HRN : Hid (R = none) := Lib.hid (by rw [HRR.out, HDC.out, HMM.out, run, if_neg hal])
          clear hal HRR
          go_wp2_with (go_at_call 39; refine HAL.out.mono ?_; rintro e w2 ⟨rfl, hb2⟩; have HB2 := Lib.hid hb2; clear hb2)
          go_ret3
          rw [HRN.out]
          exact ⟨rfl, hB.out.trans (HB2.out.mono hB.out.size)⟩
      · obtain rfl : i = k := by omega
        have HRN : Hid (R = some (fi, most)) := Lib.hid (by
          have : ms.drop i = [] := List.drop_eq_nil_of_le (by rw [HK.out]; exact Nat.le_refl _)
          rw [HRR.out, this]; rfl)
        go_wp2
        go_ret3
        rw [HRN.out]
        exact ⟨_, rfl, rw_bs hrow.out huc1 huc2, hB.out⟩

open Classical in
noncomputable def CR (n : Nat) : Option ((Nat → Bool) × Int) → Int × Bool
  | none => (0, false)
  | some (f, mo) => if ∀ u, u < n → f u = decide (u = n - 1) then (mo, true) else (0, false)
theorem cnt_zero : ∀ n, cnt (fun _ => false) n = 0
  | 0 => rfl
  | n + 1 => by simp [cnt, cnt_zero n]

set_option maxHeartbeats 8000000 in
theorem complete_any {w : World} {v pv : Value} {n : Nat} {A : Nat → Option Addr} {L C : Nat → Nat} {Z : Nat → Nat → Int} (hd : Dg w v n A L C Z) (hr : okDag n L Z) {ms : List (Bool × Int)} (hp : Pl w pv ms) (hl : ms.length ≤ 200000) (hok : ∀ i, i < ms.length → okM n (ms.getD i dm)) (rev : Bool) {mo : Int} {b : Bool} (hres : CR n (run L Z rev ms (fun _ => false) 0 0) = (mo, b)) :
    Calls Try.prog 18 #[v, pv, .bool rev] w fun e w' => e = .returned (.tuple #[I mo, .bool b]) ∧ Below w.heap.size w w' := by
  have hn1 := hr.1
  have hn1000 := hr.2.1
  have HP := Lib.hid (fun (w1 : World) (hb : Below w.heap.size w w1) (bv : Value) (hbs : Bs w1 bv n (fun _ => false)) => play_any (hd.keep hb) hr hbs (hp.keep hb) hl hok rev)
  obtain ⟨R, hR⟩ : ∃ R, R = run L Z rev ms (fun _ => false) 0 0 := ⟨_, rfl⟩
  rw [← hR] at hres
  have HRR : Hid (run L Z rev ms (fun _ => false) (cnt (fun _ => false) n : Nat) (cnt (fun _ => false) n : Nat) = R) := Lib.hid (by rw [hR, cnt_zero]; rfl)
  have HRES := Lib.hid hres
  obtain ⟨a, cap, rfl⟩ : ∃ a cap, v = .slice a n cap := by
    obtain ⟨a, cap, h, _⟩ := hd.top
    exact ⟨a, cap, h⟩
  have hmk := run_make_row' (P := Try.prog) 50 4 (.bool false) 1 Try.underlying50 Try.info4 rfl .i64 .i64 n (by omega) (by omega)
  have hB1 : Below w.heap.size w (w.alloc (.cells (madeCells #[.bool false] n) 4)) := (Below.refl _ _).alloc (Nat.le_refl _) _
  have hbs : Bs (w.alloc (.cells (madeCells #[.bool false] n) 4)) (.slice (some ⟨w.heap.size, 0, none⟩) n n) n (fun _ => false) := by
    have h := World.rowIs_made w (.bool false) n 4
    refine ⟨some ⟨w.heap.size, 0, none⟩, n, rfl, Nat.le_refl _, by unfold maxLen; omega, fun _ => ⟨_, rfl⟩, ?_⟩
    intro b hb i hi
    cases hb
    rw [add_z]
    exact h.cell hi
  have HCALL := Lib.hid (HP.out _ hB1 _ hbs)
  have HB1 := Lib.hid hB1
  clear hres hR hd hr hp hl hok HP hbs hB1
  rw [HRR.out] at HCALL
  cases R with
  | none =>
    have he : mo = 0 ∧ b = false := by have := HRES.out; simp [CR] at this; exact ⟨this.1.symm, by first | exact this.2 | exact this.2.symm⟩
    obtain ⟨rfl, rfl⟩ := he
    go_enter Try.func18, Try.ntmps18
    go_wp2_with (go_at_call 28; refine HCALL.out.mono ?_; rintro e w2 ⟨rfl, hb2⟩; have HB2 := Lib.hid hb2; clear hb2)
    go_ret2
    exact ⟨rfl, HB1.out.trans (HB2.out.mono HB1.out.size)⟩
  | some r =>
    obtain ⟨f, most⟩ := r
    go_enter Try.func18, Try.ntmps18
    go_wp2_with (go_at_call 28; refine HCALL.out.mono ?_; rintro e w2 ⟨rv, rfl, hbs2, hb2⟩; have HB2 := Lib.hid hb2; have HBS := Lib.hid hbs2; clear hb2 hbs2)
    obtain ⟨ra, rc, rfl⟩ := HBS.out.shape
    go_loop [11] (fun y => ∃ i : Nat, i ≤ n ∧ Hid (∀ j, j < i → f j = decide (j = n - 1)) ∧ y = I i) (fun y => n - (intOf y).toNat)
    case atStart => exact ⟨0, by omega, Lib.hid (fun j hj => by omega), rfl⟩
    case round =>
      obtain ⟨i, hi, HI, rfl⟩ := hrel
      by_cases hin : i < n
      · obtain ⟨bb, rfl, ci⟩ := HBS.out.at' hin
        obtain ⟨fi, hfi⟩ : ∃ fi, fi = f i := ⟨_, rfl⟩
        rw [← hfi] at ci
        have hbe : ((i : Int) == (n : Int) - 1) = decide (i = n - 1) := by
          rw [Bool.eq_iff_iff, beq_iff_eq, decide_eq_true_iff]; omega
        obtain ⟨de, hde⟩ : ∃ de, de = decide (i = n - 1) := ⟨_, rfl⟩
        rw [← hde] at hbe
        have HFI := Lib.hid hfi
        have HDE := Lib.hid hde
        clear hfi hde
        by_cases hq : fi = de
        · have hq2 : (fi != de) = false := by simp [hq]
          have HI2 : Hid (∀ j, j < i + 1 → f j = decide (j = n - 1)) := Lib.hid (fun j hj => by
            rcases Nat.lt_or_ge j i with hl | hl
            · exact HI.out j hl
            · obtain rfl : j = i := by omega
              rw [← HFI.out, ← HDE.out, hq])
          cases fi <;> cases de <;> simp at hq
          all_goals
            go_wp2
            go_round
            case rel => exact ⟨i + 1, by omega, HI2, by go_num⟩
            case measure => simp [intOf]; omega
        · have hq2 : (fi != de) = true := by simp [hq]
          have he : mo = 0 ∧ b = false := by
            have := HRES.out
            rw [CR, if_neg (fun h => hq (by rw [HFI.out, HDE.out]; exact h i hin))] at this
            simp at this; exact ⟨this.1.symm, by first | exact this.2 | exact this.2.symm⟩
          obtain ⟨rfl, rfl⟩ := he
          cases fi <;> cases de <;> simp at hq
          all_goals
            go_wp2
            go_ret2
            exact ⟨rfl, HB1.out.trans (HB2.out.mono HB1.out.size)⟩
      · obtain rfl : i = n := by omega
        have he : mo = most ∧ b = true := by
          have := HRES.out
          rw [CR, if_pos HI.out] at this
          simp at this; exact ⟨this.1.symm, by first | exact this.2 | exact this.2.symm⟩
        obtain ⟨rfl, rfl⟩ := he
        go_wp2
        go_ret2
        exact ⟨rfl, HB1.out.trans (HB2.out.mono HB1.out.size)⟩
end Go.Proofs.Ytihpdmchppcbfaa
