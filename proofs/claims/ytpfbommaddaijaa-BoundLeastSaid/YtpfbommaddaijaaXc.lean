/- Formulas as trees: in memory, and as the printed functions take them; The reference's Apply and Truth; The reference's Truth of inner nodes; The reference's Truth of two-sided nodes. -/
import Derived.Test.YtpfbommaddaijaaKa
import Derived.Test.YtpfbommaddaijaaPsmallx2
import Derived.Test.YtpfbommaddaijaaPContainsx1
import Derived.Test.YtpfbommaddaijaaN1
import Derived.Deep.RegionHeld3
import Derived.StillTailTactics
namespace Go.Proofs.Ytpfbommaddaijaa
open Go.RowKit Go.Proofs.YtpfbommaddaijaaW.PrintWords Go.Proofs.YtpfbommaddaijaaW.PrintLast
set_option linter.unusedVariables false
set_option linter.unusedSimpArgs false

inductive Fx where
  | leaf (k n : Int)
  | not (a : Fx)
  | bin (k : Int) (a b : Fx)
/-- the cells of a node -/
def Fm (w : World) : Fx → List Value → Prop
  | .leaf k n, cs => ∃ A c, cs = [I k, I n, .slice A 0 c]
  | .not a, cs => ∃ ad c ca, cs = [I 2, I 0, .slice (some ad) 1 c] ∧ 1 ≤ c ∧ ca.length = 3 ∧ (∀ i u, ca[i]? = some u → w.cell? (ad.add i) = some u) ∧ Fm w a ca
  | .bin k a b, cs => ∃ ad c ca cb, cs = [I k, I 0, .slice (some ad) 2 c] ∧ 2 ≤ c ∧ ca.length = 3 ∧ cb.length = 3 ∧ (∀ i u, ca[i]? = some u → w.cell? (ad.add i) = some u) ∧ (∀ i u, cb[i]? = some u → w.cell? (ad.add (3 + i)) = some u) ∧ Fm w a ca ∧ Fm w b cb
theorem cell_keep {w w' : World} (hb : Below w.heap.size w w') {a : Addr} {v : Value} (h : w.cell? a = some v) : w'.cell? a = some v := (hb.cell (World.block_lt_of_cell? _ _ h)).trans h
theorem Fm.keep {w w' : World} (hb : Below w.heap.size w w') : ∀ {t : Fx} {cs : List Value}, Fm w t cs → Fm w' t cs
  | .leaf k n, cs, h => h
  | .not a, cs, h => by
    obtain ⟨ad, c, ca, h1, h2, h3, h4, h5⟩ := h
    exact ⟨ad, c, ca, h1, h2, h3, fun i u hu => cell_keep hb (h4 i u hu), h5.keep hb⟩
  | .bin k a b, cs, h => by
    obtain ⟨ad, c, ca, cb, h1, h2, h3, h3', h4, h4', h5, h6⟩ := h
    exact ⟨ad, c, ca, cb, h1, h2, h3, h3', fun i u hu => cell_keep hb (h4 i u hu), fun i u hu => cell_keep hb (h4' i u hu), h5.keep hb, h6.keep hb⟩
theorem Fm.three {w : World} : ∀ {t : Fx} {cs : List Value}, Fm w t cs → ∃ k n A l c, cs = [I k, I n, .slice A l c]
  | .leaf k n, cs, ⟨A, c, h⟩ => ⟨k, n, A, 0, c, h⟩
  | .not a, cs, ⟨ad, c, ca, h, _⟩ => ⟨2, 0, _, 1, c, h⟩
  | .bin k a b, cs, ⟨ad, c, ca, cb, h, _⟩ => ⟨k, 0, _, 2, c, h⟩
/-- what a formula is worth -/
def Fx.size : Fx → Nat
  | .leaf _ _ => 1
  | .not a => a.size
  | .bin _ a b => a.size + b.size
def Fx.nodes : Fx → Nat
  | .leaf _ _ => 1
  | .not a => 1 + a.nodes
  | .bin _ a b => 1 + a.nodes + b.nodes
def Fx.nest : Fx → Nat
  | .leaf _ _ => 1
  | .not a => a.nest + 1
  | .bin _ a b => max a.nest b.nest + 1
def Fx.val (x : Nat) : Fx → Bool
  | .leaf k n => if k = 0 then x.testBit n.toNat else decide (n = 1)
  | .not a => !a.val x
  | .bin k a b => if k = 3 then a.val x && b.val x else if k = 4 then a.val x || b.val x else a.val x != b.val x
def Fx.ok (m : Int) : Fx → Prop
  | .leaf k n => (k = 0 ∧ 0 ≤ n ∧ n < m) ∨ (k = 1 ∧ (n = 0 ∨ n = 1))
  | .not a => a.ok m
  | .bin k a b => (k = 3 ∨ k = 4 ∨ k = 5) ∧ a.ok m ∧ b.ok m
def Fx.has (q : Int) : Fx → Bool
  | .leaf k _ => k == q
  | .not a => q == 2 || a.has q
  | .bin k a b => k == q || a.has q || b.has q
def Fx.inp : Fx → Int
  | .leaf k n => if k = 0 then n + 1 else 0
  | .not a => max 0 a.inp
  | .bin _ a b => max (max 0 a.inp) b.inp
theorem Fx.inp_le {m : Int} (hm : 0 ≤ m) : ∀ {t : Fx}, t.ok m → 0 ≤ t.inp ∧ t.inp ≤ m
  | .leaf k n, h => by
    simp only [Fx.inp]
    rcases h with ⟨h1, h2, h3⟩ | ⟨h1, _⟩
    · rw [if_pos h1]; omega
    · rw [if_neg (by omega)]; omega
  | .not a, h => by have := Fx.inp_le hm (t := a) h; simp only [Fx.inp]; omega
  | .bin k a b, h => by
    have h1 := Fx.inp_le hm (t := a) h.2.1
    have h2 := Fx.inp_le hm (t := b) h.2.2
    simp only [Fx.inp]; omega
theorem Fx.ok_mono {m m' : Int} (h : m ≤ m') : ∀ {t : Fx}, t.ok m → t.ok m'
  | .leaf k n, hk => by rcases hk with ⟨h1, h2, h3⟩ | h1; exact .inl ⟨h1, h2, by omega⟩; exact .inr h1
  | .not a, hk => Fx.ok_mono h (t := a) hk
  | .bin k a b, hk => ⟨hk.1, Fx.ok_mono h hk.2.1, Fx.ok_mono h hk.2.2⟩
section small
open Psmall
def toS : Fx → S24
  | .leaf k n => ⟨k, n, []⟩
  | .not a => ⟨2, 0, [toS a]⟩
  | .bin k a b => ⟨k, 0, [toS a, toS b]⟩
theorem c_one {w : World} {d : Kd S24} (hsz : d.sz = 3) {ad : Addr} {s : S24} {ca : List Value} (hl : ca.length = 3) (hc : ∀ i u, ca[i]? = some u → w.cell? (ad.add i) = some u) (hk : d.K w s ca) : d.C w (some ad) [s].length [s] :=
  ⟨rfl, by simp, fun _ => ⟨ad, rfl, fun j p hj => by
    have hj0 : j = 0 := by have := (List.getElem?_eq_some_iff.1 hj).1; simpa using this
    subst hj0
    simp at hj
    subst hj
    exact ⟨ca, by rw [hl, hsz], hk, fun i u hu => by rw [Nat.zero_mul, Nat.zero_add]; exact hc i u hu⟩⟩⟩
theorem c_two {w : World} {d : Kd S24} (hsz : d.sz = 3) {ad : Addr} {s s' : S24} {ca cb : List Value} (hl : ca.length = 3) (hl' : cb.length = 3) (hc : ∀ i u, ca[i]? = some u → w.cell? (ad.add i) = some u) (hc' : ∀ i u, cb[i]? = some u → w.cell? (ad.add (3 + i)) = some u) (hk : d.K w s ca) (hk' : d.K w s' cb) : d.C w (some ad) [s, s'].length [s, s'] :=
  ⟨rfl, by simp, fun _ => ⟨ad, rfl, fun j p hj => by
    have hj2 : j < 2 := by have := (List.getElem?_eq_some_iff.1 hj).1; simpa using this
    have h01 : j = 0 ∨ j = 1 := by omega
    rcases h01 with rfl | rfl
    · simp at hj
      subst hj
      exact ⟨ca, by rw [hl, hsz], hk, fun i u hu => by rw [Nat.zero_mul, Nat.zero_add]; exact hc i u hu⟩
    · simp at hj
      subst hj
      exact ⟨cb, by rw [hl', hsz], hk', fun i u hu => by rw [Nat.one_mul, hsz]; exact hc' i u hu⟩⟩⟩
theorem Fm.toS {w : World} : ∀ {t : Fx} {cs : List Value}, Fm w t cs → k24.K w (toS t) cs
  | .leaf k n, cs, ⟨A, c, h⟩ => by
    subst h
    exact k24_mk w ⟨k, n, []⟩ (A2 := A) (c2 := c) (Nat.zero_le _) ⟨rfl, by simp, fun h => absurd h (by simp)⟩
  | .not a, cs, ⟨ad, c, ca, h1, h2, h3, h4, h5⟩ => by
    subst h1
    exact k24_mk w ⟨2, 0, [_root_.Go.Proofs.Ytpfbommaddaijaa.toS a]⟩ (A2 := some ad) (c2 := c) h2 (c_one rfl h3 h4 (Fm.toS h5))
  | .bin k a b, cs, ⟨ad, c, ca, cb, h1, h2, h3, h3', h4, h4', h5, h6⟩ => by
    subst h1
    exact k24_mk w ⟨k, 0, [_root_.Go.Proofs.Ytpfbommaddaijaa.toS a, _root_.Go.Proofs.Ytpfbommaddaijaa.toS b]⟩ (A2 := some ad) (c2 := c) h2 (c_two rfl h3 h3' h4 h4' (Fm.toS h5) (Fm.toS h6))
/-- as an argument -/
theorem Fm.arg {w : World} {t : Fx} {x y z : Value} (h : Fm w t [x, y, z]) : ∃ A c, x = I (_root_.Go.Proofs.Ytpfbommaddaijaa.toS t).f0 ∧ y = I (_root_.Go.Proofs.Ytpfbommaddaijaa.toS t).f1 ∧ z = .slice A (_root_.Go.Proofs.Ytpfbommaddaijaa.toS t).f2.length c ∧ (_root_.Go.Proofs.Ytpfbommaddaijaa.toS t).f2.length ≤ c ∧ Kd.C k24 w A (_root_.Go.Proofs.Ytpfbommaddaijaa.toS t).f2.length (_root_.Go.Proofs.Ytpfbommaddaijaa.toS t).f2 := by
  obtain ⟨A, c, h1, h2, h3⟩ := k24_open (Fm.toS h)
  simp only [List.cons.injEq, and_true] at h1
  exact ⟨A, c, h1.1, h1.2.1, h1.2.2, h2, h3⟩
theorem wr1 {a : Int} (h0 : -9223372036854775808 ≤ a) (h : a ≤ 9223372036854775807) : wrap64 a = a := by unfold wrap64; omega
theorem size_ev : ∀ t : Fx, t.size ≤ 1000000 → Ev (fun k => commodatumref05_Size.f k (toS t).f0 (toS t).f1 (toS t).f2) (t.size : Int)
  | .leaf k n, _ => Ev.step (f := fun _ => some 1) (fun k => by simp [commodatumref05_Size.f, toS]) (Ev.now _)
  | .not a, hs => by
    have ha := size_ev a hs
    have hs' : a.size ≤ 1000000 := hs
    refine Ev.step (f := fun k => commodatumref05_Size.l0 k 0 0 2 0 [toS a]) (fun k => by simp [commodatumref05_Size.f, toS]) ?_
    refine Ev.step (f := fun k => (commodatumref05_Size.f k (toS a).f0 (toS a).f1 (toS a).f2).bind fun t => commodatumref05_Size.l0 k (wrap64 (0 + t)) 1 2 0 [toS a]) (fun k => by simp [commodatumref05_Size.l0, rd_T24, wrap64]) ?_
    refine Ev.bind ha ?_
    refine Ev.step (f := fun _ => some (a.size : Int)) (fun k => ?_) (Ev.now _)
    simp only [commodatumref05_Size.l0]
    rw [if_neg (by simp), Int.zero_add, wr1 (by omega) (by omega)]
  | .bin q a b, hs => by
    have hs' : a.size + b.size ≤ 1000000 := hs
    have ha := size_ev a (by omega)
    have hb := size_ev b (by omega)
    have e : ((Fx.bin q a b).size : Int) = (a.size : Int) + b.size := by simp [Fx.size]
    rw [e]
    refine Ev.step (f := fun k => commodatumref05_Size.l0 k 0 0 q 0 [toS a, toS b]) (fun k => by simp [commodatumref05_Size.f, toS]) ?_
    refine Ev.step (f := fun k => (commodatumref05_Size.f k (toS a).f0 (toS a).f1 (toS a).f2).bind fun t => commodatumref05_Size.l0 k (wrap64 (0 + t)) 1 q 0 [toS a, toS b]) (fun k => by simp [commodatumref05_Size.l0, rd_T24, wrap64]) ?_
    refine Ev.bind ha ?_
    refine Ev.step (f := fun k => (commodatumref05_Size.f k (toS b).f0 (toS b).f1 (toS b).f2).bind fun t => commodatumref05_Size.l0 k (wrap64 (wrap64 (0 + (a.size : Int)) + t)) 2 q 0 [toS a, toS b]) (fun k => by simp [commodatumref05_Size.l0, rd_T24, wrap64]) ?_
    refine Ev.bind hb ?_
    refine Ev.step (f := fun _ => some ((a.size : Int) + b.size)) (fun k => ?_) (Ev.now _)
    simp only [commodatumref05_Size.l0]
    rw [if_neg (by simp), Int.zero_add, wr1 (a := (a.size : Int)) (by omega) (by omega), wr1 (by omega) (by omega)]
theorem mx_eq (a b : Int) : mx a b = max a b := by unfold mx; omega
theorem inp_ev : ∀ t : Fx, t.ok 100 → Ev (fun k => commodatumref05_Inputs.f k (toS t).f0 (toS t).f1 (toS t).f2) t.inp
  | .leaf q n, h => by
    have h' : (q = 0 ∧ 0 ≤ n ∧ n < 100) ∨ (q = 1 ∧ (n = 0 ∨ n = 1)) := h
    by_cases hq : q = 0
    · subst hq
      refine Ev.step (f := fun k => commodatumref05_Inputs.j0 k (wrap64 (n + 1)) 0 n []) (fun k => by simp [commodatumref05_Inputs.f, toS]) ?_
      refine Ev.step (f := fun k => commodatumref05_Inputs.l0 k (wrap64 (n + 1)) 0 0 n []) (fun k => by simp [commodatumref05_Inputs.j0]) ?_
      refine Ev.step (f := fun _ => some (n + 1)) (fun k => ?_) (Ev.now _)
      simp only [commodatumref05_Inputs.l0]
      rw [if_neg (by simp), wr1 (by omega) (by omega)]
    · have e : (Fx.leaf q n).inp = 0 := by simp [Fx.inp, hq]
      rw [e]
      refine Ev.step (f := fun k => commodatumref05_Inputs.j0 k 0 q n []) (fun k => by simp [commodatumref05_Inputs.f, toS, hq]) ?_
      refine Ev.step (f := fun k => commodatumref05_Inputs.l0 k 0 0 q n []) (fun k => by simp [commodatumref05_Inputs.j0]) ?_
      exact Ev.step (f := fun _ => some 0) (fun k => by simp [commodatumref05_Inputs.l0]) (Ev.now _)
  | .not a, h => by
    have ha := inp_ev a h
    refine Ev.step (f := fun k => commodatumref05_Inputs.j0 k 0 2 0 [toS a]) (fun k => by simp [commodatumref05_Inputs.f, toS]) ?_
    refine Ev.step (f := fun k => commodatumref05_Inputs.l0 k 0 0 2 0 [toS a]) (fun k => by simp [commodatumref05_Inputs.j0]) ?_
    refine Ev.step (f := fun k => (commodatumref05_Inputs.f k (toS a).f0 (toS a).f1 (toS a).f2).bind fun t => commodatumref05_Inputs.l0 k (mx 0 t) 1 2 0 [toS a]) (fun k => by simp [commodatumref05_Inputs.l0, rd_T24, wrap64]) ?_
    refine Ev.bind ha ?_
    exact Ev.step (f := fun _ => some (max 0 a.inp)) (fun k => by simp [commodatumref05_Inputs.l0, mx_eq]) (Ev.now _)
  | .bin q a b, h => by
    have ha := inp_ev a h.2.1
    have hb := inp_ev b h.2.2
    have hq : q ≠ 0 := by have := h.1; omega
    refine Ev.step (f := fun k => commodatumref05_Inputs.j0 k 0 q 0 [toS a, toS b]) (fun k => by simp [commodatumref05_Inputs.f, toS, hq]) ?_
    refine Ev.step (f := fun k => commodatumref05_Inputs.l0 k 0 0 q 0 [toS a, toS b]) (fun k => by simp [commodatumref05_Inputs.j0]) ?_
    refine Ev.step (f := fun k => (commodatumref05_Inputs.f k (toS a).f0 (toS a).f1 (toS a).f2).bind fun t => commodatumref05_Inputs.l0 k (mx 0 t) 1 q 0 [toS a, toS b]) (fun k => by simp [commodatumref05_Inputs.l0, rd_T24, wrap64]) ?_
    refine Ev.bind ha ?_
    refine Ev.step (f := fun k => (commodatumref05_Inputs.f k (toS b).f0 (toS b).f1 (toS b).f2).bind fun t => commodatumref05_Inputs.l0 k (mx (mx 0 a.inp) t) 2 q 0 [toS a, toS b]) (fun k => by simp [commodatumref05_Inputs.l0, rd_T24, wrap64]) ?_
    refine Ev.bind hb ?_
    exact Ev.step (f := fun _ => some (max (max 0 a.inp) b.inp)) (fun k => by simp [commodatumref05_Inputs.l0, mx_eq]) (Ev.now _)
theorem shape_ev : ∀ t : Fx, t.ok 16 → Ev (fun k => commodatumref05_shape.f k (toS t).f0 (toS t).f1 (toS t).f2) true
  | .leaf q n, h => by
    have h' : (q = 0 ∧ 0 ≤ n ∧ n < 16) ∨ (q = 1 ∧ (n = 0 ∨ n = 1)) := h
    refine Ev.step (f := fun k => commodatumref05_shape.l0 k 0 q n []) (fun k => by simp [commodatumref05_shape.f, toS]) ?_
    refine Ev.step (f := fun _ => some true) (fun k => ?_) (Ev.now _)
    simp only [commodatumref05_shape.l0]
    rw [if_neg (by simp)]
    rcases h' with ⟨rfl, h1, h2⟩ | ⟨rfl, rfl | rfl⟩
    · simp [commodatumref05_Shape.f, h1, h2]
    · simp [commodatumref05_Shape.f]
    · simp [commodatumref05_Shape.f]
  | .not a, h => by
    have ha := shape_ev a h
    refine Ev.step (f := fun k => commodatumref05_shape.l0 k 0 2 0 [toS a]) (fun k => by simp [commodatumref05_shape.f, toS]) ?_
    refine Ev.step (f := fun k => (commodatumref05_shape.f k (toS a).f0 (toS a).f1 (toS a).f2).bind fun t => if t = true then commodatumref05_shape.l0 k 1 2 0 [toS a] else some false) (fun k => by simp [commodatumref05_shape.l0, rd_T24, wrap64]) ?_
    refine Ev.bind ha ?_
    simp only [if_true]
    exact Ev.step (f := fun _ => some true) (fun k => by simp [commodatumref05_shape.l0, commodatumref05_Shape.f]) (Ev.now _)
  | .bin q a b, h => by
    have ha := shape_ev a h.2.1
    have hb := shape_ev b h.2.2
    refine Ev.step (f := fun k => commodatumref05_shape.l0 k 0 q 0 [toS a, toS b]) (fun k => by simp [commodatumref05_shape.f, toS]) ?_
    refine Ev.step (f := fun k => (commodatumref05_shape.f k (toS a).f0 (toS a).f1 (toS a).f2).bind fun t => if t = true then commodatumref05_shape.l0 k 1 q 0 [toS a, toS b] else some false) (fun k => by simp [commodatumref05_shape.l0, rd_T24, wrap64]) ?_
    refine Ev.bind ha ?_
    simp only [if_true]
    refine Ev.step (f := fun k => (commodatumref05_shape.f k (toS b).f0 (toS b).f1 (toS b).f2).bind fun t => if t = true then commodatumref05_shape.l0 k 2 q 0 [toS a, toS b] else some false) (fun k => by simp [commodatumref05_shape.l0, rd_T24, wrap64]) ?_
    refine Ev.bind hb ?_
    simp only [if_true]
    refine Ev.step (f := fun _ => some true) (fun k => ?_) (Ev.now _)
    rcases h.1 with rfl | rfl | rfl <;> simp [commodatumref05_shape.l0, commodatumref05_Shape.f]
theorem count_ev : ∀ (t : Fx) (m : Int), (t.nest : Int) < m → m ≤ 2000 → t.nodes ≤ 20000 → Ev (fun k => commodatumref05_Count.f k (toS t).f0 (toS t).f1 (toS t).f2 m) ((t.nodes : Int), (t.nest : Int))
  | .leaf q n, m, h1, h2, h3 => by
    have h1' : (1 : Int) < m := h1
    refine Ev.step (f := fun k => commodatumref05_Count.l0 k m 1 0 0 q n []) (fun k => by simp only [commodatumref05_Count.f, toS]; rw [if_pos h1']) ?_
    refine Ev.step (f := fun _ => some (1, 1)) (fun k => ?_) (Ev.now _)
    simp only [commodatumref05_Count.l0]
    rw [if_neg (by simp), wr1 (by omega) (by omega)]
    rfl
  | .not a, m, h1, h2, h3 => by
    have h1' : ((a.nest + 1 : Nat) : Int) < m := h1
    have h3' : 1 + a.nodes ≤ 20000 := h3
    have hnn : 0 ≤ a.nest := Nat.zero_le _
    have ha := count_ev a (m - 1) (by omega) (by omega) (by omega)
    refine Ev.step (f := fun k => commodatumref05_Count.l0 k m 1 0 0 2 0 [toS a]) (fun k => by simp only [commodatumref05_Count.f, toS]; rw [if_pos (by omega)]) ?_
    refine Ev.step (f := fun k => (commodatumref05_Count.f k (toS a).f0 (toS a).f1 (toS a).f2 (m - 1)).bind fun b => commodatumref05_Count.l0 k m (wrap64 (1 + b.1)) (mx 0 b.2) 1 2 0 [toS a]) (fun k => by simp only [commodatumref05_Count.l0, rd_T24]; rw [if_pos (by simp), if_pos (by omega), if_pos (by omega), wr1 (a := m - 1) (by omega) (by omega)]; simp [wrap64]) ?_
    refine Ev.bind ha ?_
    refine Ev.step (f := fun _ => some (1 + (a.nodes : Int), (a.nest : Int) + 1)) (fun k => ?_) ?_
    · simp only [commodatumref05_Count.l0]
      rw [if_neg (by simp), mx_eq, wr1 (by omega) (by omega), show max (0 : Int) (a.nest : Int) = a.nest by omega, wr1 (by omega) (by omega)]
    · have e : ((((Fx.not a).nodes : Nat) : Int), (((Fx.not a).nest : Nat) : Int)) = (1 + (a.nodes : Int), (a.nest : Int) + 1) := by simp [Fx.nodes, Fx.nest]
      rw [e]
      exact Ev.now _
  | .bin q a b, m, h1, h2, h3 => by
    have h1' : ((max a.nest b.nest + 1 : Nat) : Int) < m := h1
    have h3' : 1 + a.nodes + b.nodes ≤ 20000 := h3
    have ha := count_ev a (m - 1) (by omega) (by omega) (by omega)
    have hb := count_ev b (m - 1) (by omega) (by omega) (by omega)
    refine Ev.step (f := fun k => commodatumref05_Count.l0 k m 1 0 0 q 0 [toS a, toS b]) (fun k => by simp only [commodatumref05_Count.f, toS]; rw [if_pos (by omega)]) ?_
    refine Ev.step (f := fun k => (commodatumref05_Count.f k (toS a).f0 (toS a).f1 (toS a).f2 (m - 1)).bind fun c => commodatumref05_Count.l0 k m (wrap64 (1 + c.1)) (mx 0 c.2) 1 q 0 [toS a, toS b]) (fun k => by simp only [commodatumref05_Count.l0, rd_T24]; rw [if_pos (by simp), if_pos (by omega), if_pos (by omega), wr1 (a := m - 1) (by omega) (by omega)]; simp [wrap64]) ?_
    refine Ev.bind ha ?_
    have e1 : wrap64 (1 + (a.nodes : Int)) = 1 + a.nodes := wr1 (by omega) (by omega)
    simp only [mx_eq, e1]
    refine Ev.step (f := fun k => (commodatumref05_Count.f k (toS b).f0 (toS b).f1 (toS b).f2 (m - 1)).bind fun c => commodatumref05_Count.l0 k m (wrap64 (1 + (a.nodes : Int) + c.1)) (mx (max 0 (a.nest : Int)) c.2) 2 q 0 [toS a, toS b]) (fun k => by simp only [commodatumref05_Count.l0, rd_T24]; rw [if_pos (by simp), if_pos (by omega), if_pos (by omega), wr1 (a := m - 1) (by omega) (by omega)]; simp [wrap64]) ?_
    refine Ev.bind hb ?_
    refine Ev.step (f := fun _ => some (1 + (a.nodes : Int) + b.nodes, ((max a.nest b.nest : Nat) : Int) + 1)) (fun k => ?_) ?_
    · simp only [commodatumref05_Count.l0]
      rw [if_neg (by simp), mx_eq, wr1 (by omega) (by omega), show max (max (0 : Int) (a.nest : Int)) (b.nest : Int) = ((max a.nest b.nest : Nat) : Int) by omega, wr1 (by omega) (by omega)]
    · have e : ((((Fx.bin q a b).nodes : Nat) : Int), (((Fx.bin q a b).nest : Nat) : Int)) = (1 + (a.nodes : Int) + b.nodes, ((max a.nest b.nest : Nat) : Int) + 1) := by simp [Fx.nodes, Fx.nest]
      rw [e]
      exact Ev.now _
theorem valid_ev (t : Fx) (h : t.ok 16) (h1 : t.nest ≤ 1000) (h2 : t.nodes ≤ 20000) : Ev (fun k => commodatumref05_Valid.f k (toS t).f0 (toS t).f1 (toS t).f2) true := by
  have hc := count_ev t 1001 (by omega) (by omega) h2
  have hs := shape_ev t h
  refine Ev.congr (f := fun k => (commodatumref05_Count.f k (toS t).f0 (toS t).f1 (toS t).f2 1001).bind fun b => if b.1 ≤ 20000 then (if b.2 ≤ 1000 then (commodatumref05_shape.f k (toS t).f0 (toS t).f1 (toS t).f2).bind fun t => some t else some false) else some false) (fun k => rfl) ?_
  refine Ev.bind hc ?_
  refine Ev.congr (f := fun k => (commodatumref05_shape.f k (toS t).f0 (toS t).f1 (toS t).f2).bind fun t => some t) (fun k => ?_) (Ev.bind hs (Ev.now _))
  have h1' : (t.nest : Int) ≤ 1000 := by omega
  have h2' : (t.nodes : Int) ≤ 20000 := by omega
  simp only [h1', h2', if_true]
end small
section contains
open PContains
def toC : Fx → S24
  | .leaf k n => ⟨k, n, []⟩
  | .not a => ⟨2, 0, [toC a]⟩
  | .bin k a b => ⟨k, 0, [toC a, toC b]⟩
theorem c_one' {w : World} {d : Kd S24} (hsz : d.sz = 3) {ad : Addr} {s : S24} {ca : List Value} (hl : ca.length = 3) (hc : ∀ i u, ca[i]? = some u → w.cell? (ad.add i) = some u) (hk : d.K w s ca) : d.C w (some ad) [s].length [s] :=
  ⟨rfl, by simp, fun _ => ⟨ad, rfl, fun j p hj => by
    have hj0 : j = 0 := by have := (List.getElem?_eq_some_iff.1 hj).1; simpa using this
    subst hj0
    simp at hj
    subst hj
    exact ⟨ca, by rw [hl, hsz], hk, fun i u hu => by rw [Nat.zero_mul, Nat.zero_add]; exact hc i u hu⟩⟩⟩
theorem c_two' {w : World} {d : Kd S24} (hsz : d.sz = 3) {ad : Addr} {s s' : S24} {ca cb : List Value} (hl : ca.length = 3) (hl' : cb.length = 3) (hc : ∀ i u, ca[i]? = some u → w.cell? (ad.add i) = some u) (hc' : ∀ i u, cb[i]? = some u → w.cell? (ad.add (3 + i)) = some u) (hk : d.K w s ca) (hk' : d.K w s' cb) : d.C w (some ad) [s, s'].length [s, s'] :=
  ⟨rfl, by simp, fun _ => ⟨ad, rfl, fun j p hj => by
    have hj2 : j < 2 := by have := (List.getElem?_eq_some_iff.1 hj).1; simpa using this
    have h01 : j = 0 ∨ j = 1 := by omega
    rcases h01 with rfl | rfl
    · simp at hj
      subst hj
      exact ⟨ca, by rw [hl, hsz], hk, fun i u hu => by rw [Nat.zero_mul, Nat.zero_add]; exact hc i u hu⟩
    · simp at hj
      subst hj
      exact ⟨cb, by rw [hl', hsz], hk', fun i u hu => by rw [Nat.one_mul, hsz]; exact hc' i u hu⟩⟩⟩
theorem Fm.toC {w : World} : ∀ {t : Fx} {cs : List Value}, Fm w t cs → k24.K w (toC t) cs
  | .leaf k n, cs, ⟨A, c, h⟩ => by
    subst h
    exact k24_mk w ⟨k, n, []⟩ (A2 := A) (c2 := c) (Nat.zero_le _) ⟨rfl, by simp, fun h => absurd h (by simp)⟩
  | .not a, cs, ⟨ad, c, ca, h1, h2, h3, h4, h5⟩ => by
    subst h1
    exact k24_mk w ⟨2, 0, [_root_.Go.Proofs.Ytpfbommaddaijaa.toC a]⟩ (A2 := some ad) (c2 := c) h2 (c_one' rfl h3 h4 (Fm.toC h5))
  | .bin k a b, cs, ⟨ad, c, ca, cb, h1, h2, h3, h3', h4, h4', h5, h6⟩ => by
    subst h1
    exact k24_mk w ⟨k, 0, [_root_.Go.Proofs.Ytpfbommaddaijaa.toC a, _root_.Go.Proofs.Ytpfbommaddaijaa.toC b]⟩ (A2 := some ad) (c2 := c) h2 (c_two' rfl h3 h3' h4 h4' (Fm.toC h5) (Fm.toC h6))
theorem Fm.argC {w : World} {t : Fx} {x y z : Value} (h : Fm w t [x, y, z]) : ∃ A c, x = I (_root_.Go.Proofs.Ytpfbommaddaijaa.toC t).f0 ∧ y = I (_root_.Go.Proofs.Ytpfbommaddaijaa.toC t).f1 ∧ z = .slice A (_root_.Go.Proofs.Ytpfbommaddaijaa.toC t).f2.length c ∧ (_root_.Go.Proofs.Ytpfbommaddaijaa.toC t).f2.length ≤ c ∧ Kd.C k24 w A (_root_.Go.Proofs.Ytpfbommaddaijaa.toC t).f2.length (_root_.Go.Proofs.Ytpfbommaddaijaa.toC t).f2 := by
  obtain ⟨A, c, h1, h2, h3⟩ := k24_open (Fm.toC h)
  simp only [List.cons.injEq, and_true] at h1
  exact ⟨A, c, h1.1, h1.2.1, h1.2.2, h2, h3⟩
theorem has_ev (q : Int) : ∀ t : Fx, Ev (fun k => commodatumref05_Contains.f k (toC t).f0 (toC t).f1 (toC t).f2 q) (t.has q)
  | .leaf k n => by
    by_cases hq : k = q
    · have e : (Fx.leaf k n).has q = true := by simp [Fx.has, hq]
      rw [e]
      exact Ev.step (f := fun _ => some true) (fun j => by simp [commodatumref05_Contains.f, toC, hq]) (Ev.now _)
    · have e : (Fx.leaf k n).has q = false := by simp [Fx.has, hq]
      rw [e]
      refine Ev.step (f := fun j => commodatumref05_Contains.l0 j q 0 k n []) (fun j => by simp [commodatumref05_Contains.f, toC, hq]) ?_
      exact Ev.step (f := fun _ => some false) (fun j => by simp [commodatumref05_Contains.l0]) (Ev.now _)
  | .not a => by
    have ha := has_ev q a
    by_cases hq : (2 : Int) = q
    · have e : (Fx.not a).has q = true := by simp [Fx.has, hq.symm]
      rw [e]
      exact Ev.step (f := fun _ => some true) (fun j => by simp [commodatumref05_Contains.f, toC, hq]) (Ev.now _)
    · have e : (Fx.not a).has q = a.has q := by have : ¬ q = 2 := fun h => hq h.symm; simp [Fx.has, this]
      rw [e]
      refine Ev.step (f := fun j => commodatumref05_Contains.l0 j q 0 2 0 [toC a]) (fun j => by simp [commodatumref05_Contains.f, toC, hq]) ?_
      refine Ev.step (f := fun j => (commodatumref05_Contains.f j (toC a).f0 (toC a).f1 (toC a).f2 q).bind fun t => if t = true then some true else commodatumref05_Contains.l0 j q 1 2 0 [toC a]) (fun j => by simp [commodatumref05_Contains.l0, rd_T24, wrap64]) ?_
      refine Ev.bind ha ?_
      cases a.has q with
      | true => exact Ev.congr (fun k => by simp) (Ev.now _)
      | false => exact Ev.congr (f := fun j => commodatumref05_Contains.l0 j q 1 2 0 [toC a]) (fun k => by simp) (Ev.step (f := fun _ => some false) (fun j => by simp [commodatumref05_Contains.l0]) (Ev.now _))
  | .bin k a b => by
    have ha := has_ev q a
    have hb := has_ev q b
    by_cases hq : k = q
    · have e : (Fx.bin k a b).has q = true := by simp [Fx.has, hq]
      rw [e]
      exact Ev.step (f := fun _ => some true) (fun j => by simp [commodatumref05_Contains.f, toC, hq]) (Ev.now _)
    · have hkq : (k == q) = false := by simpa using hq
      have e : (Fx.bin k a b).has q = (a.has q || b.has q) := by simp [Fx.has, hkq]
      rw [e]
      refine Ev.step (f := fun j => commodatumref05_Contains.l0 j q 0 k 0 [toC a, toC b]) (fun j => by simp [commodatumref05_Contains.f, toC, hq]) ?_
      refine Ev.step (f := fun j => (commodatumref05_Contains.f j (toC a).f0 (toC a).f1 (toC a).f2 q).bind fun t => if t = true then some true else commodatumref05_Contains.l0 j q 1 k 0 [toC a, toC b]) (fun j => by simp [commodatumref05_Contains.l0, rd_T24, wrap64]) ?_
      refine Ev.bind ha ?_
      cases a.has q with
      | true => exact Ev.congr (fun k => by simp) (Ev.now _)
      | false =>
        refine Ev.congr (f := fun j => commodatumref05_Contains.l0 j q 1 k 0 [toC a, toC b]) (fun k => by simp) ?_
        refine Ev.step (f := fun j => (commodatumref05_Contains.f j (toC b).f0 (toC b).f1 (toC b).f2 q).bind fun t => if t = true then some true else commodatumref05_Contains.l0 j q 2 k 0 [toC a, toC b]) (fun j => by simp [commodatumref05_Contains.l0, rd_T24, wrap64]) ?_
        refine Ev.bind hb ?_
        cases b.has q with
        | true => exact Ev.congr (fun k => by simp) (Ev.now _)
        | false => exact Ev.congr (f := fun j => commodatumref05_Contains.l0 j q 2 k 0 [toC a, toC b]) (fun k => by simp) (Ev.step (f := fun _ => some false) (fun j => by simp [commodatumref05_Contains.l0]) (Ev.now _))
end contains
/-- the contracts, for a formula in memory -/
theorem fValid_any {w : World} {t : Fx} {x y z : Value} (h : Fm w t [x, y, z]) (ho : t.ok 16) (h1 : t.nest ≤ 1000) (h2 : t.nodes ≤ 20000) : Calls Try.prog 31 #[.agg #[x, y, z]] w fun e w' => e = .returned (.bool true) ∧ Below w.heap.size w w' := by
  obtain ⟨A, c, rfl, rfl, rfl, hl, hC⟩ := h.arg
  obtain ⟨k, hk⟩ := (valid_ev t ho h1 h2).rounds
  exact Psmall.commodatumref05_Valid.calls k _ _ A c _ true w hC hl hk
theorem fSize_any {w : World} {t : Fx} {x y z : Value} (h : Fm w t [x, y, z]) (hs : t.size ≤ 1000000) : Calls Try.prog 33 #[.agg #[x, y, z]] w fun e w' => e = .returned (I t.size) ∧ Below w.heap.size w w' := by
  obtain ⟨A, c, rfl, rfl, rfl, hl, hC⟩ := h.arg
  obtain ⟨k, hk⟩ := (size_ev t hs).rounds
  exact Psmall.commodatumref05_Size.calls k _ _ A c _ _ w hC hl hk
theorem fInputs_any {w : World} {t : Fx} {x y z : Value} (h : Fm w t [x, y, z]) (ho : t.ok 100) : Calls Try.prog 16 #[.agg #[x, y, z]] w fun e w' => e = .returned (I t.inp) ∧ Below w.heap.size w w' := by
  obtain ⟨A, c, rfl, rfl, rfl, hl, hC⟩ := h.arg
  obtain ⟨k, hk⟩ := (inp_ev t ho).rounds
  exact Psmall.commodatumref05_Inputs.calls k _ _ A c _ _ w hC hl hk
theorem fHas_any {w : World} {t : Fx} {x y z : Value} (h : Fm w t [x, y, z]) (q : Int) : Calls Try.prog 32 #[.agg #[x, y, z], I q] w fun e w' => e = .returned (.bool (t.has q)) ∧ Below w.heap.size w w' := by
  obtain ⟨A, c, rfl, rfl, rfl, hl, hC⟩ := h.argC
  obtain ⟨k, hk⟩ := (has_ev q t).rounds
  exact PContains.commodatumref05_Contains.calls k _ _ A c _ q _ w hC hl hk
end Go.Proofs.Ytpfbommaddaijaa
namespace Go.Proofs.Ytpfbommaddaijaa
open Go.RowKit Go.Proofs.YtpfbommaddaijaaW.PrintWords
set_option linter.unusedVariables false
set_option linter.unusedSimpArgs false

def app (k : Int) (a b : Bool) : Bool := if k = 2 then !a else if k = 3 then a && b else if k = 4 then a || b else a != b
set_option maxHeartbeats 2000000 in
theorem apply_any {w : World} {k : Int} (hk : k = 2 ∨ k = 3 ∨ k = 4 ∨ k = 5) (a b : Bool) : Calls Try.prog 83 #[I k, .bool a, .bool b] w fun e w' => e = .returned (.bool (app k a b)) ∧ w' = w := by
  rcases hk with rfl | rfl | rfl | rfl
  · go_enter Try.func83, Try.ntmps83
    go_wp2
    go_ret
    exact ⟨rb (by simp [app]), rfl⟩
  · cases a with
    | false =>
      go_enter Try.func83, Try.ntmps83
      go_wp2
      go_ret
      exact ⟨rb (by simp [app]), rfl⟩
    | true =>
      go_enter Try.func83, Try.ntmps83
      go_wp2
      go_ret
      exact ⟨rb (by simp [app]), rfl⟩
  · cases a with
    | false =>
      go_enter Try.func83, Try.ntmps83
      go_wp2
      go_ret
      exact ⟨rb (by simp [app]), rfl⟩
    | true =>
      go_enter Try.func83, Try.ntmps83
      go_wp2
      go_ret
      exact ⟨rb (by simp [app]), rfl⟩
  · go_enter Try.func83, Try.ntmps83
    go_wp2
    go_ret
    exact ⟨rb (by cases a <;> cases b <;> rfl), rfl⟩
/-- the table of a formula in new memory -/
def RT (w : World) (n : Nat) (f : Nat → Bool) (e : Ending) (w' : World) : Prop := ∃ a c, e = .returned (.slice (some a) (2 ^ n) c) ∧ Bs w' (.slice (some a) (2 ^ n) c) (2 ^ n) f ∧ w.heap.size ≤ a.block ∧ Below w.heap.size w w'
theorem row_bs {w : World} {g N : Nat} {f : Nat → Bool} (hN : N ≤ 4096) (h : w.rowIs g 4 N (fun u => .bool (f u))) : Bs w (.slice (some ⟨g, 0, none⟩) N N) N f :=
  ⟨some ⟨g, 0, none⟩, N, rfl, Nat.le_refl _, by unfold maxLen; omega, fun _ => ⟨_, rfl⟩, fun b hb i hi => by cases hb; rw [Addr.add_lit, Nat.zero_add]; exact h.cell hi⟩
theorem wshl (n : Nat) (h : n ≤ 12) : wrap64 ((2 : Int) ^ n) = ((2 ^ n : Nat) : Int) := w2i n (by omega)
set_option maxHeartbeats 4000000 in
set_option maxRecDepth 100000 in
theorem truth_leaf {w : World} {n : Nat} (hn : n ≤ 12) {k m : Int} {A : Option Addr} {c : Nat} (ho : (k = 0 ∧ 0 ≤ m ∧ m < 16) ∨ (k = 1 ∧ (m = 0 ∨ m = 1))) :
    Calls Try.prog 35 #[.agg #[I k, I m, .slice A 0 c], I n] w (RT w n (fun x => (Fx.leaf k m).val x)) := by
  have hw := wshl n hn
  have hp12 : 2 ^ n ≤ 4096 := Nat.pow_le_pow_right (n := 2) (by decide) hn
  unfold RT
  obtain ⟨N, hN⟩ : ∃ N, N = 2 ^ n := ⟨_, rfl⟩
  rw [← hN] at hw hp12 ⊢
  clear hN
  have hmk := run_make_row' (P := Try.prog) 29 4 (.bool false) 1 Try.underlying29 Try.info4 rfl .i64 .i64 N (by omega) (by omega)
  obtain ⟨W, hW⟩ : ∃ W, W = w.alloc (.cells #[I k, I m, .slice A 0 c] 24) := ⟨_, rfl⟩
  have hsz : W.heap.size = w.heap.size + 1 := by rw [hW]; exact World.size_alloc _ _
  have HB1 : Hid (Below w.heap.size w W) := Lib.hid (by rw [hW]; exact (Below.refl _ _).alloc (Nat.le_refl _) _)
  have k0 : W.cell? ⟨w.heap.size, 0, none⟩ = some (I k) := by rw [hW]; simp [go_sem]
  have k1 : W.cell? ⟨w.heap.size, 1, none⟩ = some (I m) := by rw [hW]; simp [go_sem]
  have HR : Hid ((W.alloc (.cells (madeCells #[Value.bool false] N) 4)).rowIs W.heap.size 4 N (fun _ => .bool false)) := Lib.hid (World.rowIs_made W _ N 4)
  have HB : Hid (Below W.heap.size W (W.alloc (.cells (madeCells #[Value.bool false] N) 4))) := Lib.hid ((Below.refl _ _).alloc (Nat.le_refl _) _)
  have HK : Hid (∀ W' : World, Below W.heap.size W W' → W'.cell? ⟨w.heap.size, 0, none⟩ = some (I k) ∧ W'.cell? ⟨w.heap.size, 1, none⟩ = some (I m)) := Lib.hid (fun W' h => ⟨cell_keep h k0, cell_keep h k1⟩)
  have HSZ := Lib.hid hsz
  have hn0 : (0 : Int) ≤ n := by omega
  have HWE := Lib.hid hW
  clear hsz
  obtain ⟨W2, hW2⟩ : ∃ W2, W2 = W.alloc (.cells (madeCells #[Value.bool false] N) 4) := ⟨_, rfl⟩
  replace hmk := hmk W
  rw [← hW2] at hmk HR HB
  clear hW2
  have g0 := (HK.out _ HB.out).1
  have g1 := (HK.out _ HB.out).2
  go_enter Try.func35, Try.ntmps35
  go_upto_region 1 with fail
  rw [← hW]
  clear hW
  rcases ho with ⟨rfl, hm0, hm1⟩ | ⟨rfl, hm⟩
  · obtain ⟨v, rfl⟩ : ∃ v : Nat, m = v := ⟨m.toNat, by omega⟩
    go_wp2
    go_loopw [6] (fun x wr => ∃ i : Nat, i ≤ N ∧ x = I i ∧ Hid (wr.rowIs W.heap.size 4 N (fun u => .bool (decide (u < i) && u.testBit v))) ∧ Hid (Below W.heap.size W wr)) (fun x _ => N - (intOf x).toNat)
    case atStart => exact ⟨0, by omega, rfl, Lib.hid (HR.out.congr fun u _ => by simp), HB⟩
    case round =>
      clear HR HB k0 k1 g0 g1
      obtain ⟨i, hi, rfl, HR, HB⟩ := hrel
      by_cases hiN : i < N
      · obtain ⟨k0, k1⟩ := HK.out wr HB.out
        have hi0 : (0 : Int) ≤ i := by omega
        have hi1 : (i : Int) < N := by omega
        have hsa := shr_and (y := i) (i := v) (by omega)
        have c1 := HR.out.cell hiN
        have q1 := HR.out.frozen i
        have HNR : Hid (∀ b, b = i.testBit v → (wr.setCell ⟨W.heap.size, i, none⟩ (.bool b)).rowIs W.heap.size 4 N (fun u => .bool (decide (u < i + 1) && u.testBit v))) := Lib.hid (fun b hb => (HR.out.set i (.bool b)).congr fun u hu => by
          by_cases e : u = i
          · rw [if_pos e, hb, e]; simp
          · rw [if_neg e]
            have : (u < i) ↔ (u < i + 1) := by omega
            simp [this])
        have HNB : Hid (∀ b : Bool, Below W.heap.size W (wr.setCell ⟨W.heap.size, i, none⟩ (.bool b))) := Lib.hid (fun b => HB.out.setCell (Nat.le_refl _) _)
        cases hb : i.testBit v with
        | true =>
          have hsa' : bits BinOp.and IntKind.i64 ((i : Int) / 2 ^ v) 1 = 1 := by rw [hsa, hb]; rfl
          have HNR' : Hid ((wr.setCell ⟨W.heap.size, i, none⟩ (.bool true)).rowIs W.heap.size 4 N (fun u => .bool (decide (u < i + 1) && u.testBit v))) := Lib.hid (HNR.out _ hb.symm)
          clear hsa hb HR
          go_wp2
          go_roundw
          case rel => exact ⟨i + 1, by omega, by go_num, HNR', Lib.hid (HNB.out _)⟩
          case measure => simp [intOf]; omega
        | false =>
          have hsa' : bits BinOp.and IntKind.i64 ((i : Int) / 2 ^ v) 1 = 0 := by rw [hsa, hb]; rfl
          have HNR' : Hid ((wr.setCell ⟨W.heap.size, i, none⟩ (.bool false)).rowIs W.heap.size 4 N (fun u => .bool (decide (u < i + 1) && u.testBit v))) := Lib.hid (HNR.out _ hb.symm)
          clear hsa hb HR
          go_wp2
          go_roundw
          case rel => exact ⟨i + 1, by omega, by go_num, HNR', Lib.hid (HNB.out _)⟩
          case measure => simp [intOf]; omega
      · obtain rfl : N = i := by omega
        go_wp2
        go_ret
        exact ⟨_, _, rfl, row_bs (by omega) (HR.out.congr fun u hu => by simp [hu, Fx.val]), HB1.out.size, HB1.out.trans (HB.out.mono HB1.out.size)⟩
  · obtain ⟨b, hb⟩ : ∃ b, b = decide (m = 1) := ⟨_, rfl⟩
    have HBB := Lib.hid hb
    have hmb : (m == 1) = b := by rw [hb]; rfl
    clear hb hm
    go_wp2
    go_loopw [6] (fun x wr => ∃ i : Nat, i ≤ N ∧ x = I i ∧ Hid (wr.rowIs W.heap.size 4 N (fun u => .bool (decide (u < i) && b))) ∧ Hid (Below W.heap.size W wr)) (fun x _ => N - (intOf x).toNat)
    case atStart => exact ⟨0, by omega, rfl, Lib.hid (HR.out.congr fun u _ => by simp), HB⟩
    case round =>
      clear HR HB k0 k1 g0 g1
      obtain ⟨i, hi, rfl, HR, HB⟩ := hrel
      by_cases hiN : i < N
      · obtain ⟨k0, k1⟩ := HK.out wr HB.out
        have hi0 : (0 : Int) ≤ i := by omega
        have hi1 : (i : Int) < N := by omega
        have c1 := HR.out.cell hiN
        have q1 := HR.out.frozen i
        have HNR : Hid ((wr.setCell ⟨W.heap.size, i, none⟩ (.bool b)).rowIs W.heap.size 4 N (fun u => .bool (decide (u < i + 1) && b))) := Lib.hid ((HR.out.set i (.bool b)).congr fun u hu => by
          by_cases e : u = i
          · rw [if_pos e, e]; simp
          · rw [if_neg e]
            have : (u < i) ↔ (u < i + 1) := by omega
            simp [this])
        have HNB : Hid (Below W.heap.size W (wr.setCell ⟨W.heap.size, i, none⟩ (.bool b))) := Lib.hid (HB.out.setCell (Nat.le_refl _) _)
        clear HR
        go_wp2
        go_roundw
        case rel => exact ⟨i + 1, by omega, by go_num, HNR, HNB⟩
        case measure => simp [intOf]; omega
      · obtain rfl : N = i := by omega
        go_wp2
        go_ret
        exact ⟨_, _, rfl, row_bs (by omega) (HR.out.congr fun u hu => by simp [hu, Fx.val, HBB.out]), HB1.out.size, HB1.out.trans (HB.out.mono HB1.out.size)⟩
end Go.Proofs.Ytpfbommaddaijaa
namespace Go.Proofs.Ytpfbommaddaijaa
open Go.RowKit Go.Proofs.YtpfbommaddaijaaW.PrintWords
set_option linter.unusedVariables false
set_option linter.unusedSimpArgs false

/-- what a recursive call gives, opened -/
def RTo (w : World) (N : Nat) (f : Nat → Bool) (e : Ending) (w' : World) : Prop := ∃ b c, e = .returned (.slice (some b) N c) ∧ Hid (∀ i, i < N → w'.cell? (b.add i) = some (.bool (f i))) ∧ w.heap.size ≤ b.block ∧ Hid (Below w.heap.size w w')
theorem RT.open' {w w' : World} {n N : Nat} {f : Nat → Bool} {e : Ending} (h : RT w n f e w') (hN : N = 2 ^ n) : RTo w N f e w' := by
  obtain ⟨b, c, rfl, hb, hs, hl⟩ := h
  subst hN
  exact ⟨b, c, rfl, Lib.hid (fun i hi => by obtain ⟨b', h1, h2⟩ := hb.at' hi; cases h1; exact h2), hs, Lib.hid hl⟩
set_option maxHeartbeats 8000000 in
set_option maxRecDepth 100000 in
theorem truth_not {w : World} {n : Nat} (hn : n ≤ 12) {ad : Addr} {c : Nat} {x y z : Value} (h0 : w.cell? (ad.add 0) = some x) (h1 : w.cell? (ad.add 1) = some y) (h2 : w.cell? (ad.add 2) = some z) {f : Nat → Bool}
    (HF : ∀ W, Below w.heap.size w W → Calls Try.prog 35 #[.agg #[x, y, z], I n] W (RT W n f)) : Calls Try.prog 35 #[.agg #[I 2, I 0, .slice (some ad) 1 c], I n] w (RT w n (fun x => !f x)) := by
  have hw := wshl n hn
  have hp12 : 2 ^ n ≤ 4096 := Nat.pow_le_pow_right (n := 2) (by decide) hn
  obtain ⟨N, hN⟩ : ∃ N, N = 2 ^ n := ⟨_, rfl⟩
  have HF := Lib.hid (fun W hW => (HF W hW).mono fun e w' h => h.open' hN)
  unfold RT
  rw [← hN] at hw hp12 ⊢
  clear hN
  have hmk := run_make_row' (P := Try.prog) 29 4 (.bool false) 1 Try.underlying29 Try.info4 rfl .i64 .i64 N (by omega) (by omega)
  obtain ⟨W, hW⟩ : ∃ W, W = w.alloc (.cells #[I 2, I 0, .slice (some ad) 1 c] 24) := ⟨_, rfl⟩
  have hsz : W.heap.size = w.heap.size + 1 := by rw [hW]; exact World.size_alloc _ _
  have HB1 : Hid (Below w.heap.size w W) := Lib.hid (by rw [hW]; exact (Below.refl _ _).alloc (Nat.le_refl _) _)
  have k0 : W.cell? ⟨w.heap.size, 0, none⟩ = some (I 2) := by rw [hW]; simp [go_sem]
  have k2 : W.cell? ⟨w.heap.size, 2, none⟩ = some (.slice (some ad) 1 c) := by rw [hW]; simp [go_sem]
  have HR : Hid ((W.alloc (.cells (madeCells #[Value.bool false] N) 4)).rowIs W.heap.size 4 N (fun _ => .bool false)) := Lib.hid (World.rowIs_made W _ N 4)
  have HB : Hid (Below W.heap.size W (W.alloc (.cells (madeCells #[Value.bool false] N) 4))) := Lib.hid ((Below.refl _ _).alloc (Nat.le_refl _) _)
  have HK : Hid (∀ W' : World, Below W.heap.size W W' → W'.cell? ⟨w.heap.size, 0, none⟩ = some (I 2) ∧ W'.cell? ⟨w.heap.size, 2, none⟩ = some (.slice (some ad) 1 c)) := Lib.hid (fun W' h => ⟨cell_keep h k0, cell_keep h k2⟩)
  have HWE := Lib.hid hW
  obtain ⟨W2, hW2⟩ : ∃ W2, W2 = W.alloc (.cells (madeCells #[Value.bool false] N) 4) := ⟨_, rfl⟩
  replace hmk := hmk W
  rw [← hW2] at hmk HR HB
  clear hW2
  have hB2 : Below w.heap.size w W2 := HB1.out.trans (HB.out.mono HB1.out.size)
  have HB2 := Lib.hid hB2
  have g0 := (HK.out _ HB.out).1
  have g1 := (HK.out _ HB.out).2
  have d0 := cell_keep hB2 h0
  have d1 := cell_keep hB2 h1
  have d2 := cell_keep hB2 h2
  simp [Addr.add] at d0 d1 d2
  have HR0 : Hid (W.heap.size < W2.heap.size) := Lib.hid HR.out.lt
  have HRK : Hid (∀ W3 : World, Below W2.heap.size W2 W3 → W3.rowIs W.heap.size 4 N (fun _ => .bool false)) := Lib.hid (fun W3 h => HR.out.of_block (h.block _ HR.out.lt))
  have hbel : ∀ W3 : World, Below W2.heap.size W2 W3 → Below W.heap.size W W3 := fun W3 h => HB.out.trans (h.mono HB.out.size)
  have HBK := Lib.hid hbel
  have hn0 : (0 : Int) ≤ n := by omega
  clear h0 h1 h2 hB2 hbel k0 k2 hsz
  go_enter Try.func35, Try.ntmps35
  go_upto_region 1 with fail
  rw [← hW]
  clear hW
  go_wp2_with (first
    | (go_at_call 35; refine (HF.out _ HB2.out).mono ?_; rintro e w3 ⟨b7, c7, rfl, HT, hs7, HB3⟩; have HR3 := Lib.hid (HRK.out _ HB3.out); have HBW3 := Lib.hid (HBK.out _ HB3.out); have g03 := (HK.out _ HBW3.out).1; have g23 := (HK.out _ HBW3.out).2))
  obtain ⟨HT, HBW3, HR3⟩ : Hid (∀ W', Below w3.heap.size w3 W' → ∀ i, i < N → W'.cell? (b7.add i) = some (.bool (f i))) ∧ Hid (Below W.heap.size W w3) ∧ Hid (w3.rowIs W.heap.size 4 N (fun _ => .bool false)) := ⟨Lib.hid (fun W' h i hi => cell_keep h (HT.out i hi)), HBW3, HR3⟩
  clear g03 g23 g0 g1 d0 d1 d2 hmk
  go_loopw [9] (fun x wr => ∃ i : Nat, i ≤ N ∧ x = I i ∧ Hid (wr.rowIs W.heap.size 4 N (fun u => .bool (decide (u < i) && !f u))) ∧ Hid (Below W.heap.size W wr) ∧ Hid (∀ i, i < N → wr.cell? (b7.add i) = some (.bool (f i)))) (fun x _ => N - (intOf x).toNat)
  case atStart => exact ⟨0, by omega, rfl, Lib.hid (HR3.out.congr fun u _ => by simp), HBW3, Lib.hid (HT.out _ (Below.refl _ _))⟩
  case round =>
    clear HR3 HBW3 HT
    obtain ⟨i, hi, rfl, HR, HBL, HT⟩ := hrel
    by_cases hiN : i < N
    · obtain ⟨k0, k2⟩ := HK.out wr HBL.out
      have hi0 : (0 : Int) ≤ i := by omega
      have hi1 : (i : Int) < N := by omega
      have c5 := HR.out.cell hiN
      have q5 := HR.out.frozen i
      have c7' := HT.out i hiN
      have hne : b7.block ≠ W.heap.size := by have := HR0.out; omega
      have HNT : Hid (∀ j, j < N → (wr.setCell ⟨W.heap.size, i, none⟩ (.bool (!f i))).cell? (b7.add j) = some (.bool (f j))) := Lib.hid (fun j hj => by rw [World.cell?_setCell_other (h := fun e => hne (by have h9 := congrArg Addr.block e; unfold Addr.add at h9; split at h9 <;> exact h9.symm))]; exact HT.out j hj)
      have HNR : Hid ((wr.setCell ⟨W.heap.size, i, none⟩ (.bool (!f i))).rowIs W.heap.size 4 N (fun u => .bool (decide (u < i + 1) && !f u))) := Lib.hid ((HR.out.set i (.bool (!f i))).congr fun u hu => by
        by_cases e : u = i
        · rw [if_pos e, e]; simp
        · rw [if_neg e]
          have : (u < i) ↔ (u < i + 1) := by omega
          simp [this])
      have HNB : Hid (Below W.heap.size W (wr.setCell ⟨W.heap.size, i, none⟩ (.bool (!f i)))) := Lib.hid (HBL.out.setCell (Nat.le_refl _) _)
      have HAP := Lib.hid (fun w : World => apply_any (w := w) (k := 2) (Or.inl rfl) (f i) (f i))
      have e9 : app 2 (f i) (f i) = !f i := by simp [app]
      rw [e9] at HAP
      clear e9
      clear HR HT
      go_upto_region 15 with fail
      go_still_tail 14, (by kernel_rfl)
      still_call (HAP.out _)
      still_step
      refine wpStill_nil ?_
      go_wp2
      go_roundw
      case rel => exact ⟨i + 1, by omega, by go_num, Lib.hid HNR.out.drew, Lib.hid HNB.out.drew, Lib.hid (fun i hi => HNT.out i hi)⟩
      case measure => simp [intOf]; omega
    · obtain rfl : N = i := by omega
      go_wp2
      go_ret
      exact ⟨_, _, rfl, row_bs (by omega) (HR.out.congr fun u hu => by simp [hu]), HB1.out.size, HB1.out.trans (HBL.out.mono HB1.out.size)⟩
end Go.Proofs.Ytpfbommaddaijaa
namespace Go.Proofs.Ytpfbommaddaijaa
open Go.RowKit Go.Proofs.YtpfbommaddaijaaW.PrintWords
set_option linter.unusedVariables false
set_option linter.unusedSimpArgs false

set_option maxHeartbeats 8000000 in
set_option maxRecDepth 100000 in
theorem truth_bin3 {w : World} {n : Nat} (hn : n ≤ 12) {ad : Addr} {c : Nat} {x y z x' y' z' : Value} (h0 : w.cell? (ad.add 0) = some x) (h1 : w.cell? (ad.add 1) = some y) (h2 : w.cell? (ad.add 2) = some z)
    (h3 : w.cell? (ad.add 3) = some x') (h4 : w.cell? (ad.add 4) = some y') (h5 : w.cell? (ad.add 5) = some z') {f g : Nat → Bool}
    (HF : ∀ W, Below w.heap.size w W → Calls Try.prog 35 #[.agg #[x, y, z], I n] W (RT W n f)) (HG : ∀ W, Below w.heap.size w W → Calls Try.prog 35 #[.agg #[x', y', z'], I n] W (RT W n g)) : Calls Try.prog 35 #[.agg #[I 3, I 0, .slice (some ad) 2 c], I n] w (RT w n (fun x => app 3 (f x) (g x))) := by
  have hw := wshl n hn
  have hp12 : 2 ^ n ≤ 4096 := Nat.pow_le_pow_right (n := 2) (by decide) hn
  obtain ⟨N, hN⟩ : ∃ N, N = 2 ^ n := ⟨_, rfl⟩
  have HF := Lib.hid (fun W hW => (HF W hW).mono fun e w' h => h.open' hN)
  have HG := Lib.hid (fun W hW => (HG W hW).mono fun e w' h => h.open' hN)
  unfold RT
  rw [← hN] at hw hp12 ⊢
  clear hN
  have hmk := run_make_row' (P := Try.prog) 29 4 (.bool false) 1 Try.underlying29 Try.info4 rfl .i64 .i64 N (by omega) (by omega)
  obtain ⟨W, hW⟩ : ∃ W, W = w.alloc (.cells #[I 3, I 0, .slice (some ad) 2 c] 24) := ⟨_, rfl⟩
  have hsz : W.heap.size = w.heap.size + 1 := by rw [hW]; exact World.size_alloc _ _
  have HB1 : Hid (Below w.heap.size w W) := Lib.hid (by rw [hW]; exact (Below.refl _ _).alloc (Nat.le_refl _) _)
  have k0 : W.cell? ⟨w.heap.size, 0, none⟩ = some (I 3) := by rw [hW]; simp [go_sem]
  have k2 : W.cell? ⟨w.heap.size, 2, none⟩ = some (.slice (some ad) 2 c) := by rw [hW]; simp [go_sem]
  have HR : Hid ((W.alloc (.cells (madeCells #[Value.bool false] N) 4)).rowIs W.heap.size 4 N (fun _ => .bool false)) := Lib.hid (World.rowIs_made W _ N 4)
  have HB : Hid (Below W.heap.size W (W.alloc (.cells (madeCells #[Value.bool false] N) 4))) := Lib.hid ((Below.refl _ _).alloc (Nat.le_refl _) _)
  have HK : Hid (∀ W' : World, Below W.heap.size W W' → W'.cell? ⟨w.heap.size, 0, none⟩ = some (I 3) ∧ W'.cell? ⟨w.heap.size, 2, none⟩ = some (.slice (some ad) 2 c)) := Lib.hid (fun W' h => ⟨cell_keep h k0, cell_keep h k2⟩)
  have HWE := Lib.hid hW
  obtain ⟨W2, hW2⟩ : ∃ W2, W2 = W.alloc (.cells (madeCells #[Value.bool false] N) 4) := ⟨_, rfl⟩
  replace hmk := hmk W
  rw [← hW2] at hmk HR HB
  clear hW2
  have hB2 : Below w.heap.size w W2 := HB1.out.trans (HB.out.mono HB1.out.size)
  have HB2 := Lib.hid hB2
  have g0 := (HK.out _ HB.out).1
  have g1 := (HK.out _ HB.out).2
  have d0 := cell_keep hB2 h0
  have d1 := cell_keep hB2 h1
  have d2 := cell_keep hB2 h2
  simp [Addr.add] at d0 d1 d2
  have HD : Hid (∀ W' : World, Below w.heap.size w W' → W'.cell? ⟨ad.block, ad.off + 3, none⟩ = some x' ∧ W'.cell? ⟨ad.block, ad.off + 3 + 1, none⟩ = some y' ∧ W'.cell? ⟨ad.block, ad.off + 3 + 2, none⟩ = some z') := Lib.hid (fun W' h => ⟨cell_keep h (by simpa [Addr.add] using h3), cell_keep h (by simpa [Addr.add] using h4), cell_keep h (by simpa [Addr.add] using h5)⟩)
  have HR0 : Hid (W.heap.size < W2.heap.size) := Lib.hid HR.out.lt
  have HRK : Hid (∀ W3 : World, Below W2.heap.size W2 W3 → W3.rowIs W.heap.size 4 N (fun _ => .bool false)) := Lib.hid (fun W3 h => HR.out.of_block (h.block _ HR.out.lt))
  have hbel : ∀ W3 : World, Below W2.heap.size W2 W3 → Below W.heap.size W W3 := fun W3 h => HB.out.trans (h.mono HB.out.size)
  have HBK := Lib.hid hbel
  have hn0 : (0 : Int) ≤ n := by omega
  clear h0 h1 h2 h3 h4 h5 hB2 hbel k0 k2 hsz
  go_enter Try.func35, Try.ntmps35
  go_upto_region 1 with fail
  rw [← hW]
  clear hW
  go_wp2_with (first
    | (go_at_call 35; first
      | ((with_reducible refine (HF.out _ HB2.out).mono ?_); rintro e w3 ⟨b7, c7, rfl, HT, hs7, HB3⟩; have HR3 := Lib.hid (HRK.out _ HB3.out); have HBW3 := Lib.hid (HBK.out _ HB3.out); have HB4 := Lib.hid (HB2.out.trans (HB3.out.mono HB2.out.size)); have g03 := (HK.out _ HBW3.out).1; have g23 := (HK.out _ HBW3.out).2; have d3 := (HD.out _ HB4.out).1; have d4 := (HD.out _ HB4.out).2.1; have d5 := (HD.out _ HB4.out).2.2)
      | ((with_reducible refine (HG.out _ HB4.out).mono ?_); rintro e w4 ⟨b8, c8, rfl, HT8, hs8, HB5⟩; have g04 := (HK.out _ (HBW3.out.trans (HB5.out.mono HBW3.out.size))).1)))
  obtain ⟨HT, HT8, HBW3, HR3⟩ : Hid (∀ i, i < N → w4.cell? (b7.add i) = some (.bool (f i))) ∧ Hid (∀ i, i < N → w4.cell? (b8.add i) = some (.bool (g i))) ∧ Hid (Below W.heap.size W w4) ∧ Hid (w4.rowIs W.heap.size 4 N (fun _ => .bool false)) := ⟨Lib.hid (fun i hi => cell_keep HB5.out (HT.out i hi)), HT8, Lib.hid (HBW3.out.trans (HB5.out.mono HBW3.out.size)), Lib.hid (HR3.out.of_block (HB5.out.block _ HR3.out.lt))⟩
  have hs8' : W2.heap.size ≤ b8.block := Nat.le_trans HB3.out.size hs8
  clear g04 g03 g23 g0 g1 d0 d1 d2 d3 d4 d5 hmk
  go_loopw [9] (fun x wr => ∃ i : Nat, i ≤ N ∧ x = I i ∧ Hid (wr.rowIs W.heap.size 4 N (fun u => .bool (decide (u < i) && app 3 (f u) (g u)))) ∧ Hid (Below W.heap.size W wr) ∧ Hid (∀ i, i < N → wr.cell? (b7.add i) = some (.bool (f i))) ∧ Hid (∀ i, i < N → wr.cell? (b8.add i) = some (.bool (g i)))) (fun x _ => N - (intOf x).toNat)
  case atStart => exact ⟨0, by omega, rfl, Lib.hid (HR3.out.congr fun u _ => by simp), HBW3, HT, HT8⟩
  case round =>
    clear HR3 HBW3 HT HT8
    obtain ⟨i, hi, rfl, HR, HBL, HT, HT8⟩ := hrel
    by_cases hiN : i < N
    · obtain ⟨k0, k2⟩ := HK.out wr HBL.out
      have hi0 : (0 : Int) ≤ i := by omega
      have hi1 : (i : Int) < N := by omega
      have c5 := HR.out.cell hiN
      have q5 := HR.out.frozen i
      have c7' := HT.out i hiN
      have c8' := HT8.out i hiN
      have hne8 : b8.block ≠ W.heap.size := by have := HR0.out; omega
      have hne : b7.block ≠ W.heap.size := by have := HR0.out; omega
      have HNT : Hid (∀ j, j < N → (wr.setCell ⟨W.heap.size, i, none⟩ (.bool (app 3 (f i) (g i)))).cell? (b7.add j) = some (.bool (f j))) := Lib.hid (fun j hj => by rw [World.cell?_setCell_other (h := fun e => hne (by have h9 := congrArg Addr.block e; unfold Addr.add at h9; split at h9 <;> exact h9.symm))]; exact HT.out j hj)
      have HNT8 : Hid (∀ j, j < N → (wr.setCell ⟨W.heap.size, i, none⟩ (.bool (app 3 (f i) (g i)))).cell? (b8.add j) = some (.bool (g j))) := Lib.hid (fun j hj => by rw [World.cell?_setCell_other (h := fun e => hne8 (by have h9 := congrArg Addr.block e; unfold Addr.add at h9; split at h9 <;> exact h9.symm))]; exact HT8.out j hj)
      have HNR : Hid ((wr.setCell ⟨W.heap.size, i, none⟩ (.bool (app 3 (f i) (g i)))).rowIs W.heap.size 4 N (fun u => .bool (decide (u < i + 1) && app 3 (f u) (g u)))) := Lib.hid ((HR.out.set i (.bool (app 3 (f i) (g i)))).congr fun u hu => by
        by_cases e : u = i
        · rw [if_pos e, e]; simp
        · rw [if_neg e]
          have : (u < i) ↔ (u < i + 1) := by omega
          simp [this])
      have HNB : Hid (Below W.heap.size W (wr.setCell ⟨W.heap.size, i, none⟩ (.bool (app 3 (f i) (g i))))) := Lib.hid (HBL.out.setCell (Nat.le_refl _) _)
      have HAP := Lib.hid (fun w : World => apply_any (w := w) (k := 3) (by decide) (f i) (g i))
      clear HR HT HT8
      go_upto_region 15 with fail
      go_still_tail 14, (by kernel_rfl)
      still_call (HAP.out _)
      still_step
      refine wpStill_nil ?_
      go_wp2
      go_roundw
      case rel => exact ⟨i + 1, by omega, by go_num, Lib.hid HNR.out.drew, Lib.hid HNB.out.drew, Lib.hid (fun i hi => HNT.out i hi), Lib.hid (fun i hi => HNT8.out i hi)⟩
      case measure => simp [intOf]; omega
    · obtain rfl : N = i := by omega
      go_wp2
      go_ret
      exact ⟨_, _, rfl, row_bs (by omega) (HR.out.congr fun u hu => by simp [hu]), HB1.out.size, HB1.out.trans (HBL.out.mono HB1.out.size)⟩
set_option maxHeartbeats 8000000 in
set_option maxRecDepth 100000 in
theorem truth_bin4 {w : World} {n : Nat} (hn : n ≤ 12) {ad : Addr} {c : Nat} {x y z x' y' z' : Value} (h0 : w.cell? (ad.add 0) = some x) (h1 : w.cell? (ad.add 1) = some y) (h2 : w.cell? (ad.add 2) = some z)
    (h3 : w.cell? (ad.add 3) = some x') (h4 : w.cell? (ad.add 4) = some y') (h5 : w.cell? (ad.add 5) = some z') {f g : Nat → Bool}
    (HF : ∀ W, Below w.heap.size w W → Calls Try.prog 35 #[.agg #[x, y, z], I n] W (RT W n f)) (HG : ∀ W, Below w.heap.size w W → Calls Try.prog 35 #[.agg #[x', y', z'], I n] W (RT W n g)) : Calls Try.prog 35 #[.agg #[I 4, I 0, .slice (some ad) 2 c], I n] w (RT w n (fun x => app 4 (f x) (g x))) := by
  have hw := wshl n hn
  have hp12 : 2 ^ n ≤ 4096 := Nat.pow_le_pow_right (n := 2) (by decide) hn
  obtain ⟨N, hN⟩ : ∃ N, N = 2 ^ n := ⟨_, rfl⟩
  have HF := Lib.hid (fun W hW => (HF W hW).mono fun e w' h => h.open' hN)
  have HG := Lib.hid (fun W hW => (HG W hW).mono fun e w' h => h.open' hN)
  unfold RT
  rw [← hN] at hw hp12 ⊢
  clear hN
  have hmk := run_make_row' (P := Try.prog) 29 4 (.bool false) 1 Try.underlying29 Try.info4 rfl .i64 .i64 N (by omega) (by omega)
  obtain ⟨W, hW⟩ : ∃ W, W = w.alloc (.cells #[I 4, I 0, .slice (some ad) 2 c] 24) := ⟨_, rfl⟩
  have hsz : W.heap.size = w.heap.size + 1 := by rw [hW]; exact World.size_alloc _ _
  have HB1 : Hid (Below w.heap.size w W) := Lib.hid (by rw [hW]; exact (Below.refl _ _).alloc (Nat.le_refl _) _)
  have k0 : W.cell? ⟨w.heap.size, 0, none⟩ = some (I 4) := by rw [hW]; simp [go_sem]
  have k2 : W.cell? ⟨w.heap.size, 2, none⟩ = some (.slice (some ad) 2 c) := by rw [hW]; simp [go_sem]
  have HR : Hid ((W.alloc (.cells (madeCells #[Value.bool false] N) 4)).rowIs W.heap.size 4 N (fun _ => .bool false)) := Lib.hid (World.rowIs_made W _ N 4)
  have HB : Hid (Below W.heap.size W (W.alloc (.cells (madeCells #[Value.bool false] N) 4))) := Lib.hid ((Below.refl _ _).alloc (Nat.le_refl _) _)
  have HK : Hid (∀ W' : World, Below W.heap.size W W' → W'.cell? ⟨w.heap.size, 0, none⟩ = some (I 4) ∧ W'.cell? ⟨w.heap.size, 2, none⟩ = some (.slice (some ad) 2 c)) := Lib.hid (fun W' h => ⟨cell_keep h k0, cell_keep h k2⟩)
  have HWE := Lib.hid hW
  obtain ⟨W2, hW2⟩ : ∃ W2, W2 = W.alloc (.cells (madeCells #[Value.bool false] N) 4) := ⟨_, rfl⟩
  replace hmk := hmk W
  rw [← hW2] at hmk HR HB
  clear hW2
  have hB2 : Below w.heap.size w W2 := HB1.out.trans (HB.out.mono HB1.out.size)
  have HB2 := Lib.hid hB2
  have g0 := (HK.out _ HB.out).1
  have g1 := (HK.out _ HB.out).2
  have d0 := cell_keep hB2 h0
  have d1 := cell_keep hB2 h1
  have d2 := cell_keep hB2 h2
  simp [Addr.add] at d0 d1 d2
  have HD : Hid (∀ W' : World, Below w.heap.size w W' → W'.cell? ⟨ad.block, ad.off + 3, none⟩ = some x' ∧ W'.cell? ⟨ad.block, ad.off + 3 + 1, none⟩ = some y' ∧ W'.cell? ⟨ad.block, ad.off + 3 + 2, none⟩ = some z') := Lib.hid (fun W' h => ⟨cell_keep h (by simpa [Addr.add] using h3), cell_keep h (by simpa [Addr.add] using h4), cell_keep h (by simpa [Addr.add] using h5)⟩)
  have HR0 : Hid (W.heap.size < W2.heap.size) := Lib.hid HR.out.lt
  have HRK : Hid (∀ W3 : World, Below W2.heap.size W2 W3 → W3.rowIs W.heap.size 4 N (fun _ => .bool false)) := Lib.hid (fun W3 h => HR.out.of_block (h.block _ HR.out.lt))
  have hbel : ∀ W3 : World, Below W2.heap.size W2 W3 → Below W.heap.size W W3 := fun W3 h => HB.out.trans (h.mono HB.out.size)
  have HBK := Lib.hid hbel
  have hn0 : (0 : Int) ≤ n := by omega
  clear h0 h1 h2 h3 h4 h5 hB2 hbel k0 k2 hsz
  go_enter Try.func35, Try.ntmps35
  go_upto_region 1 with fail
  rw [← hW]
  clear hW
  go_wp2_with (first
    | (go_at_call 35; first
      | ((with_reducible refine (HF.out _ HB2.out).mono ?_); rintro e w3 ⟨b7, c7, rfl, HT, hs7, HB3⟩; have HR3 := Lib.hid (HRK.out _ HB3.out); have HBW3 := Lib.hid (HBK.out _ HB3.out); have HB4 := Lib.hid (HB2.out.trans (HB3.out.mono HB2.out.size)); have g03 := (HK.out _ HBW3.out).1; have g23 := (HK.out _ HBW3.out).2; have d3 := (HD.out _ HB4.out).1; have d4 := (HD.out _ HB4.out).2.1; have d5 := (HD.out _ HB4.out).2.2)
      | ((with_reducible refine (HG.out _ HB4.out).mono ?_); rintro e w4 ⟨b8, c8, rfl, HT8, hs8, HB5⟩; have g04 := (HK.out _ (HBW3.out.trans (HB5.out.mono HBW3.out.size))).1)))
  obtain ⟨HT, HT8, HBW3, HR3⟩ : Hid (∀ i, i < N → w4.cell? (b7.add i) = some (.bool (f i))) ∧ Hid (∀ i, i < N → w4.cell? (b8.add i) = some (.bool (g i))) ∧ Hid (Below W.heap.size W w4) ∧ Hid (w4.rowIs W.heap.size 4 N (fun _ => .bool false)) := ⟨Lib.hid (fun i hi => cell_keep HB5.out (HT.out i hi)), HT8, Lib.hid (HBW3.out.trans (HB5.out.mono HBW3.out.size)), Lib.hid (HR3.out.of_block (HB5.out.block _ HR3.out.lt))⟩
  have hs8' : W2.heap.size ≤ b8.block := Nat.le_trans HB3.out.size hs8
  clear g04 g03 g23 g0 g1 d0 d1 d2 d3 d4 d5 hmk
  go_loopw [9] (fun x wr => ∃ i : Nat, i ≤ N ∧ x = I i ∧ Hid (wr.rowIs W.heap.size 4 N (fun u => .bool (decide (u < i) && app 4 (f u) (g u)))) ∧ Hid (Below W.heap.size W wr) ∧ Hid (∀ i, i < N → wr.cell? (b7.add i) = some (.bool (f i))) ∧ Hid (∀ i, i < N → wr.cell? (b8.add i) = some (.bool (g i)))) (fun x _ => N - (intOf x).toNat)
  case atStart => exact ⟨0, by omega, rfl, Lib.hid (HR3.out.congr fun u _ => by simp), HBW3, HT, HT8⟩
  case round =>
    clear HR3 HBW3 HT HT8
    obtain ⟨i, hi, rfl, HR, HBL, HT, HT8⟩ := hrel
    by_cases hiN : i < N
    · obtain ⟨k0, k2⟩ := HK.out wr HBL.out
      have hi0 : (0 : Int) ≤ i := by omega
      have hi1 : (i : Int) < N := by omega
      have c5 := HR.out.cell hiN
      have q5 := HR.out.frozen i
      have c7' := HT.out i hiN
      have c8' := HT8.out i hiN
      have hne8 : b8.block ≠ W.heap.size := by have := HR0.out; omega
      have hne : b7.block ≠ W.heap.size := by have := HR0.out; omega
      have HNT : Hid (∀ j, j < N → (wr.setCell ⟨W.heap.size, i, none⟩ (.bool (app 4 (f i) (g i)))).cell? (b7.add j) = some (.bool (f j))) := Lib.hid (fun j hj => by rw [World.cell?_setCell_other (h := fun e => hne (by have h9 := congrArg Addr.block e; unfold Addr.add at h9; split at h9 <;> exact h9.symm))]; exact HT.out j hj)
      have HNT8 : Hid (∀ j, j < N → (wr.setCell ⟨W.heap.size, i, none⟩ (.bool (app 4 (f i) (g i)))).cell? (b8.add j) = some (.bool (g j))) := Lib.hid (fun j hj => by rw [World.cell?_setCell_other (h := fun e => hne8 (by have h9 := congrArg Addr.block e; unfold Addr.add at h9; split at h9 <;> exact h9.symm))]; exact HT8.out j hj)
      have HNR : Hid ((wr.setCell ⟨W.heap.size, i, none⟩ (.bool (app 4 (f i) (g i)))).rowIs W.heap.size 4 N (fun u => .bool (decide (u < i + 1) && app 4 (f u) (g u)))) := Lib.hid ((HR.out.set i (.bool (app 4 (f i) (g i)))).congr fun u hu => by
        by_cases e : u = i
        · rw [if_pos e, e]; simp
        · rw [if_neg e]
          have : (u < i) ↔ (u < i + 1) := by omega
          simp [this])
      have HNB : Hid (Below W.heap.size W (wr.setCell ⟨W.heap.size, i, none⟩ (.bool (app 4 (f i) (g i))))) := Lib.hid (HBL.out.setCell (Nat.le_refl _) _)
      have HAP := Lib.hid (fun w : World => apply_any (w := w) (k := 4) (by decide) (f i) (g i))
      clear HR HT HT8
      go_upto_region 15 with fail
      go_still_tail 14, (by kernel_rfl)
      still_call (HAP.out _)
      still_step
      refine wpStill_nil ?_
      go_wp2
      go_roundw
      case rel => exact ⟨i + 1, by omega, by go_num, Lib.hid HNR.out.drew, Lib.hid HNB.out.drew, Lib.hid (fun i hi => HNT.out i hi), Lib.hid (fun i hi => HNT8.out i hi)⟩
      case measure => simp [intOf]; omega
    · obtain rfl : N = i := by omega
      go_wp2
      go_ret
      exact ⟨_, _, rfl, row_bs (by omega) (HR.out.congr fun u hu => by simp [hu]), HB1.out.size, HB1.out.trans (HBL.out.mono HB1.out.size)⟩
set_option maxHeartbeats 8000000 in
set_option maxRecDepth 100000 in
theorem truth_bin5 {w : World} {n : Nat} (hn : n ≤ 12) {ad : Addr} {c : Nat} {x y z x' y' z' : Value} (h0 : w.cell? (ad.add 0) = some x) (h1 : w.cell? (ad.add 1) = some y) (h2 : w.cell? (ad.add 2) = some z)
    (h3 : w.cell? (ad.add 3) = some x') (h4 : w.cell? (ad.add 4) = some y') (h5 : w.cell? (ad.add 5) = some z') {f g : Nat → Bool}
    (HF : ∀ W, Below w.heap.size w W → Calls Try.prog 35 #[.agg #[x, y, z], I n] W (RT W n f)) (HG : ∀ W, Below w.heap.size w W → Calls Try.prog 35 #[.agg #[x', y', z'], I n] W (RT W n g)) : Calls Try.prog 35 #[.agg #[I 5, I 0, .slice (some ad) 2 c], I n] w (RT w n (fun x => app 5 (f x) (g x))) := by
  have hw := wshl n hn
  have hp12 : 2 ^ n ≤ 4096 := Nat.pow_le_pow_right (n := 2) (by decide) hn
  obtain ⟨N, hN⟩ : ∃ N, N = 2 ^ n := ⟨_, rfl⟩
  have HF := Lib.hid (fun W hW => (HF W hW).mono fun e w' h => h.open' hN)
  have HG := Lib.hid (fun W hW => (HG W hW).mono fun e w' h => h.open' hN)
  unfold RT
  rw [← hN] at hw hp12 ⊢
  clear hN
  have hmk := run_make_row' (P := Try.prog) 29 4 (.bool false) 1 Try.underlying29 Try.info4 rfl .i64 .i64 N (by omega) (by omega)
  obtain ⟨W, hW⟩ : ∃ W, W = w.alloc (.cells #[I 5, I 0, .slice (some ad) 2 c] 24) := ⟨_, rfl⟩
  have hsz : W.heap.size = w.heap.size + 1 := by rw [hW]; exact World.size_alloc _ _
  have HB1 : Hid (Below w.heap.size w W) := Lib.hid (by rw [hW]; exact (Below.refl _ _).alloc (Nat.le_refl _) _)
  have k0 : W.cell? ⟨w.heap.size, 0, none⟩ = some (I 5) := by rw [hW]; simp [go_sem]
  have k2 : W.cell? ⟨w.heap.size, 2, none⟩ = some (.slice (some ad) 2 c) := by rw [hW]; simp [go_sem]
  have HR : Hid ((W.alloc (.cells (madeCells #[Value.bool false] N) 4)).rowIs W.heap.size 4 N (fun _ => .bool false)) := Lib.hid (World.rowIs_made W _ N 4)
  have HB : Hid (Below W.heap.size W (W.alloc (.cells (madeCells #[Value.bool false] N) 4))) := Lib.hid ((Below.refl _ _).alloc (Nat.le_refl _) _)
  have HK : Hid (∀ W' : World, Below W.heap.size W W' → W'.cell? ⟨w.heap.size, 0, none⟩ = some (I 5) ∧ W'.cell? ⟨w.heap.size, 2, none⟩ = some (.slice (some ad) 2 c)) := Lib.hid (fun W' h => ⟨cell_keep h k0, cell_keep h k2⟩)
  have HWE := Lib.hid hW
  obtain ⟨W2, hW2⟩ : ∃ W2, W2 = W.alloc (.cells (madeCells #[Value.bool false] N) 4) := ⟨_, rfl⟩
  replace hmk := hmk W
  rw [← hW2] at hmk HR HB
  clear hW2
  have hB2 : Below w.heap.size w W2 := HB1.out.trans (HB.out.mono HB1.out.size)
  have HB2 := Lib.hid hB2
  have g0 := (HK.out _ HB.out).1
  have g1 := (HK.out _ HB.out).2
  have d0 := cell_keep hB2 h0
  have d1 := cell_keep hB2 h1
  have d2 := cell_keep hB2 h2
  simp [Addr.add] at d0 d1 d2
  have HD : Hid (∀ W' : World, Below w.heap.size w W' → W'.cell? ⟨ad.block, ad.off + 3, none⟩ = some x' ∧ W'.cell? ⟨ad.block, ad.off + 3 + 1, none⟩ = some y' ∧ W'.cell? ⟨ad.block, ad.off + 3 + 2, none⟩ = some z') := Lib.hid (fun W' h => ⟨cell_keep h (by simpa [Addr.add] using h3), cell_keep h (by simpa [Addr.add] using h4), cell_keep h (by simpa [Addr.add] using h5)⟩)
  have HR0 : Hid (W.heap.size < W2.heap.size) := Lib.hid HR.out.lt
  have HRK : Hid (∀ W3 : World, Below W2.heap.size W2 W3 → W3.rowIs W.heap.size 4 N (fun _ => .bool false)) := Lib.hid (fun W3 h => HR.out.of_block (h.block _ HR.out.lt))
  have hbel : ∀ W3 : World, Below W2.heap.size W2 W3 → Below W.heap.size W W3 := fun W3 h => HB.out.trans (h.mono HB.out.size)
  have HBK := Lib.hid hbel
  have hn0 : (0 : Int) ≤ n := by omega
  clear h0 h1 h2 h3 h4 h5 hB2 hbel k0 k2 hsz
  go_enter Try.func35, Try.ntmps35
  go_upto_region 1 with fail
  rw [← hW]
  clear hW
  go_wp2_with (first
    | (go_at_call 35; first
      | ((with_reducible refine (HF.out _ HB2.out).mono ?_); rintro e w3 ⟨b7, c7, rfl, HT, hs7, HB3⟩; have HR3 := Lib.hid (HRK.out _ HB3.out); have HBW3 := Lib.hid (HBK.out _ HB3.out); have HB4 := Lib.hid (HB2.out.trans (HB3.out.mono HB2.out.size)); have g03 := (HK.out _ HBW3.out).1; have g23 := (HK.out _ HBW3.out).2; have d3 := (HD.out _ HB4.out).1; have d4 := (HD.out _ HB4.out).2.1; have d5 := (HD.out _ HB4.out).2.2)
      | ((with_reducible refine (HG.out _ HB4.out).mono ?_); rintro e w4 ⟨b8, c8, rfl, HT8, hs8, HB5⟩; have g04 := (HK.out _ (HBW3.out.trans (HB5.out.mono HBW3.out.size))).1)))
  obtain ⟨HT, HT8, HBW3, HR3⟩ : Hid (∀ i, i < N → w4.cell? (b7.add i) = some (.bool (f i))) ∧ Hid (∀ i, i < N → w4.cell? (b8.add i) = some (.bool (g i))) ∧ Hid (Below W.heap.size W w4) ∧ Hid (w4.rowIs W.heap.size 4 N (fun _ => .bool false)) := ⟨Lib.hid (fun i hi => cell_keep HB5.out (HT.out i hi)), HT8, Lib.hid (HBW3.out.trans (HB5.out.mono HBW3.out.size)), Lib.hid (HR3.out.of_block (HB5.out.block _ HR3.out.lt))⟩
  have hs8' : W2.heap.size ≤ b8.block := Nat.le_trans HB3.out.size hs8
  clear g04 g03 g23 g0 g1 d0 d1 d2 d3 d4 d5 hmk
  go_loopw [9] (fun x wr => ∃ i : Nat, i ≤ N ∧ x = I i ∧ Hid (wr.rowIs W.heap.size 4 N (fun u => .bool (decide (u < i) && app 5 (f u) (g u)))) ∧ Hid (Below W.heap.size W wr) ∧ Hid (∀ i, i < N → wr.cell? (b7.add i) = some (.bool (f i))) ∧ Hid (∀ i, i < N → wr.cell? (b8.add i) = some (.bool (g i)))) (fun x _ => N - (intOf x).toNat)
  case atStart => exact ⟨0, by omega, rfl, Lib.hid (HR3.out.congr fun u _ => by simp), HBW3, HT, HT8⟩
  case round =>
    clear HR3 HBW3 HT HT8
    obtain ⟨i, hi, rfl, HR, HBL, HT, HT8⟩ := hrel
    by_cases hiN : i < N
    · obtain ⟨k0, k2⟩ := HK.out wr HBL.out
      have hi0 : (0 : Int) ≤ i := by omega
      have hi1 : (i : Int) < N := by omega
      have c5 := HR.out.cell hiN
      have q5 := HR.out.frozen i
      have c7' := HT.out i hiN
      have c8' := HT8.out i hiN
      have hne8 : b8.block ≠ W.heap.size := by have := HR0.out; omega
      have hne : b7.block ≠ W.heap.size := by have := HR0.out; omega
      have HNT : Hid (∀ j, j < N → (wr.setCell ⟨W.heap.size, i, none⟩ (.bool (app 5 (f i) (g i)))).cell? (b7.add j) = some (.bool (f j))) := Lib.hid (fun j hj => by rw [World.cell?_setCell_other (h := fun e => hne (by have h9 := congrArg Addr.block e; unfold Addr.add at h9; split at h9 <;> exact h9.symm))]; exact HT.out j hj)
      have HNT8 : Hid (∀ j, j < N → (wr.setCell ⟨W.heap.size, i, none⟩ (.bool (app 5 (f i) (g i)))).cell? (b8.add j) = some (.bool (g j))) := Lib.hid (fun j hj => by rw [World.cell?_setCell_other (h := fun e => hne8 (by have h9 := congrArg Addr.block e; unfold Addr.add at h9; split at h9 <;> exact h9.symm))]; exact HT8.out j hj)
      have HNR : Hid ((wr.setCell ⟨W.heap.size, i, none⟩ (.bool (app 5 (f i) (g i)))).rowIs W.heap.size 4 N (fun u => .bool (decide (u < i + 1) && app 5 (f u) (g u)))) := Lib.hid ((HR.out.set i (.bool (app 5 (f i) (g i)))).congr fun u hu => by
        by_cases e : u = i
        · rw [if_pos e, e]; simp
        · rw [if_neg e]
          have : (u < i) ↔ (u < i + 1) := by omega
          simp [this])
      have HNB : Hid (Below W.heap.size W (wr.setCell ⟨W.heap.size, i, none⟩ (.bool (app 5 (f i) (g i))))) := Lib.hid (HBL.out.setCell (Nat.le_refl _) _)
      have HAP := Lib.hid (fun w : World => apply_any (w := w) (k := 5) (by decide) (f i) (g i))
      clear HR HT HT8
      go_upto_region 15 with fail
      go_still_tail 14, (by kernel_rfl)
      still_call (HAP.out _)
      still_step
      refine wpStill_nil ?_
      go_wp2
      go_roundw
      case rel => exact ⟨i + 1, by omega, by go_num, Lib.hid HNR.out.drew, Lib.hid HNB.out.drew, Lib.hid (fun i hi => HNT.out i hi), Lib.hid (fun i hi => HNT8.out i hi)⟩
      case measure => simp [intOf]; omega
    · obtain rfl : N = i := by omega
      go_wp2
      go_ret
      exact ⟨_, _, rfl, row_bs (by omega) (HR.out.congr fun u hu => by simp [hu]), HB1.out.size, HB1.out.trans (HBL.out.mono HB1.out.size)⟩
theorem Fm.list {w : World} {t : Fx} {cs : List Value} (h : Fm w t cs) (hl : cs.length = 3) : ∃ x y z, cs = [x, y, z] ∧ Fm w t [x, y, z] := by
  obtain ⟨k, n, A, l, c, e⟩ := h.three
  subst e
  exact ⟨_, _, _, rfl, h⟩
/-- the table of a formula -/
theorem truth_any {n : Nat} (hn : n ≤ 12) : ∀ {t : Fx} {w : World} {x y z : Value}, Fm w t [x, y, z] → t.ok 16 → Calls Try.prog 35 #[.agg #[x, y, z], I n] w (RT w n (fun u => t.val u))
  | .leaf k m, w, x, y, z, h, ho => by
    obtain ⟨A, c, e⟩ := h
    simp only [List.cons.injEq, and_true] at e
    obtain ⟨rfl, rfl, rfl⟩ := e
    exact truth_leaf hn ho
  | .not a, w, x, y, z, h, ho => by
    obtain ⟨ad, c, ca, e, h2, h3, h4, h5⟩ := h
    simp only [List.cons.injEq, and_true] at e
    obtain ⟨rfl, rfl, rfl⟩ := e
    obtain ⟨p, q, r, rfl, h6⟩ := h5.list h3
    exact truth_not hn (h4 0 _ rfl) (h4 1 _ rfl) (h4 2 _ rfl) (fun W hW => truth_any hn (h6.keep hW) ho)
  | .bin k a b, w, x, y, z, h, ho => by
    obtain ⟨ad, c, ca, cb, e, h2, h3, h3', h4, h4', h5, h5'⟩ := h
    simp only [List.cons.injEq, and_true] at e
    obtain ⟨rfl, rfl, rfl⟩ := e
    obtain ⟨p, q, r, rfl, h6⟩ := h5.list h3
    obtain ⟨p', q', r', rfl, h6'⟩ := h5'.list h3'
    have HA := fun W hW => truth_any hn (h6.keep hW : Fm W a [p, q, r]) ho.2.1
    have HB := fun W hW => truth_any hn (h6'.keep hW : Fm W b [p', q', r']) ho.2.2
    rcases ho.1 with rfl | rfl | rfl
    · exact truth_bin3 hn (h4 0 _ rfl) (h4 1 _ rfl) (h4 2 _ rfl) (h4' 0 _ rfl) (h4' 1 _ rfl) (h4' 2 _ rfl) HA HB
    · exact truth_bin4 hn (h4 0 _ rfl) (h4 1 _ rfl) (h4 2 _ rfl) (h4' 0 _ rfl) (h4' 1 _ rfl) (h4' 2 _ rfl) HA HB
    · exact truth_bin5 hn (h4 0 _ rfl) (h4 1 _ rfl) (h4 2 _ rfl) (h4' 0 _ rfl) (h4' 1 _ rfl) (h4' 2 _ rfl) HA HB
end Go.Proofs.Ytpfbommaddaijaa
