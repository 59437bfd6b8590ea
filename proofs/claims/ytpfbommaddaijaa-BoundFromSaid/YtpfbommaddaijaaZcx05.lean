/- The least costs as numbers: every function of at most three inputs has a formula; what LeastSize, LeastDepth and Binary answer; Plain: numbers of different functions; the submasks of a mask in rising order; The reference's Functions; The reference's Functions; subfunctions: how many different functions a block has; Plain: the printed functions of the law Nechiporuk: wide, lists, Blocks, Floor; Nechiporuk; What came in, opened: a datum's cells as the kinds of the print's words tell them; Lists of lists that came in. -/
import Derived.Test.YtpfbommaddaijaaZcKb
import Derived.Test.YtpfbommaddaijaaZcx04
import Derived.Test.YtpfbommaddaijaaWWords
import Derived.Test.YtpfbommaddaijaaZcKa
import Derived.Laws.BytesArg
import Derived.StringKeys
import Derived.Laws.ShiftsVarLaws
import Derived.Test.YtpfbommaddaijaaPBoundNechiporukx0
import Derived.ProofKit
import Derived.Lib.SmallJoins
import Derived.SizedLaws
import Derived.Deep.Matrix
namespace Go.Proofs.Ytpfbommaddaijaa
set_option linter.unusedVariables false
set_option linter.unusedSimpArgs false

section
variable {n M : Nat} {leaf : Int} {xor : Bool} {J : Int → Int → Int}
end
end Go.Proofs.Ytpfbommaddaijaa
namespace Go.Proofs.Ytpfbommaddaijaa
set_option linter.unusedVariables false
set_option linter.unusedSimpArgs false

section
variable {n M : Nat} {E E' : Nat → Ent}
end
end Go.Proofs.Ytpfbommaddaijaa
namespace Go.Proofs.Ytpfbommaddaijaa
set_option linter.unusedVariables false
set_option linter.unusedSimpArgs false

end Go.Proofs.Ytpfbommaddaijaa
namespace Go.Proofs.Ytpfbommaddaijaa
open Go.RowKit Go.Proofs.YtpfbommaddaijaaW.PrintWords
set_option linter.unusedVariables false
set_option linter.unusedSimpArgs false

theorem Bs.congr {w : World} {v : Value} {n : Nat} {f g : Nat → Bool} (h : Bs w v n f) (e : ∀ u, u < n → f u = g u) : Bs w v n g := by
  obtain ⟨a, c, h1, h2, h3, h4, h5⟩ := h.ex
  exact ⟨a, c, h1, h2, h3, h4, fun b hb i hi => by rw [← e i hi]; exact h5 b hb i hi⟩
section
variable {w : World} {v : Value} {n M : Nat} {f : Nat → Bool} {c : Int}
end
theorem Bs.C {w : World} {a : Option Addr} {n c : Nat} {f : Nat → Bool} (h : Bs w (.slice a n c) n f) : Kd.C Kd.bool w a ((List.range n).map f).length ((List.range n).map f) := by
  obtain ⟨a', c', h1, h2, h3, h4, h5⟩ := h.ex
  cases h1
  have hm : maxLen ≤ 9223372036854775807 := by decide
  refine ⟨rfl, by simp; omega, fun hn => ?_⟩
  simp only [List.length_map, List.length_range] at hn
  obtain ⟨b, rfl⟩ := h4 hn
  refine ⟨b, rfl, fun j p hj => ⟨[.bool p], rfl, rfl, fun i u hu => ?_⟩⟩
  obtain rfl : i = 0 := by have := (List.getElem?_eq_some_iff.1 hu).1; simpa using this
  have hjn : j < n := by have := (List.getElem?_eq_some_iff.1 hj).1; simpa using this
  simp [hjn] at hj
  simp at hu
  subst hu
  subst hj
  have hsz : Kd.bool.sz = 1 := rfl
  rw [hsz, Nat.mul_one, Nat.add_zero]
  exact h5 b rfl j hjn
end Go.Proofs.Ytpfbommaddaijaa

namespace Go.Proofs.Ytpfbommaddaijaa
open Go.Maps
set_option linter.unusedVariables false
set_option linter.unusedSimpArgs false

def msk (l : Nat → Nat) : Nat → Nat
  | 0 => 0
  | i + 1 => msk l i ||| 2 ^ l i
/-- rising -/
def Rise (l : Nat → Nat) (k : Nat) : Prop := ∀ i j, i < j → j < k → l i < l j
theorem Rise.less {l : Nat → Nat} {k j : Nat} (h : Rise l k) (hj : j ≤ k) : Rise l j := fun a b hab hb => h a b hab (by omega)
open Classical in
/-- how many different functions there are among those at the places P below i -/
noncomputable def cnt (P : Nat → Bool) (key : Nat → List Bool) : Nat → Nat
  | 0 => 0
  | i + 1 => if P i = true ∧ ¬ ∃ j, j < i ∧ P j = true ∧ key j = key i then cnt P key i + 1 else cnt P key i
/-- a map whose keys are what has been seen -/
structure Sn (enc : List Bool → List UInt8) (P : Nat → Bool) (key : Nat → List Bool) (i : Nat) (D : DataW Unit) : Prop where
  tidy : Tidy D
  has : ∀ s, has D (.string s) = true ↔ ∃ j, j < i ∧ P j = true ∧ enc (key j) = s
  size : size D = cnt P key i
theorem Sn.start (enc : List Bool → List UInt8) (P : Nat → Bool) (key : Nat → List Bool) : Sn enc P key 0 (.map []) := ⟨tidy_empty, fun s => by simp [Maps.has], rfl⟩
theorem Sn.put {enc : List Bool → List UInt8} (hinj : ∀ a b, enc a = enc b → a = b) {P : Nat → Bool} {key : Nat → List Bool} {i : Nat} {D : DataW Unit} (h : Sn enc P key i D) (hP : P i = true) (d : DataW Unit) : Sn enc P key (i + 1) (D.put (.string (enc (key i))) d) where
  tidy := h.tidy.put (k := .string (enc (key i))) trivial d
  has s := by
    by_cases e : s = enc (key i)
    · subst e
      rw [has_put_same (k := .string (enc (key i))) h.tidy.isMap trivial]
      exact ⟨fun _ => ⟨i, by omega, hP, rfl⟩, fun _ => rfl⟩
    · rw [has_put_other (by intro c; cases c; exact e rfl), h.has]
      refine ⟨fun ⟨j, h1, h2⟩ => ⟨j, by omega, h2⟩, fun ⟨j, h1, h2, h3⟩ => ⟨j, ?_, h2, h3⟩⟩
      by_cases ej : j = i
      · subst ej; exact absurd h3.symm e
      · omega
  size := by
    rw [size_put h.tidy, h.size, cnt]
    by_cases e : Maps.has D (.string (enc (key i))) = true
    · obtain ⟨j, h1, h2, h3⟩ := (h.has _).1 e
      rw [if_pos e, if_neg (fun c => c.2 ⟨j, h1, h2, hinj _ _ h3⟩)]
    · rw [if_neg e, if_pos ⟨hP, fun ⟨j, h1, h2, h3⟩ => e ((h.has _).2 ⟨j, h1, h2, by rw [h3]⟩)⟩]
end Go.Proofs.Ytpfbommaddaijaa
namespace Go.Proofs.Ytpfbommaddaijaa
open Go.RowKit Go.Maps Go.ChangeMaps Go.MapKept
set_option linter.unusedVariables false
set_option linter.unusedSimpArgs false

theorem and_k {a b : Nat} (ha : a < 8192) (hb : b < 8192) : bits BinOp.and .i64 (a : Int) (b : Int) = ((a &&& b : Nat) : Int) := by
  have hx : a &&& b < 2 ^ 13 := Nat.and_lt_two_pow _ (by omega)
  have h1 : (BitVec.ofInt 64 (a : Int)).toNat = a := by
    rw [BitVec.ofInt_natCast, BitVec.toNat_ofNat]; exact Nat.mod_eq_of_lt (by omega)
  have h2 : (BitVec.ofInt 64 (b : Int)).toNat = b := by
    rw [BitVec.ofInt_natCast, BitVec.toNat_ofNat]; exact Nat.mod_eq_of_lt (by omega)
  show IntKind.i64.wrap ((BitVec.ofInt 64 (a : Int) &&& BitVec.ofInt 64 (b : Int)).toNat : Int) = _
  rw [BitVec.toNat_and, h1, h2, IntKind.wrap_i64]
  omega
/-- numbers that are read -/
structure Nm (w : World) (v : Value) (n : Nat) (Z : Nat → Int) : Prop where
  ex : ∃ (a : Option Addr) (cap : Nat), v = .slice a n cap ∧ ∀ i, i < n → ∃ b, a = some b ∧ w.cell? (b.add i) = some (I (Z i))
theorem Nm.shape {w : World} {v : Value} {n : Nat} {Z : Nat → Int} (h : Nm w v n Z) : ∃ a c, v = .slice a n c := by
  obtain ⟨a, c, h1, _⟩ := h.ex
  exact ⟨a, c, h1⟩
theorem Nm.at' {w : World} {a : Option Addr} {n k c : Nat} {Z : Nat → Int} (h : Nm w (.slice a k c) n Z) {i : Nat} (hi : i < n) : ∃ b, a = some b ∧ w.cell? (b.add i) = some (I (Z i)) := by
  obtain ⟨a', c', h1, h2⟩ := h.ex
  cases h1
  exact h2 i hi
theorem Nm.keep {w w' : World} {v : Value} {n : Nat} {Z : Nat → Int} (h : Nm w v n Z) (hb : Below w.heap.size w w') : Nm w' v n Z := by
  obtain ⟨a, c, h1, h2⟩ := h.ex
  exact ⟨a, c, h1, fun i hi => by obtain ⟨b, e, hc⟩ := h2 i hi; exact ⟨b, e, (hb.cell (World.block_lt_of_cell? _ _ hc)).trans hc⟩⟩
/-- is x outside the mask -/
def out (l : Nat → Nat) (k : Nat) (x : Nat) : Bool := x &&& msk l k == 0
theorem shr_one {y i : Nat} : (y / 2 ^ i % 2 = 1) ↔ y.testBit i = true := by rw [Nat.testBit_eq_decide_div_mod_eq, decide_eq_true_iff]
end Go.Proofs.Ytpfbommaddaijaa
namespace Go.Proofs.Ytpfbommaddaijaa
open Go.RowKit Go.Maps Go.ChangeMaps Go.MapKept
set_option linter.unusedVariables false
set_option linter.unusedSimpArgs false

theorem shr_and {y i : Nat} (hy : y < 8192) : bits BinOp.and .i64 ((y : Int) / 2 ^ i) 1 = ((if y.testBit i = true then 1 else 0 : Nat) : Int) := by
  have e : ((y : Int) / 2 ^ i) = ((y / 2 ^ i : Nat) : Int) := by push_cast; rfl
  rw [e, show (1 : Int) = ((1 : Nat) : Int) from rfl, and_k (by have := Nat.div_le_self y (2 ^ i); omega) (by decide), Nat.and_one_is_mod]
  have h2 : y / 2 ^ i % 2 = 0 ∨ y / 2 ^ i % 2 = 1 := by omega
  by_cases h : y.testBit i = true
  · rw [if_pos h, shr_one.2 h]
  · rw [if_neg h]
    rcases h2 with h2 | h2
    · rw [h2]
    · exact absurd (shr_one.1 h2) h
end Go.Proofs.Ytpfbommaddaijaa
namespace Go.Proofs.Ytpfbommaddaijaa
open Go.RowKit Go.Maps Go.ChangeMaps Go.MapKept Go.Proofs.YtpfbommaddaijaaW.PrintWords
set_option linter.unusedVariables false
set_option linter.unusedSimpArgs false

end Go.Proofs.Ytpfbommaddaijaa

namespace Go.Proofs.Ytpfbommaddaijaa
open Go.RowKit Go.Proofs.YtpfbommaddaijaaW.PrintWords PBoundNechiporuk
set_option linter.unusedVariables false
set_option linter.unusedSimpArgs false

/-- the marks say what was met -/
def Mk (n : Int) (B : List Bool) (met : List Int) : Prop := (B.length : Int) = n ∧ ∀ v, 0 ≤ v → v < n → rdOf false B v = decide (v ∈ met)
theorem Mk.set {n : Int} {B : List Bool} {met : List Int} (h : Mk n B met) {v : Int} (h0 : 0 ≤ v) (h1 : v < n) : Mk n (B.set v.toNat true) (v :: met) := by
  refine ⟨by rw [List.length_set]; exact h.1, fun u u0 u1 => ?_⟩
  have hl := h.1
  rw [rdOf, List.getD_eq_getElem?_getD, List.getElem?_set]
  by_cases e : v.toNat = u.toNat
  · have : v = u := by omega
    subst this
    rw [if_pos e, if_pos (by omega)]
    simp
  · have : u ≠ v := by omega
    have hh := h.2 u u0 u1
    rw [rdOf, List.getD_eq_getElem?_getD] at hh
    rw [if_neg e, hh]
    simp [this]
end Go.Proofs.Ytpfbommaddaijaa
namespace Go.Proofs.Ytpfbommaddaijaa
open Go.RowKit Go.Proofs.YtpfbommaddaijaaW.PrintWords PBoundNechiporuk
set_option linter.unusedVariables false
set_option linter.unusedSimpArgs false

/-- the places of a block -/
def pl (r : List Int) (i : Nat) : Nat := if i < r.length then (r.getD i 0).toNat else 0
end Go.Proofs.Ytpfbommaddaijaa

namespace Go.Proofs.Ytpfbommaddaijaa
open Go.ChangeShapes Go.WideShapes Go.ChangeAt Go.RowKit Go.Joins Go.Deep Go.Proofs.YtpfbommaddaijaaW.PrintWords
set_option linter.unusedVariables false

section
variable {H : Type} {P : Program}
def Reach (P : Program) (t : TypeId) (d : DataW H) : Prop := ∀ n ∈ DataW.weights P t d, n ≤ reachBytes
theorem reach_each {ts : List TypeId} {ds : List (DataW H)} (h : (DataW.weightsEach P ts ds).all (· ≤ reachBytes) = true) {j : Nat} {t : TypeId} {d : DataW H} (ht : ts[j]? = some t) (hd : ds[j]? = some d) : Reach P t d :=
  fun n hn => of_decide_eq_true (List.all_eq_true.1 h _ (DataW.weights_mem_each ht hd n hn))
theorem reach_field {t tj : TypeId} {fs : Array Field} {parts : List (DataW H)} {d : DataW H} {j : Nat} (h : Reach P t (.agg parts)) (hu : P.underlying t = some (.struct fs)) (ht : (fs.toList.map (·.type))[j]? = some tj) (hd : parts[j]? = some d) : Reach P tj d := fun n hn => by
  refine h n ?_
  simp only [DataW.weights, hu]
  exact DataW.weights_mem_each ht hd n hn
theorem weightsAll_mem' {e : TypeId} : ∀ {l : List (DataW H)} {d : DataW H}, d ∈ l → ∀ n ∈ d.weights P e, n ∈ DataW.weightsAll P e l
  | d' :: r, d, hd, n, hn => by
    simp only [DataW.weightsAll, List.mem_append]
    rcases List.mem_cons.1 hd with rfl | h
    · exact Or.inl hn
    · exact Or.inr (weightsAll_mem' h n hn)
theorem reach_elem {t e : TypeId} {elems spare : List (DataW H)} {d : DataW H} (h : Reach P t (.slice elems spare)) (hu : P.underlying t = some (.slice e)) (hd : d ∈ elems) : Reach P e d := fun n hn => by
  refine h n ?_
  simp only [DataW.weights, hu, List.mem_cons, List.mem_append]
  exact Or.inr (Or.inl (weightsAll_mem' hd n hn))
theorem reach_len {t e : TypeId} {elems spare : List (DataW H)} (h : Reach P t (.slice elems spare)) (hu : P.underlying t = some (.slice e)) : (elems.length + spare.length) * P.bytesOf e ≤ reachBytes := by
  refine h _ ?_
  simp only [DataW.weights, hu, List.mem_cons, true_or]
end

/-- whatever is trodden as a t within the reach is of kind d, of a size Sz -/
structure Opn {α : Type} (P : Program) (t : TypeId) (d : Kd α) (Sz : α → Prop) (N : Nat) : Prop where
  out : ∀ {H : Type} (enc : TypeId × Value → H) (W : World) (base : Nat) (held : Bool) (fuel : Nat) (cs : List Value) (x : DataW H × List MemPlace), fuel ≤ N →
    DataW.trod enc P W base (fun _ => true) held fuel t cs = some x → Reach P t x.1 → ∃ y, d.K W y cs ∧ Sz y
variable {α β : Type} {P : Program}
theorem Opn.int {t : TypeId} {k : IntKind} (ht : P.underlying t = some (.int k)) (N : Nat) : Opn P t (Kd.int k) (fun a => (Lit.int k a).wf = true) N := ⟨fun enc W base held fuel cs x _ h _ => by
  obtain ⟨a, rfl, _, hw⟩ := DataW.trod_int ht h
  exact ⟨a, rfl, hw⟩⟩
theorem Opn.bool {t : TypeId} (ht : P.underlying t = some .bool) (N : Nat) : Opn P t Kd.bool (fun _ => True) N := ⟨fun enc W base held fuel cs x _ h _ => by
  obtain ⟨b, rfl, _⟩ := DataW.trod_bool ht h
  exact ⟨b, rfl, trivial⟩⟩
/-- the size of a slice -/
def SzL (P : Program) (e : TypeId) (Sz : α → Prop) (l : List α) : Prop := l.length * P.bytesOf e ≤ reachBytes ∧ l.length ≤ maxLen ∧ ∀ y ∈ l, Sz y
theorem build {α : Type} : ∀ (n : Nat) (R : Nat → α → Prop), (∀ i, i < n → ∃ y, R i y) → ∃ ys : List α, ys.length = n ∧ ∀ i y, ys[i]? = some y → R i y
  | 0, R, _ => ⟨[], rfl, fun i y h => by simp at h⟩
  | n + 1, R, h => by
    obtain ⟨ys, h1, h2⟩ := build n R fun i hi => h i (by omega)
    obtain ⟨y, hy⟩ := h n (by omega)
    refine ⟨ys ++ [y], by simp [h1], fun i z hz => ?_⟩
    rw [List.getElem?_append] at hz
    split at hz
    · exact h2 i z hz
    · rename_i hi
      have hi2 : i - ys.length < 1 := by have := (List.getElem?_eq_some_iff.1 hz).1; simpa using this
      have : i = n := by omega
      subst this
      rw [show i - ys.length = 0 by omega] at hz
      simp at hz
      rw [← hz]; exact hy
theorem Opn.slice {t e : TypeId} {d : Kd α} {Sz : α → Prop} {N : Nat} (ht : P.underlying t = some (.slice e)) (hc : P.cellsOf e = d.sz) (h : Opn P e d Sz N) : Opn P t (Kd.slice e d) (SzL P e Sz) (N + 1) := by
  refine ⟨?_⟩
  intro H enc W base held fuel cs x hf hx hr
  rcases DataW.trod_slice ht hx with ⟨rfl, rfl⟩ | ⟨a, len, cap, elems, rest, n, rfl, rfl, rfl, hb, hl, hm, hlen, hel, hsp, hns⟩
  · exact ⟨[], ⟨none, 0, rfl, Nat.le_refl _, Kd.C_nil d W⟩, by simp, by simp, fun y hy => by simp at hy⟩
  · have each : ∀ i, i < len → ∃ y c, c.length = d.sz ∧ d.K W y c ∧ Sz y ∧ ∀ j u, c[j]? = some u → W.cell? (a.add (i * d.sz + j)) = some u := by
      intro i hi
      have h1 := hel i hi
      rw [List.getElem?_eq_getElem (by omega)] at h1
      obtain ⟨cs', hc1, hc2⟩ := Option.bind_eq_some_iff.1 h1
      obtain ⟨y, hy, hsz⟩ := h.out enc W base held n cs' _ (by omega) hc2 (reach_elem hr ht (List.mem_map.2 ⟨_, List.getElem_mem (by omega), rfl⟩))
      have hcl := d.K_len hy
      obtain ⟨_, hl2, hcell⟩ := World.cells?_some hc1
      refine ⟨y, cs', hcl, hy, hsz, fun j u hj => ?_⟩
      have hjl : j < cs'.length := (List.getElem?_eq_some_iff.1 hj).1
      have h2 := hcell j (by rw [hc]; omega)
      rw [hj, hc] at h2
      rw [← h2, Addr.add_add]
    obtain ⟨ys, hyl, hy⟩ := build len _ each
    subst hyl
    have hwt := reach_len hr ht
    simp only [List.length_map] at hwt
    refine ⟨ys, ⟨some a, cap, rfl, by omega, rfl, ?_, fun _ => ⟨a, rfl, fun j y hj => ?_⟩⟩, ?_, by omega, fun y hmem => ?_⟩
    · have : maxLen ≤ 9223372036854775807 := by decide
      omega
    · obtain ⟨c, h1, h2, _, h4⟩ := hy j y hj
      exact ⟨c, h1, h2, h4⟩
    · refine Nat.le_trans (Nat.mul_le_mul_right _ ?_) hwt
      omega
    · obtain ⟨i, hi⟩ := List.getElem?_of_mem hmem
      obtain ⟨_, _, _, h3, _⟩ := hy i y hi
      exact h3
theorem Opn.less {t : TypeId} {d : Kd α} {Sz : α → Prop} {M N : Nat} (h : Opn P t d Sz N) (hm : M ≤ N) : Opn P t d Sz M := ⟨fun enc W base held fuel cs x hf => h.out enc W base held fuel cs x (by omega)⟩
/-- the fields of a struct from one on -/
structure OpnF {α : Type} (P : Program) (fs : List Field) (off : Nat) (d : Kd α) (Sz : α → Prop) (N : Nat) : Prop where
  out : ∀ {H : Type} (enc : TypeId × Value → H) (W : World) (base : Nat) (held : Bool) (n : Nat) (cs : List Value) (xs : List (DataW H × List MemPlace)), n ≤ N → cs.length = off + d.sz → xs.length = fs.length →
    (∀ (i : Nat) (f : Field), fs[i]? = some f → DataW.trod enc P W base (fun _ => true) held n f.type ((cs.drop f.offset).take (P.cellsOf f.type)) = xs[i]?) →
    (∀ (i : Nat) (f : Field) (x : DataW H × List MemPlace), fs[i]? = some f → xs[i]? = some x → Reach P f.type x.1) → ∃ y, d.K W y (cs.drop off) ∧ Sz y
theorem OpnF.one {f : Field} {off : Nat} {d : Kd α} {Sz : α → Prop} {N : Nat} (ho : f.offset = off) (hc : P.cellsOf f.type = d.sz) (h : Opn P f.type d Sz N) : OpnF P [f] off d Sz N := by
  refine ⟨?_⟩
  intro H enc W base held n cs xs hn hl hxl hf hr
  match xs, hxl with
  | [x], _ =>
  have h0 := hf 0 f rfl
  rw [ho, hc, List.take_of_length_le (by simp; omega)] at h0
  exact h.out enc W base held n _ x hn h0 (hr 0 f x rfl rfl)
theorem OpnF.cons {f : Field} {fs : List Field} {off : Nat} {a : Kd α} {b : Kd β} {Sa : α → Prop} {Sb : β → Prop} {N : Nat} (ho : f.offset = off) (hc : P.cellsOf f.type = a.sz) (h : Opn P f.type a Sa N) (hr : OpnF P fs (off + a.sz) b Sb N) : OpnF P (f :: fs) off (Kd.pair a b) (fun z => Sa z.1 ∧ Sb z.2) N := by
  refine ⟨?_⟩
  intro H enc W base held n cs xs hn hl hxl hf hre
  match xs, hxl with
  | x :: xs', hxl =>
  have hsz : (Kd.pair a b).sz = a.sz + b.sz := rfl
  have h0 := hf 0 f rfl
  rw [ho, hc] at h0
  obtain ⟨y, hy, hsy⟩ := h.out enc W base held n _ x hn h0 (hre 0 f x rfl rfl)
  obtain ⟨z, hz, hsz2⟩ := hr.out enc W base held n cs xs' hn (by omega) (by simpa using hxl) (fun i g hg => by simpa using hf (i + 1) g (by simpa using hg)) (fun i g x hg hx => hre (i + 1) g x (by simpa using hg) (by simpa using hx))
  refine ⟨(y, z), ⟨_, _, ?_, hy, hz⟩, hsy, hsz2⟩
  rw [← List.drop_drop, List.take_append_drop]
theorem Opn.struct {t : TypeId} {fs : Array Field} {d : Kd α} {Sz : α → Prop} {N : Nat} (ht : P.underlying t = some (.struct fs)) (hc : P.cellsOf t = d.sz) (h : OpnF P fs.toList 0 d Sz N) : Opn P t d Sz (N + 1) := by
  refine ⟨?_⟩
  intro H enc W base held fuel cs x hf hx hr
  obtain ⟨xs, n, rfl, rfl, hl, hxl, hfs⟩ := DataW.trod_struct ht hx
  obtain ⟨y, hy, hs⟩ := h.out enc W base held n cs xs (by omega) (by omega) (by simpa using hxl) (fun i f hi => hfs i f (by simpa using hi)) (fun i f x hi hx => reach_field hr ht (j := i) (by simp at hi ⊢; exact ⟨f, hi, rfl⟩) (by simp at hx ⊢; exact ⟨_, hx⟩))
  exact ⟨y, by simpa using hy, hs⟩
theorem Opn.iso {t : TypeId} {d : Kd α} {Sz : α → Prop} {N : Nat} (h : Opn P t d Sz N) (f : β → α) (g : α → β) (hfg : ∀ z, f (g z) = z) : Opn P t (Kd.iso d f) (fun y => Sz (f y)) N := by
  refine ⟨?_⟩
  intro H enc W base held fuel cs x hf hx hr
  obtain ⟨y, hy, hs⟩ := h.out enc W base held fuel cs x hf hx hr
  exact ⟨g y, by show d.K W (f (g y)) cs; rw [hfg]; exact hy, by show Sz (f (g y)); rw [hfg]; exact hs⟩
end Go.Proofs.Ytpfbommaddaijaa
namespace Go.Proofs.Ytpfbommaddaijaa
open Go.ChangeShapes Go.WideShapes Go.ChangeAt Go.RowKit Go.Joins Go.Deep Go.Proofs.YtpfbommaddaijaaW.PrintWords
set_option linter.unusedVariables false
end Go.Proofs.Ytpfbommaddaijaa

