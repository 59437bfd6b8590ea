/- The least costs as numbers: every function of at most three inputs has a formula; what LeastSize, LeastDepth and Binary answer; Plain: numbers of different functions; the submasks of a mask in rising order; The reference's Functions; The reference's Functions; subfunctions: how many different functions a block has; ; Plain: the printed functions of the law Nechiporuk: wide, lists, Blocks, Floor; Nechiporuk. -/
import Derived.Test.YtpfbommaddaijaaZeKb
import Derived.Test.YtpfbommaddaijaaZeKc
import Derived.Test.YtpfbommaddaijaaZeWWords
import Derived.Test.YtpfbommaddaijaaZeKa
import Derived.Laws.BytesArg
import Derived.StringKeys
import Derived.Laws.ShiftsVarLaws
import Derived.Test.YtpfbommaddaijaaProg
import Derived.Below
import Derived.Deep.Draws
import Derived.Deep.AppendLies
import Derived.Maps.AppendAt
import Derived.OwnWalk
import Derived.Laws.MakeOwn
import Derived.Laws.OwnMore
import Derived.Deep.OwnRows
import Derived.Tactics
import Derived.Lib.ConvBytes
import Derived.Laws.Slices
import Derived.WalkKit
import Derived.KernelRfl
import Derived.RowKit3
import Derived.Deep.LoopGhost
import Derived.Deep.QuietTactic
import Derived.BigQuiet
import Derived.WideLaws
import Derived.Deep.DeepCutAuto
import Derived.Deep.CutBlock
import Derived.Deep.RegionHeld3
import Derived.Laws.Rows
import Derived.Lib.AppendStr
import Derived.ArgAppend
import Derived.Laws.IdiomCopy
import Derived.OrdersHeld
import Derived.Laws.BitsLemmas
import Derived.RowKit
import Derived.Test.YtpfbommaddaijaaZeWLast
import Derived.Test.YtpfbommaddaijaaZeWTab
import Derived.Test.YtpfbommaddaijaaZex04
import Derived.Test.YtpfbommaddaijaaZex05
import Derived.Laws.StructEq
namespace Go.Proofs.Ytpfbommaddaijaa
set_option linter.unusedVariables false
set_option linter.unusedSimpArgs false

section
variable {n M : Nat} {leaf : Int} {xor : Bool} {J : Int → Int → Int}
end
end Go.Proofs.Ytpfbommaddaijaa
namespace Go.Proofs.Ytpfbommaddaijaa
set_option linter.unusedVariables false
set_option linter.unusedSimpArgs false

section
variable {n M : Nat} {E E' : Nat → Ent}
end
end Go.Proofs.Ytpfbommaddaijaa
namespace Go.Proofs.Ytpfbommaddaijaa
set_option linter.unusedVariables false
set_option linter.unusedSimpArgs false

end Go.Proofs.Ytpfbommaddaijaa
namespace Go.Proofs.Ytpfbommaddaijaa
open Go.RowKit Go.Proofs.YtpfbommaddaijaaW.PrintWords
set_option linter.unusedVariables false
set_option linter.unusedSimpArgs false

theorem Bs.congr {w : World} {v : Value} {n : Nat} {f g : Nat → Bool} (h : Bs w v n f) (e : ∀ u, u < n → f u = g u) : Bs w v n g := by
  obtain ⟨a, c, h1, h2, h3, h4, h5⟩ := h.ex
  exact ⟨a, c, h1, h2, h3, h4, fun b hb i hi => by rw [← e i hi]; exact h5 b hb i hi⟩
section
variable {w : World} {v : Value} {n M : Nat} {f : Nat → Bool} {c : Int}
theorem hMe (hM : M + 1 = 2 ^ 2 ^ n) : 2 ^ 2 ^ n - 1 = M := by omega
end
theorem Bs.C {w : World} {a : Option Addr} {n c : Nat} {f : Nat → Bool} (h : Bs w (.slice a n c) n f) : Kd.C Kd.bool w a ((List.range n).map f).length ((List.range n).map f) := by
  obtain ⟨a', c', h1, h2, h3, h4, h5⟩ := h.ex
  cases h1
  have hm : maxLen ≤ 9223372036854775807 := by decide
  refine ⟨rfl, by simp; omega, fun hn => ?_⟩
  simp only [List.length_map, List.length_range] at hn
  obtain ⟨b, rfl⟩ := h4 hn
  refine ⟨b, rfl, fun j p hj => ⟨[.bool p], rfl, rfl, fun i u hu => ?_⟩⟩
  obtain rfl : i = 0 := by have := (List.getElem?_eq_some_iff.1 hu).1; simpa using this
  have hjn : j < n := by have := (List.getElem?_eq_some_iff.1 hj).1; simpa using this
  simp [hjn] at hj
  simp at hu
  subst hu
  subst hj
  have hsz : Kd.bool.sz = 1 := rfl
  rw [hsz, Nat.mul_one, Nat.add_zero]
  exact h5 b rfl j hjn
end Go.Proofs.Ytpfbommaddaijaa

namespace Go.Proofs.Ytpfbommaddaijaa
open Go.Maps
set_option linter.unusedVariables false
set_option linter.unusedSimpArgs false

def msk (l : Nat → Nat) : Nat → Nat
  | 0 => 0
  | i + 1 => msk l i ||| 2 ^ l i
/-- the places that y leaves empty -/
def gap (l : Nat → Nat) (y : Nat) : Nat → Nat
  | 0 => 0
  | i + 1 => gap l y i + (if y.testBit i = true then 0 else 2 ^ l i)
/-- rising -/
def Rise (l : Nat → Nat) (k : Nat) : Prop := ∀ i j, i < j → j < k → l i < l j
theorem Rise.less {l : Nat → Nat} {k j : Nat} (h : Rise l k) (hj : j ≤ k) : Rise l j := fun a b hab hb => h a b hab (by omega)
open Classical in
/-- how many different functions there are among those at the places P below i -/
noncomputable def cnt (P : Nat → Bool) (key : Nat → List Bool) : Nat → Nat
  | 0 => 0
  | i + 1 => if P i = true ∧ ¬ ∃ j, j < i ∧ P j = true ∧ key j = key i then cnt P key i + 1 else cnt P key i
/-- a map whose keys are what has been seen -/
structure Sn (enc : List Bool → List UInt8) (P : Nat → Bool) (key : Nat → List Bool) (i : Nat) (D : DataW Unit) : Prop where
  tidy : Tidy D
  has : ∀ s, has D (.string s) = true ↔ ∃ j, j < i ∧ P j = true ∧ enc (key j) = s
  size : size D = cnt P key i
theorem Sn.start (enc : List Bool → List UInt8) (P : Nat → Bool) (key : Nat → List Bool) : Sn enc P key 0 (.map []) := ⟨tidy_empty, fun s => by simp [Maps.has], rfl⟩
theorem Sn.skip {enc : List Bool → List UInt8} {P : Nat → Bool} {key : Nat → List Bool} {i : Nat} {D : DataW Unit} (h : Sn enc P key i D) (hP : P i = false) : Sn enc P key (i + 1) D where
  tidy := h.tidy
  has s := by
    rw [h.has]
    refine ⟨fun ⟨j, h1, h2⟩ => ⟨j, by omega, h2⟩, fun ⟨j, h1, h2, h3⟩ => ⟨j, ?_, h2, h3⟩⟩
    by_cases e : j = i
    · subst e; rw [hP] at h2; cases h2
    · omega
  size := by rw [h.size, cnt, if_neg (by simp [hP])]
theorem Sn.put {enc : List Bool → List UInt8} (hinj : ∀ a b, enc a = enc b → a = b) {P : Nat → Bool} {key : Nat → List Bool} {i : Nat} {D : DataW Unit} (h : Sn enc P key i D) (hP : P i = true) (d : DataW Unit) : Sn enc P key (i + 1) (D.put (.string (enc (key i))) d) where
  tidy := h.tidy.put (k := .string (enc (key i))) trivial d
  has s := by
    by_cases e : s = enc (key i)
    · subst e
      rw [has_put_same (k := .string (enc (key i))) h.tidy.isMap trivial]
      exact ⟨fun _ => ⟨i, by omega, hP, rfl⟩, fun _ => rfl⟩
    · rw [has_put_other (by intro c; cases c; exact e rfl), h.has]
      refine ⟨fun ⟨j, h1, h2⟩ => ⟨j, by omega, h2⟩, fun ⟨j, h1, h2, h3⟩ => ⟨j, ?_, h2, h3⟩⟩
      by_cases ej : j = i
      · subst ej; exact absurd h3.symm e
      · omega
  size := by
    rw [size_put h.tidy, h.size, cnt]
    by_cases e : Maps.has D (.string (enc (key i))) = true
    · obtain ⟨j, h1, h2, h3⟩ := (h.has _).1 e
      rw [if_pos e, if_neg (fun c => c.2 ⟨j, h1, h2, hinj _ _ h3⟩)]
    · rw [if_neg e, if_pos ⟨hP, fun ⟨j, h1, h2, h3⟩ => e ((h.has _).2 ⟨j, h1, h2, by rw [h3]⟩)⟩]
end Go.Proofs.Ytpfbommaddaijaa
namespace Go.Proofs.Ytpfbommaddaijaa
open Go.RowKit Go.Maps Go.ChangeMaps Go.MapKept
set_option linter.unusedVariables false
set_option linter.unusedSimpArgs false

theorem and_k {a b : Nat} (ha : a < 8192) (hb : b < 8192) : bits BinOp.and .i64 (a : Int) (b : Int) = ((a &&& b : Nat) : Int) := by
  have hx : a &&& b < 2 ^ 13 := Nat.and_lt_two_pow _ (by omega)
  have h1 : (BitVec.ofInt 64 (a : Int)).toNat = a := by
    rw [BitVec.ofInt_natCast, BitVec.toNat_ofNat]; exact Nat.mod_eq_of_lt (by omega)
  have h2 : (BitVec.ofInt 64 (b : Int)).toNat = b := by
    rw [BitVec.ofInt_natCast, BitVec.toNat_ofNat]; exact Nat.mod_eq_of_lt (by omega)
  show IntKind.i64.wrap ((BitVec.ofInt 64 (a : Int) &&& BitVec.ofInt 64 (b : Int)).toNat : Int) = _
  rw [BitVec.toNat_and, h1, h2, IntKind.wrap_i64]
  omega
/-- numbers that are read -/
structure Nm (w : World) (v : Value) (n : Nat) (Z : Nat → Int) : Prop where
  ex : ∃ (a : Option Addr) (cap : Nat), v = .slice a n cap ∧ ∀ i, i < n → ∃ b, a = some b ∧ w.cell? (b.add i) = some (I (Z i))
theorem Nm.shape {w : World} {v : Value} {n : Nat} {Z : Nat → Int} (h : Nm w v n Z) : ∃ a c, v = .slice a n c := by
  obtain ⟨a, c, h1, _⟩ := h.ex
  exact ⟨a, c, h1⟩
theorem Nm.at' {w : World} {a : Option Addr} {n k c : Nat} {Z : Nat → Int} (h : Nm w (.slice a k c) n Z) {i : Nat} (hi : i < n) : ∃ b, a = some b ∧ w.cell? (b.add i) = some (I (Z i)) := by
  obtain ⟨a', c', h1, h2⟩ := h.ex
  cases h1
  exact h2 i hi
theorem Nm.keep {w w' : World} {v : Value} {n : Nat} {Z : Nat → Int} (h : Nm w v n Z) (hb : Below w.heap.size w w') : Nm w' v n Z := by
  obtain ⟨a, c, h1, h2⟩ := h.ex
  exact ⟨a, c, h1, fun i hi => by obtain ⟨b, e, hc⟩ := h2 i hi; exact ⟨b, e, (hb.cell (World.block_lt_of_cell? _ _ hc)).trans hc⟩⟩
/-- is x outside the mask -/
def out (l : Nat → Nat) (k : Nat) (x : Nat) : Bool := x &&& msk l k == 0
theorem shr_one {y i : Nat} : (y / 2 ^ i % 2 = 1) ↔ y.testBit i = true := by rw [Nat.testBit_eq_decide_div_mod_eq, decide_eq_true_iff]
end Go.Proofs.Ytpfbommaddaijaa
namespace Go.Proofs.Ytpfbommaddaijaa
open Go.RowKit Go.Maps Go.ChangeMaps Go.MapKept
set_option linter.unusedVariables false
set_option linter.unusedSimpArgs false

theorem shr_and {y i : Nat} (hy : y < 8192) : bits BinOp.and .i64 ((y : Int) / 2 ^ i) 1 = ((if y.testBit i = true then 1 else 0 : Nat) : Int) := by
  have e : ((y : Int) / 2 ^ i) = ((y / 2 ^ i : Nat) : Int) := by push_cast; rfl
  rw [e, show (1 : Int) = ((1 : Nat) : Int) from rfl, and_k (by have := Nat.div_le_self y (2 ^ i); omega) (by decide), Nat.and_one_is_mod]
  have h2 : y / 2 ^ i % 2 = 0 ∨ y / 2 ^ i % 2 = 1 := by omega
  by_cases h : y.testBit i = true
  · rw [if_pos h, shr_one.2 h]
  · rw [if_neg h]
    rcases h2 with h2 | h2
    · rw [h2]
    · exact absurd (shr_one.1 h2) h
end Go.Proofs.Ytpfbommaddaijaa
namespace Go.Proofs.Ytpfbommaddaijaa
open Go.RowKit Go.Maps Go.ChangeMaps Go.MapKept Go.Proofs.YtpfbommaddaijaaW.PrintWords
set_option linter.unusedVariables false
set_option linter.unusedSimpArgs false

end Go.Proofs.Ytpfbommaddaijaa

namespace Go.Proofs.Ytpfbommaddaijaa.PBoundNechiporuk
open Go.RowKit Go.Proofs.YtpfbommaddaijaaW.PrintWords Go.Proofs.YtpfbommaddaijaaW.PrintLast Go.Proofs.YtpfbommaddaijaaW.PrintMore
attribute [local go_sem] max2_int min2_int max_two min_two max_three min_three max_four min_four   -- for this text's walks alone
set_option linter.unusedVariables false
set_option linter.unusedSimpArgs false



def errW : Option Int → Value
  | none => .nilIface
  | some c => .iface 0 (.int .i64 c)
theorem errW_none : errW none = .nilIface := rfl
theorem errW_some (c : Int) : errW (some c) = .iface 0 (.int .i64 c) := rfl

theorem info4 : (Try.prog.info? 4).map (fun i => (i.zero, i.size, i.bytes)) = some (some (.bool false), 1, 1) := by kernel_rfl
end Go.Proofs.Ytpfbommaddaijaa.PBoundNechiporuk

namespace Go.Proofs.Ytpfbommaddaijaa
open Go.RowKit Go.Proofs.YtpfbommaddaijaaW.PrintWords PBoundNechiporuk
set_option linter.unusedVariables false
set_option linter.unusedSimpArgs false

/-- the marks say what was met -/
def Mk (n : Int) (B : List Bool) (met : List Int) : Prop := (B.length : Int) = n ∧ ∀ v, 0 ≤ v → v < n → rdOf false B v = decide (v ∈ met)
theorem Mk.set {n : Int} {B : List Bool} {met : List Int} (h : Mk n B met) {v : Int} (h0 : 0 ≤ v) (h1 : v < n) : Mk n (B.set v.toNat true) (v :: met) := by
  refine ⟨by rw [List.length_set]; exact h.1, fun u u0 u1 => ?_⟩
  have hl := h.1
  rw [rdOf, List.getD_eq_getElem?_getD, List.getElem?_set]
  by_cases e : v.toNat = u.toNat
  · have : v = u := by omega
    subst this
    rw [if_pos e, if_pos (by omega)]
    simp
  · have : u ≠ v := by omega
    have hh := h.2 u u0 u1
    rw [rdOf, List.getD_eq_getElem?_getD] at hh
    rw [if_neg e, hh]
    simp [this]
end Go.Proofs.Ytpfbommaddaijaa
namespace Go.Proofs.Ytpfbommaddaijaa
open Go.RowKit Go.Proofs.YtpfbommaddaijaaW.PrintWords PBoundNechiporuk
set_option linter.unusedVariables false
set_option linter.unusedSimpArgs false

/-- the places of a block -/
def pl (r : List Int) (i : Nat) : Nat := if i < r.length then (r.getD i 0).toNat else 0
end Go.Proofs.Ytpfbommaddaijaa

