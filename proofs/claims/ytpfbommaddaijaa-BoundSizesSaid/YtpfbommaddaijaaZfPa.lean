/- Protocols as trees, their weight and height; what Heavy answers; What the reference's shape and Valid answer on any protocol; What the reference's Valid answers on any protocol that is not too heavy; Plain: protocols as binary trees; the law of Karchmer and Wigderson: a protocol that solves a table gives a formula that is no deeper; What the reference's Execute, Solves and Depth answer on protocols; The law BoundGames: the walk; Trees that came in, opened: protocols and formulas. -/
import Derived.Test.YtpfbommaddaijaaZfKa
import Derived.Test.YtpfbommaddaijaaZfPBoundTox0
import Derived.Test.YtpfbommaddaijaaZfLq
import Derived.Test.YtpfbommaddaijaaZfN1
import Derived.Test.YtpfbommaddaijaaZfKc
import Derived.Test.YtpfbommaddaijaaZfKq
namespace Go.Proofs.Ytpfbommaddaijaa
open Go.RowKit Go.Proofs.YtpfbommaddaijaaW.PrintWords Go.Proofs.YtpfbommaddaijaaW.PrintLast PBoundTo
set_option linter.unusedVariables false
set_option linter.unusedSimpArgs false

mutual
def wg : S32 → Nat
  | ⟨_, _, _, ask, kids⟩ => 1 + ask.length / 16 + wgL kids
def wgL : List S32 → Nat
  | [] => 0
  | x :: r => wg x + wgL r
end
mutual
def hg : S32 → Nat
  | ⟨_, _, _, _, kids⟩ => hgL kids
def hgL : List S32 → Nat
  | [] => 0
  | x :: r => max (1 + hg x) (hgL r)
end
theorem hg_eq (x : S32) : hg x = hgL x.f4 := by cases x; rw [hg]
theorem hgL_cons (x : S32) (r : List S32) : hgL (x :: r) = max (1 + hg x) (hgL r) := by rw [hgL]
theorem hgL_nil : hgL [] = 0 := by rw [hgL]
/-- too heavy -/
def hv (N L : Nat) (x : S32) : Bool := !(decide (N + wg x ≤ 400000) && decide (L + hg x ≤ 70))
theorem wr_lt {i n : Nat} (h : i < n) (hn : n ≤ 9223372036854775807) : wrap64 ((i : Int) + 1) = ((i + 1 : Nat) : Int) := by unfold wrap64; omega
theorem meas {n i : Nat} {x : Int} (hx : x = ((i + 1 : Nat) : Int)) (h : i < n) : n - (intOf (I x)).toNat < n - (intOf (I (i : Int))).toNat := by
  subst hx
  simp [intOf]
  omega
theorem cell_keep' {w w' : World} (hb : Below w.heap.size w w') {a : Addr} {v : Value} (h : w.cell? a = some v) : w'.cell? a = some v := (hb.cell (World.block_lt_of_cell? _ _ h)).trans h
end Go.Proofs.Ytpfbommaddaijaa
namespace Go.Proofs.Ytpfbommaddaijaa
open Go.RowKit Go.Proofs.YtpfbommaddaijaaW.PrintWords Go.Proofs.YtpfbommaddaijaaW.PrintLast PBoundTo
set_option linter.unusedVariables false
set_option linter.unusedSimpArgs false

/-- worlds behind calls that make memory alone -/
structure Ext (w : World) where
  val : World
  ok : Below w.heap.size w val
instance (w : World) : Nonempty (Ext w) := ⟨⟨w, Below.refl _ _⟩⟩
theorem Ext.call {f : FuncId} {args : Array Value} {v : Value} {w : World} (x : Ext w) (h : Calls Try.prog f args x.val fun e w' => e = .returned v ∧ Below x.val.heap.size x.val w') : Calls Try.prog f args x.val fun e w'' => e = .returned v ∧ ∃ y : Ext w, w'' = y.val :=
  h.mono fun _ w'' ⟨he, hb⟩ => ⟨he, ⟨w'', x.ok.trans (hb.mono x.ok.size)⟩, rfl⟩
theorem Ext.cell {w : World} (x : Ext w) {a : Addr} {v : Value} (h : w.cell? a = some v) : x.val.cell? a = some v := cell_keep' x.ok h

mutual
def shp (n : Nat) : S32 → Bool
  | ⟨lf, v, pl, ask, kids⟩ => if lf = true then decide (0 ≤ v) && decide (v < n) && pl == 0 && (ask.length : Int) == 0 && (kids.length : Int) == 0 else v == 0 && (pl == 0 || pl == 1) && (ask.length : Int) == ((2 ^ n : Nat) : Int) && (kids.length : Int) == 2 && shpL n kids
def shpL (n : Nat) : List S32 → Bool
  | [] => true
  | x :: r => shp n x && shpL n r
end
theorem w2 (n : Nat) (h : n ≤ 12) : wrap64 ((2 : Int) ^ n) = ((2 ^ n : Nat) : Int) := w2i n (by omega)
end Go.Proofs.Ytpfbommaddaijaa
namespace Go.Proofs.Ytpfbommaddaijaa
open Go.RowKit Go.Proofs.YtpfbommaddaijaaW.PrintWords Go.Proofs.YtpfbommaddaijaaW.PrintLast PBoundTo
set_option linter.unusedVariables false
set_option linter.unusedSimpArgs false

mutual
def nd : S32 → Nat
  | ⟨_, _, _, _, kids⟩ => 1 + ndL kids
def ndL : List S32 → Nat
  | [] => 0
  | x :: r => nd x + ndL r
end
end Go.Proofs.Ytpfbommaddaijaa
namespace Go.Proofs.Ytpfbommaddaijaa
open PBoundTo
set_option linter.unusedVariables false
set_option linter.unusedSimpArgs false

inductive Pt where
  | leaf (v : Int)
  | node (pl : Int) (ask : List Bool) (l r : Pt)
def Pt.toS : Pt → S32
  | .leaf v => ⟨true, v, 0, [], []⟩
  | .node pl ask l r => ⟨false, 0, pl, ask, [l.toS, r.toS]⟩
def Pt.ok (n : Nat) : Pt → Prop
  | .leaf v => 0 ≤ v ∧ v < n
  | .node pl ask l r => (pl = 0 ∨ pl = 1) ∧ ask.length = 2 ^ n ∧ l.ok n ∧ r.ok n
def Pt.dep : Pt → Nat
  | .leaf _ => 0
  | .node _ _ l r => 1 + max l.dep r.dep
def Pt.run (x y : Nat) : Pt → Int
  | .leaf v => v
  | .node pl ask l r => if ask.getD (if pl = 1 then y else x) false = true then r.run x y else l.run x y
theorem Pt.hg : ∀ t : Pt, hg t.toS = t.dep
  | .leaf v => by rw [Pt.toS, hg_eq, hgL_nil]; rfl
  | .node pl ask l r => by rw [Pt.toS, hg_eq, hgL_cons, hgL_cons, hgL_nil, l.hg, r.hg]; simp only [Pt.dep]; omega
theorem lf_testBit {n : Nat} (hn : n ≤ 3) {v x : Nat} (hv : v < n) (hx : x < 2 ^ n) : (lf v (2 ^ n)).testBit x = x.testBit v := by
  have key : ∀ (n : Fin 4) (v : Fin 3) (x : Fin 8), v.val < n.val → x.val < 2 ^ n.val → (lf v.val (2 ^ n.val)).testBit x.val = x.val.testBit v.val := by decide +kernel
  have h8 : x < 8 := Nat.lt_of_lt_of_le hx (Nat.le_trans (Nat.pow_le_pow_right (by decide) hn) (by decide))
  exact key ⟨n, by omega⟩ ⟨v, by omega⟩ ⟨x, h8⟩ hv hx
section
variable {n M : Nat}
end
end Go.Proofs.Ytpfbommaddaijaa
namespace Go.Proofs.Ytpfbommaddaijaa
open Go.RowKit Go.Proofs.YtpfbommaddaijaaW.PrintWords Go.Proofs.YtpfbommaddaijaaW.PrintLast Go.Proofs.YtpfbommaddaijaaW.PrintMore PBoundTo
set_option linter.unusedVariables false
set_option linter.unusedSimpArgs false

section
variable {n : Nat} {t : Pt} {l : List Bool}
end
end Go.Proofs.Ytpfbommaddaijaa
namespace Go.Proofs.Ytpfbommaddaijaa
open Go.RowKit Go.Proofs.YtpfbommaddaijaaW.PrintWords Go.Proofs.YtpfbommaddaijaaW.PrintLast Go.Proofs.YtpfbommaddaijaaW.PrintMore PBoundTo
set_option linter.unusedVariables false
set_option linter.unusedSimpArgs false

end Go.Proofs.Ytpfbommaddaijaa
namespace Go.Proofs.Ytpfbommaddaijaa
open Go.ChangeShapes Go.WideShapes Go.ChangeAt Go.RowKit Go.Joins Go.Deep Go.Proofs.YtpfbommaddaijaaW.PrintWords PBoundTo
set_option linter.unusedVariables false

theorem Opn.any {α : Type} {P : Program} {t : TypeId} {d : Kd α} {Sz : α → Prop} {N : Nat} (h : Opn P t d Sz N) : Opn P t d (fun _ => True) N := ⟨fun enc W base held fuel cs x hf hx hr => by
  obtain ⟨y, hy, _⟩ := h.out enc W base held fuel cs x hf hx hr
  exact ⟨y, hy, trivial⟩⟩
theorem Opn.none {α : Type} {P : Program} {t : TypeId} {d : Kd α} {Sz : α → Prop} : Opn P t d Sz 0 := ⟨fun enc W base held fuel cs x hf hx hr => by
  have : fuel = 0 := by omega
  subst this
  simp [DataW.trod] at hx⟩
theorem Try.cells24 : Try.prog.cellsOf 24 = 3 := by kernel_rfl
theorem Try.cells22 : Try.prog.cellsOf 22 = 1 := by kernel_rfl
theorem opn24 : ∀ N, Opn Try.prog 24 (Kd.upto F24 3 [24] N) (fun _ => True) N
  | 0 => Opn.none
  | N + 1 => by
    have h22 : Opn Try.prog 22 (Kd.slice 24 (Kd.upto F24 3 [24] N)) _ N := (Opn.slice Try.underlying22 (Try.cells24.trans (sz24 N).symm) (opn24 N)).less (Nat.le_succ N)
    have h := Opn.struct (d := Kd.pair (Kd.int .i64) (Kd.pair (Kd.int .i64) (Kd.slice 24 (Kd.upto F24 3 [24] N)))) Try.underlying24 Try.cells24
      (OpnF.cons (off := 0) rfl Try.cells3 (Opn.int Try.underlying3 N) (OpnF.cons rfl Try.cells3 (Opn.int Try.underlying3 N) (OpnF.one rfl Try.cells22 h22)))
    exact (h.iso (fun x : S24 => (x.f0, x.f1, x.f2)) (fun z => ⟨z.1, z.2.1, z.2.2⟩) (fun z => rfl)).any
/-- a formula that came in, at the row -/
theorem open_form {H : Type} {enc : TypeId × Value → H} {W : World} {base fuel : Nat} {held : Bool} {cs : List Value} {x : DataW H} {ps : List MemPlace} {ts : List TypeId} {ds : List (DataW H)} {j : Nat}
    (hx : DataW.trod enc Try.prog W base (fun _ => true) held fuel 24 cs = some (x, ps)) (hsz : (DataW.weightsEach Try.prog ts ds).all (· ≤ reachBytes) = true) (ht : ts[j]? = some 24) (hd : ds[j]? = some x) :
    ∃ (y : S24) (A2 : Option Addr) (c2 : Nat), cs = [.int .i64 y.f0, .int .i64 y.f1, .slice A2 y.f2.length c2] ∧ y.f2.length ≤ c2 ∧ k24.C W A2 y.f2.length y.f2 := by
  obtain ⟨y, hy, _⟩ := (opn24 fuel).out enc W base held fuel _ _ (Nat.le_refl _) hx (reach_each hsz ht hd)
  obtain ⟨A2, c2, h⟩ := k24_open (x := y) ⟨fuel, hy⟩
  exact ⟨y, A2, c2, h⟩
end Go.Proofs.Ytpfbommaddaijaa

