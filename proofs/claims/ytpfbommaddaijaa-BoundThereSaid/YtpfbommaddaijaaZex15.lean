/- Formulas of any shape: what they count, and what formula's node and walk answer; . -/
import Derived.Test.YtpfbommaddaijaaZePa
import Derived.Test.YtpfbommaddaijaaProg
import Derived.Below
import Derived.Deep.Draws
import Derived.Deep.AppendLies
import Derived.Maps.AppendAt
import Derived.OwnWalk
import Derived.Laws.BytesArg
import Derived.Laws.MakeOwn
import Derived.Laws.OwnMore
import Derived.Deep.OwnRows
import Derived.Tactics
import Derived.Lib.ConvBytes
import Derived.Laws.Slices
import Derived.WalkKit
import Derived.KernelRfl
import Derived.RowKit3
import Derived.Deep.LoopGhost
import Derived.Deep.QuietTactic
import Derived.BigQuiet
import Derived.WideLaws
import Derived.Deep.DeepCutAuto
import Derived.Deep.CutBlock
import Derived.Deep.RegionHeld3
import Derived.Laws.Rows
import Derived.Lib.AppendStr
import Derived.ArgAppend
import Derived.Laws.IdiomCopy
import Derived.OrdersHeld
import Derived.Laws.BitsLemmas
import Derived.RowKit
import Derived.Test.YtpfbommaddaijaaZeWWords
import Derived.Test.YtpfbommaddaijaaZeWLast
import Derived.Test.YtpfbommaddaijaaZeWTab
import Derived.Test.YtpfbommaddaijaaZex04
import Derived.Test.YtpfbommaddaijaaZex05
import Derived.Laws.StructEq
namespace Go.Proofs.Ytpfbommaddaijaa
open Go.RowKit Go.Proofs.YtpfbommaddaijaaW.PrintWords Go.Proofs.YtpfbommaddaijaaW.PrintLast PBoundTo
set_option linter.unusedVariables false
set_option linter.unusedSimpArgs false

/-- a node is right by itself -/
def nok (k n len : Int) : Bool :=
  if k = 0 then decide (0 ≤ n) && decide (n < 16) && len == 0
  else if k = 1 then (n == 0 || n == 1) && len == 0
  else if k = 2 then n == 0 && len == 1
  else if k = 3 ∨ k = 4 ∨ k = 5 then n == 0 && len == 2
  else false
def cost (k : Int) : Nat := if k = 3 ∨ k = 4 then 1 else if k = 5 then 2 else 0
mutual
def fnd : S24 → Nat
  | ⟨_, _, kids⟩ => 1 + fndL kids
def fndL : List S24 → Nat
  | [] => 0
  | x :: r => fnd x + fndL r
end
mutual
/-- how deep it is nested -/
def fns : S24 → Nat
  | ⟨_, _, kids⟩ => 1 + fnsL kids
def fnsL : List S24 → Nat
  | [] => 0
  | x :: r => max (fns x) (fnsL r)
end
mutual
def fsz : S24 → Nat
  | ⟨_, _, []⟩ => 1
  | ⟨_, _, x :: r⟩ => fsz x + fszL r
def fszL : List S24 → Nat
  | [] => 0
  | x :: r => fsz x + fszL r
end
mutual
def fdp : S24 → Nat
  | ⟨k, _, kids⟩ => fdpL kids + cost k
def fdpL : List S24 → Nat
  | [] => 0
  | x :: r => max (fdp x) (fdpL r)
end
mutual
def fin : S24 → Int
  | ⟨k, n, kids⟩ => max (if k = 0 then n + 1 else 0) (finL kids)
def finL : List S24 → Int
  | [] => -9223372036854775808
  | x :: r => max (fin x) (finL r)
end
mutual
def fsh : S24 → Bool
  | ⟨k, n, kids⟩ => nok k n kids.length && fshL kids
def fshL : List S24 → Bool
  | [] => true
  | x :: r => fsh x && fshL r
end
theorem fnd_eq (x : S24) : fnd x = 1 + fndL x.f2 := by cases x; rw [fnd]
theorem fns_eq (x : S24) : fns x = 1 + fnsL x.f2 := by cases x; rw [fns]
theorem fdp_eq (x : S24) : fdp x = fdpL x.f2 + cost x.f0 := by cases x; rw [fdp]
theorem fin_eq (x : S24) : fin x = max (if x.f0 = 0 then x.f1 + 1 else 0) (finL x.f2) := by cases x; rw [fin]
theorem fsh_eq (x : S24) : fsh x = (nok x.f0 x.f1 x.f2.length && fshL x.f2) := by cases x; rw [fsh]
theorem fsz_leaf (x : S24) (h : x.f2 = []) : fsz x = 1 := by obtain ⟨k, n, kids⟩ := x; simp only at h; subst h; rw [fsz]
theorem fsz_node (x : S24) (h : 0 < x.f2.length) : fsz x = fszL x.f2 := by
  obtain ⟨k, n, kids⟩ := x
  cases kids with
  | nil => exact absurd h (by simp)
  | cons y r => rw [fsz, fszL]
theorem fL_nil : fndL [] = 0 ∧ fnsL [] = 0 ∧ fszL [] = 0 ∧ fdpL [] = 0 ∧ fshL [] = true := by rw [fndL, fnsL, fszL, fdpL, fshL]; simp
theorem fL_cons (x : S24) (r : List S24) : fndL (x :: r) = fnd x + fndL r ∧ fnsL (x :: r) = max (fns x) (fnsL r) ∧ fszL (x :: r) = fsz x + fszL r ∧ fdpL (x :: r) = max (fdp x) (fdpL r) ∧ finL (x :: r) = max (fin x) (finL r) ∧ fshL (x :: r) = (fsh x && fshL r) := by
  rw [fndL, fnsL, fszL, fdpL, finL, fshL]; simp
theorem fdrop (l : List S24) (i : Nat) (h : i < l.length) : l.drop i = rd_T24 l i :: l.drop (i + 1) := by
  rw [List.drop_eq_getElem_cons h]
  congr 1
  simp [rd_T24, List.getD, h]
/-- a child is less nested -/
theorem fns_kid (l : List S24) (i : Nat) (h : i < l.length) : fns (rd_T24 l i) ≤ fnsL l := by
  have key : ∀ (l : List S24) (i : Nat), fnsL (l.drop i) ≤ fnsL l := by
    intro l
    induction l with
    | nil => intro i; simp
    | cons x r ih =>
      intro i
      cases i with
      | zero => simp
      | succ i => have := ih i; rw [List.drop_succ_cons, (fL_cons x r).2.1]; omega
  have := key l i
  rw [fdrop l i h, (fL_cons _ _).2.1] at this
  omega
set_option maxHeartbeats 4000000 in
theorem node_any {W : World} (k n : Int) (A : Option Addr) (len c : Nat) : Calls Try.prog 152 #[.agg #[I k, I n, .slice A len c]] W fun e W' => e = .returned (.bool (nok k n len)) ∧ Below W.heap.size W W' := by
  unfold nok
  have hb : Below W.heap.size W (W.alloc (.cells #[I k, I n, .slice A len c] 24)) := (Below.refl _ _).alloc (Nat.le_refl _) _
  have HB := Lib.hid hb
  clear hb
  by_cases h0 : k = 0
  · subst h0
    rw [if_pos rfl]
    cases e1 : decide (0 ≤ n) <;> cases e2 : decide (n < 16) <;> cases e3 : ((len : Int) == 0)
    all_goals
      go_enter Try.func152, Try.ntmps152
      go_wp2
      go_ret
      exact ⟨rfl, HB.out⟩
  by_cases h1 : k = 1
  · subst h1
    rw [if_neg (by decide), if_pos rfl]
    cases e1 : (n == 0) <;> cases e2 : (n == 1) <;> cases e3 : ((len : Int) == 0)
    all_goals
      go_enter Try.func152, Try.ntmps152
      go_wp2
      go_ret
      exact ⟨rfl, HB.out⟩
  by_cases h2 : k = 2
  · subst h2
    rw [if_neg (by decide), if_neg (by decide), if_pos rfl]
    cases e1 : (n == 0) <;> cases e3 : ((len : Int) == 1)
    all_goals
      go_enter Try.func152, Try.ntmps152
      go_wp2
      go_ret
      exact ⟨rfl, HB.out⟩
  by_cases h3 : k = 3 ∨ k = 4 ∨ k = 5
  · rw [if_neg h0, if_neg h1, if_neg h2, if_pos h3]
    cases e1 : (n == 0) <;> cases e3 : ((len : Int) == 2)
    all_goals
      rcases h3 with rfl | rfl | rfl
      all_goals
        go_enter Try.func152, Try.ntmps152
        go_wp2
        go_ret
        exact ⟨rfl, HB.out⟩
  · rw [if_neg h0, if_neg h1, if_neg h2, if_neg h3]
    have d0 : (k == 0) = false := beq_eq_false_iff_ne.2 h0
    have d1 : (k == 1) = false := beq_eq_false_iff_ne.2 h1
    have d2 : (k == 2) = false := beq_eq_false_iff_ne.2 h2
    have d3 : (k == 3) = false := beq_eq_false_iff_ne.2 (fun e => h3 (.inl e))
    have d4 : (k == 4) = false := beq_eq_false_iff_ne.2 (fun e => h3 (.inr (.inl e)))
    have d5 : (k == 5) = false := beq_eq_false_iff_ne.2 (fun e => h3 (.inr (.inr e)))
    clear h0 h1 h2 h3
    go_enter Try.func152, Try.ntmps152
    go_wp2
    go_ret
    exact ⟨rfl, HB.out⟩
end Go.Proofs.Ytpfbommaddaijaa

namespace Go.Proofs.Ytpfbommaddaijaa.PCopy
open Go.RowKit Go.Proofs.YtpfbommaddaijaaW.PrintWords Go.Proofs.YtpfbommaddaijaaW.PrintLast Go.Proofs.YtpfbommaddaijaaW.PrintMore
attribute [local go_sem] max2_int min2_int max_two min_two max_three min_three max_four min_four   -- for this text's walks alone
set_option linter.unusedVariables false
set_option linter.unusedSimpArgs false



def errW : Option Int → Value
  | none => .nilIface
  | some c => .iface 0 (.int .i64 c)
theorem errW_none : errW none = .nilIface := rfl
theorem errW_some (c : Int) : errW (some c) = .iface 0 (.int .i64 c) := rfl

theorem info4 : (Try.prog.info? 4).map (fun i => (i.zero, i.size, i.bytes)) = some (some (.bool false), 1, 1) := by kernel_rfl
/-! #### struct type 32, nested in itself -/
structure S32 where
  f0 : Bool
  f1 : Int
  f2 : Int
  f3 : (List Bool)
  f4 : (List S32)
def z32 : S32 := ⟨false, (0 : Int), (0 : Int), ([] : List Bool), ([] : List S32)⟩
def F32 (d : Kd S32) : Kd S32 := Kd.iso (Kd.pair Kd.bool (Kd.pair (Kd.int .i64) (Kd.pair (Kd.int .i64) (Kd.pair (Kd.slice 4 Kd.bool) (Kd.slice 32 d))))) (fun x : S32 => (x.f0, x.f1, x.f2, x.f3, x.f4))
theorem mono32 : Kd.Mono F32 := Kd.mono_iso _ (Kd.mono_pair (Kd.mono_const _) (Kd.mono_pair (Kd.mono_const _) (Kd.mono_pair (Kd.mono_const _) (Kd.mono_pair (Kd.mono_const _) (Kd.mono_slice 32 Kd.mono_id)))))
theorem sub32 : Kd.Sub F32 [4, 32] := Kd.sub_iso _ (Kd.sub_pair (Kd.sub_const _ (by decide)) (Kd.sub_pair (Kd.sub_const _ (by decide)) (Kd.sub_pair (Kd.sub_const _ (by decide)) (Kd.sub_pair (Kd.sub_const _ (by decide)) (Kd.sub_slice 32 (by decide) Kd.sub_id)))))
theorem sz32 : ∀ n, (Kd.upto F32 5 [4, 32] n).sz = 5 := Kd.upto_sz (fun _ => rfl)
def k32 : Kd S32 := Kd.fix F32 5 [4, 32] sz32 (Kd.upto_E sub32)
theorem k32_open {w : World} {x : S32} {cs : List Value} (h : k32.K w x cs) : ∃ A3 c3 A4 c4, cs = [.bool x.f0, .int .i64 x.f1, .int .i64 x.f2, .slice A3 x.f3.length c3, .slice A4 x.f4.length c4] ∧ x.f3.length ≤ c3 ∧ Kd.bool.C w A3 x.f3.length x.f3 ∧ x.f4.length ≤ c4 ∧ k32.C w A4 x.f4.length x.f4 := by
  obtain ⟨n, h⟩ := h
  cases n with
  | zero => exact h.elim
  | succ n =>
    obtain ⟨_, _, rfl, rfl, ⟨_, _, rfl, rfl, ⟨_, _, rfl, rfl, ⟨_, _, rfl, ⟨A3, c3, rfl, l3, g3⟩, ⟨A4, c4, rfl, l4, g4⟩⟩⟩⟩⟩ := h
    exact ⟨A3, c3, A4, c4, rfl, l3, g3, l4, Kd.fix_C g4⟩
theorem k32_openM {w : World} {base : Nat} {ok : Nat → Prop} {x : S32} {cs : List Value} (h : k32.M w base ok x cs) : ∃ v3 v4, cs = [.bool x.f0, .int .i64 x.f1, .int .i64 x.f2, v3, v4] ∧ Kd.bool.R 4 w base ok v3 x.f3 ∧ k32.R 32 w base ok v4 x.f4 := by
  obtain ⟨n, h⟩ := h
  cases n with
  | zero => exact h.elim
  | succ n =>
    obtain ⟨_, _, rfl, rfl, ⟨_, _, rfl, rfl, ⟨_, _, rfl, rfl, ⟨_, _, rfl, ⟨v3, rfl, g3⟩, ⟨v4, rfl, g4⟩⟩⟩⟩⟩ := h
    exact ⟨v3, v4, rfl, g3, Kd.fix_R g4⟩
theorem k32_mk (w : World) (x : S32) {A3 : Option Addr} {c3 : Nat} (l3 : x.f3.length ≤ c3) (g3 : Kd.bool.C w A3 x.f3.length x.f3) {A4 : Option Addr} {c4 : Nat} (l4 : x.f4.length ≤ c4) (g4 : k32.C w A4 x.f4.length x.f4) : k32.K w x [.bool x.f0, .int .i64 x.f1, .int .i64 x.f2, .slice A3 x.f3.length c3, .slice A4 x.f4.length c4] := by
  obtain ⟨n4, q4⟩ := Kd.fix_C_back mono32 g4
  have r4 := Kd.upto_C_le mono32 sz32 (show n4 ≤ n4 by omega) q4
  exact ⟨n4 + 1, ⟨[.bool x.f0], [.int .i64 x.f1, .int .i64 x.f2, .slice A3 x.f3.length c3, .slice A4 x.f4.length c4], rfl, rfl, ⟨[.int .i64 x.f1], [.int .i64 x.f2, .slice A3 x.f3.length c3, .slice A4 x.f4.length c4], rfl, rfl, ⟨[.int .i64 x.f2], [.slice A3 x.f3.length c3, .slice A4 x.f4.length c4], rfl, rfl, ⟨[.slice A3 x.f3.length c3], [.slice A4 x.f4.length c4], rfl, ⟨A3, c3, rfl, l3, g3⟩, ⟨A4, c4, rfl, l4, r4⟩⟩⟩⟩⟩⟩
def rd_T32 (xs : List S32) (i : Int) : S32 := xs.getD i.toNat z32
theorem at_T32 {w : World} {A : Option Addr} {n : Nat} {xs : List S32} (h : Kd.C k32 w A n xs) (i : Int) (h0 : 0 ≤ i) (h1 : i < n) : ∃ ad A3 c3 A4 c4, A = some ad ∧ w.cell? (ad.add (i.toNat * 5)) = some (.bool (rd_T32 xs i).f0) ∧ w.cell? ⟨(ad.add (i.toNat * 5)).block, (ad.add (i.toNat * 5)).off + 1, none⟩ = some (.int .i64 (rd_T32 xs i).f1) ∧ w.cell? ⟨(ad.add (i.toNat * 5)).block, (ad.add (i.toNat * 5)).off + 2, none⟩ = some (.int .i64 (rd_T32 xs i).f2) ∧ w.cell? ⟨(ad.add (i.toNat * 5)).block, (ad.add (i.toNat * 5)).off + 3, none⟩ = some (.slice A3 (rd_T32 xs i).f3.length c3) ∧ w.cell? ⟨(ad.add (i.toNat * 5)).block, (ad.add (i.toNat * 5)).off + 4, none⟩ = some (.slice A4 (rd_T32 xs i).f4.length c4) ∧ (rd_T32 xs i).f3.length ≤ c3 ∧ Kd.bool.C w A3 (rd_T32 xs i).f3.length (rd_T32 xs i).f3 ∧ (rd_T32 xs i).f4.length ≤ c4 ∧ k32.C w A4 (rd_T32 xs i).f4.length (rd_T32 xs i).f4 := by
  obtain ⟨ad, c, e, _, hK, hc0⟩ := Kd.C_get h z32 i h0 h1
  have hc : ∀ j u, c[j]? = some u → w.cell? (ad.add (i.toNat * 5 + j)) = some u := hc0
  obtain ⟨A3, c3, A4, c4, rfl, l3, g3, l4, g4⟩ := k32_open hK
  exact ⟨ad, A3, c3, A4, c4, e, hc 0 _ rfl, by rw [← add_field _ _ 1 (by omega)]; exact hc 1 _ rfl, by rw [← add_field _ _ 2 (by omega)]; exact hc 2 _ rfl, by rw [← add_field _ _ 3 (by omega)]; exact hc 3 _ rfl, by rw [← add_field _ _ 4 (by omega)]; exact hc 4 _ rfl, l3, g3, l4, g4⟩

end Go.Proofs.Ytpfbommaddaijaa.PCopy

