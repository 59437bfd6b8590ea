/- Graphs made of rows: plain; and such a graph in memory, to which a node is appended. -/
import Derived.Test.YtihpdmchppcbfaaTw
namespace Go.Proofs.Ytihpdmchppcbfaa
open Go.RowKit
set_option linter.unusedVariables false
set_option linter.unusedSimpArgs false

/-- a row of m nodes behind l: node j has the nodes b + by*j and the one behind it before it -/
def gr (by' : Int) (l : List (Option Int)) (b : Int) (m : Nat) : List (Option Int) := l ++ (List.range m).map fun (j : Nat) => some (b + by' * (j : Int))
def gen (nx : Nat → Nat) (by' : Int) : Nat → List (Option Int) → Int → Nat → List (Option Int)
  | 0, l, _, _ => l
  | k + 1, l, b, n => if nx n = 0 then l else gen nx by' k (gr by' l b (nx n)) (b + n) (nx n)
theorem gr_len (by' : Int) (l : List (Option Int)) (b : Int) (m : Nat) : (gr by' l b m).length = l.length + m := by simp [gr]
theorem gr_zero (by' : Int) (l : List (Option Int)) (b : Int) : gr by' l b 0 = l := by simp [gr]
theorem gr_succ (by' : Int) (l : List (Option Int)) (b : Int) (m : Nat) : gr by' l b (m + 1) = gr by' l b m ++ [some (b + by' * (m : Int))] := by
  simp [gr, List.range_succ]
theorem gen_le (nx : Nat → Nat) (by' : Int) : ∀ k l b n, l.length ≤ (gen nx by' k l b n).length
  | 0, l, b, n => Nat.le_refl _
  | k + 1, l, b, n => by
    simp only [gen]
    split
    · exact Nat.le_refl _
    · exact Nat.le_trans (by rw [gr_len]; omega) (gen_le nx by' k _ _ _)

def Lg (l : List (Option Int)) (r : Nat) : Nat := if (l.getD r none).isSome then 2 else 0
def Zg (l : List (Option Int)) (r c : Nat) : Int := (l.getD r none).getD 0 + c
theorem getD_app {l : List (Option Int)} {o : Option Int} {r : Nat} (h : r < l.length) : (l ++ [o]).getD r none = l.getD r none := by
  simp [List.getD, List.getElem?_append_left h]
theorem getD_end (l : List (Option Int)) (o : Option Int) : (l ++ [o]).getD l.length none = o := by simp [List.getD]
/-- the graph l in memory of the call's own -/
def Gp (B : Nat) (wr : World) (v : Value) (l : List (Option Int)) : Prop := ∃ V, Cp B wr v l.length V (Lg l) (Zg l)
theorem Gp.shape {B : Nat} {wr : World} {v : Value} {l : List (Option Int)} (h : Gp B wr v l) : ∃ a c, v = .slice a l.length c := by
  obtain ⟨V, h⟩ := h
  exact own_shape h.outer
theorem Gp.alloc {B : Nat} {wr : World} {v : Value} {l : List (Option Int)} (h : Gp B wr v l) (o : Obj) : Gp B (wr.alloc o) v l := by
  obtain ⟨V, h⟩ := h
  exact ⟨V, h.alloc o⟩
theorem Gp.nil (B : Nat) (wr : World) : Gp B wr (.slice none 0 0) [] := ⟨fun _ => undef, Cp.zero _ _ _ _ _⟩
theorem Gp.dg {B : Nat} {wr : World} {v : Value} {l : List (Option Int)} (h : Gp B wr v l) (hl : l.length ≤ 2000) : ∃ A C, Dg wr v l.length A (Lg l) C (Zg l) := by
  obtain ⟨V, h⟩ := h
  exact h.dg (by omega) (fun r hr => by unfold Lg; split <;> omega)
theorem wpList_append_gp {w : World} {ops : Array Oper} {rest : List Oper} {o : Oper} {a : Act} {Q : Exit → Act → World → Prop} (hg : o.guard = none) (s x : Operand) (hop : o.op = Op.call { callee := Callee.builtin Builtin.append, args := #[s, x], argTypes := #[23, 23] })
    {B : Nat} {v : Value} {l : List (Option Int)} {q : Option Int} {ua : Option Addr} {uc : Nat} (hs : a.eval s = v) (hq : Gp B w v l) (hB : B ≤ w.heap.size) {M : Nat} (hM : w.heap.size = M) (hx : a.eval x = .slice (some ⟨M, 0, none⟩) 1 1)
    (hu : w.ownsRow B 3 1 (.slice ua (if q.isSome then 2 else 0) uc) (if q.isSome then 2 else 0) ((List.range (if q.isSome then 2 else 0)).map fun c => I (q.getD 0 + (c : Nat)))) (hn : l.length ≤ 2000)
    (hK : ∀ v' w', Gp B w' v' (l ++ [q]) → Below B w w' → wpList Try.prog ops Q rest (a.put o.dst v') w') : wpList Try.prog ops Q (o :: rest) a (w.alloc (.cells #[.slice ua (if q.isSome then 2 else 0) uc] 56)) := by
  obtain ⟨V, hcp⟩ := hq
  obtain ⟨j0, ji, jz0, jz1, jz2⟩ := info_parts Try.info56
  have hcp2 : Cp B (w.alloc (.cells #[.slice ua (if q.isSome then 2 else 0) uc] 56)) v l.length V (Lg (l ++ [q])) (Zg (l ++ [q])) := (hcp.alloc _).congr (fun r hr => by unfold Lg; rw [getD_app hr]) (fun r hr c _ => by unfold Zg; rw [getD_app hr])
  have hL : Lg (l ++ [q]) l.length = if q.isSome then 2 else 0 := by unfold Lg; rw [getD_end]
  have hu2 : (w.alloc (.cells #[.slice ua (if q.isSome then 2 else 0) uc] 56)).ownsRow B 3 1 (.slice ua (if q.isSome then 2 else 0) uc) (Lg (l ++ [q]) l.length) ((List.range (Lg (l ++ [q]) l.length)).map fun c => I (Zg (l ++ [q]) l.length c)) := by
    rw [hL]
    have e : (fun c => I (Zg (l ++ [q]) l.length c)) = fun c : Nat => I (q.getD 0 + (c : Nat)) := by
      funext c; unfold Zg; rw [getD_end]
    rw [e]
    exact hu.alloc _
  refine wpList_append_own _ hg s x 23 hop B 56 j0 (.slice none 0 0) 1 24 Try.underlying23 ji jz0 jz1 jz2 rfl (by decide) _ _ _ hs hcp2.outer ⟨M, 0, none⟩ 1 1 [.slice ua (if q.isSome then 2 else 0) uc] hx rfl (cells_one2 _ _ _ hM) (ones_one _ _ _) (by unfold maxLen; omega) (by omega) (by rw [World.size_alloc]; omega) ?_
  intro v2 w2 hown2 hgrow2 _
  have h2 := hcp2.step hu2 hown2 hgrow2
  have e : l.length + 1 = (l ++ [q]).length := by simp
  rw [e] at h2
  exact hK v2 w2 ⟨_, h2⟩ (((Below.refl B w).alloc hB _).grown hgrow2 (by rw [World.size_alloc]; omega) (fun x hx => (hcp2.outer.lt x hx).1))
end Go.Proofs.Ytihpdmchppcbfaa
