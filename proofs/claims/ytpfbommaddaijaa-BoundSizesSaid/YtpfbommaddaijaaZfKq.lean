/- What came in, opened: a datum's cells as the kinds of the print's words tell them; Lists of lists that came in. -/
import Derived.Test.YtpfbommaddaijaaZfWWords
import Derived.ProofKit
import Derived.Lib.SmallJoins
import Derived.SizedLaws
import Derived.Deep.Matrix
import Derived.Test.YtpfbommaddaijaaZfN2
import Derived.Test.YtpfbommaddaijaaZfKc
namespace Go.Proofs.Ytpfbommaddaijaa
open Go.ChangeShapes Go.WideShapes Go.ChangeAt Go.RowKit Go.Joins Go.Deep Go.Proofs.YtpfbommaddaijaaW.PrintWords
set_option linter.unusedVariables false

section
variable {H : Type} {P : Program}
def Reach (P : Program) (t : TypeId) (d : DataW H) : Prop := ∀ n ∈ DataW.weights P t d, n ≤ reachBytes
theorem reach_each {ts : List TypeId} {ds : List (DataW H)} (h : (DataW.weightsEach P ts ds).all (· ≤ reachBytes) = true) {j : Nat} {t : TypeId} {d : DataW H} (ht : ts[j]? = some t) (hd : ds[j]? = some d) : Reach P t d :=
  fun n hn => of_decide_eq_true (List.all_eq_true.1 h _ (DataW.weights_mem_each ht hd n hn))
theorem reach_field {t tj : TypeId} {fs : Array Field} {parts : List (DataW H)} {d : DataW H} {j : Nat} (h : Reach P t (.agg parts)) (hu : P.underlying t = some (.struct fs)) (ht : (fs.toList.map (·.type))[j]? = some tj) (hd : parts[j]? = some d) : Reach P tj d := fun n hn => by
  refine h n ?_
  simp only [DataW.weights, hu]
  exact DataW.weights_mem_each ht hd n hn
theorem weightsAll_mem' {e : TypeId} : ∀ {l : List (DataW H)} {d : DataW H}, d ∈ l → ∀ n ∈ d.weights P e, n ∈ DataW.weightsAll P e l
  | d' :: r, d, hd, n, hn => by
    simp only [DataW.weightsAll, List.mem_append]
    rcases List.mem_cons.1 hd with rfl | h
    · exact Or.inl hn
    · exact Or.inr (weightsAll_mem' h n hn)
theorem reach_elem {t e : TypeId} {elems spare : List (DataW H)} {d : DataW H} (h : Reach P t (.slice elems spare)) (hu : P.underlying t = some (.slice e)) (hd : d ∈ elems) : Reach P e d := fun n hn => by
  refine h n ?_
  simp only [DataW.weights, hu, List.mem_cons, List.mem_append]
  exact Or.inr (Or.inl (weightsAll_mem' hd n hn))
theorem reach_len {t e : TypeId} {elems spare : List (DataW H)} (h : Reach P t (.slice elems spare)) (hu : P.underlying t = some (.slice e)) : (elems.length + spare.length) * P.bytesOf e ≤ reachBytes := by
  refine h _ ?_
  simp only [DataW.weights, hu, List.mem_cons, true_or]
end

/-- whatever is trodden as a t within the reach is of kind d, of a size Sz -/
structure Opn {α : Type} (P : Program) (t : TypeId) (d : Kd α) (Sz : α → Prop) (N : Nat) : Prop where
  out : ∀ {H : Type} (enc : TypeId × Value → H) (W : World) (base : Nat) (held : Bool) (fuel : Nat) (cs : List Value) (x : DataW H × List MemPlace), fuel ≤ N →
    DataW.trod enc P W base (fun _ => true) held fuel t cs = some x → Reach P t x.1 → ∃ y, d.K W y cs ∧ Sz y
variable {α β : Type} {P : Program}
theorem Opn.int {t : TypeId} {k : IntKind} (ht : P.underlying t = some (.int k)) (N : Nat) : Opn P t (Kd.int k) (fun a => (Lit.int k a).wf = true) N := ⟨fun enc W base held fuel cs x _ h _ => by
  obtain ⟨a, rfl, _, hw⟩ := DataW.trod_int ht h
  exact ⟨a, rfl, hw⟩⟩
theorem Opn.bool {t : TypeId} (ht : P.underlying t = some .bool) (N : Nat) : Opn P t Kd.bool (fun _ => True) N := ⟨fun enc W base held fuel cs x _ h _ => by
  obtain ⟨b, rfl, _⟩ := DataW.trod_bool ht h
  exact ⟨b, rfl, trivial⟩⟩
/-- the size of a slice -/
def SzL (P : Program) (e : TypeId) (Sz : α → Prop) (l : List α) : Prop := l.length * P.bytesOf e ≤ reachBytes ∧ l.length ≤ maxLen ∧ ∀ y ∈ l, Sz y
theorem build {α : Type} : ∀ (n : Nat) (R : Nat → α → Prop), (∀ i, i < n → ∃ y, R i y) → ∃ ys : List α, ys.length = n ∧ ∀ i y, ys[i]? = some y → R i y
  | 0, R, _ => ⟨[], rfl, fun i y h => by simp at h⟩
  | n + 1, R, h => by
    obtain ⟨ys, h1, h2⟩ := build n R fun i hi => h i (by omega)
    obtain ⟨y, hy⟩ := h n (by omega)
    refine ⟨ys ++ [y], by simp [h1], fun i z hz => ?_⟩
    rw [List.getElem?_append] at hz
    split at hz
    · exact h2 i z hz
    · rename_i hi
      have hi2 : i - ys.length < 1 := by have := (List.getElem?_eq_some_iff.1 hz).1; simpa using this
      have : i = n := by omega
      subst this
      rw [show i - ys.length = 0 by omega] at hz
      simp at hz
      rw [← hz]; exact hy
theorem Opn.slice {t e : TypeId} {d : Kd α} {Sz : α → Prop} {N : Nat} (ht : P.underlying t = some (.slice e)) (hc : P.cellsOf e = d.sz) (h : Opn P e d Sz N) : Opn P t (Kd.slice e d) (SzL P e Sz) (N + 1) := by
  refine ⟨?_⟩
  intro H enc W base held fuel cs x hf hx hr
  rcases DataW.trod_slice ht hx with ⟨rfl, rfl⟩ | ⟨a, len, cap, elems, rest, n, rfl, rfl, rfl, hb, hl, hm, hlen, hel, hsp, hns⟩
  · exact ⟨[], ⟨none, 0, rfl, Nat.le_refl _, Kd.C_nil d W⟩, by simp, by simp, fun y hy => by simp at hy⟩
  · have each : ∀ i, i < len → ∃ y c, c.length = d.sz ∧ d.K W y c ∧ Sz y ∧ ∀ j u, c[j]? = some u → W.cell? (a.add (i * d.sz + j)) = some u := by
      intro i hi
      have h1 := hel i hi
      rw [List.getElem?_eq_getElem (by omega)] at h1
      obtain ⟨cs', hc1, hc2⟩ := Option.bind_eq_some_iff.1 h1
      obtain ⟨y, hy, hsz⟩ := h.out enc W base held n cs' _ (by omega) hc2 (reach_elem hr ht (List.mem_map.2 ⟨_, List.getElem_mem (by omega), rfl⟩))
      have hcl := d.K_len hy
      obtain ⟨_, hl2, hcell⟩ := World.cells?_some hc1
      refine ⟨y, cs', hcl, hy, hsz, fun j u hj => ?_⟩
      have hjl : j < cs'.length := (List.getElem?_eq_some_iff.1 hj).1
      have h2 := hcell j (by rw [hc]; omega)
      rw [hj, hc] at h2
      rw [← h2, Addr.add_add]
    obtain ⟨ys, hyl, hy⟩ := build len _ each
    subst hyl
    have hwt := reach_len hr ht
    simp only [List.length_map] at hwt
    refine ⟨ys, ⟨some a, cap, rfl, by omega, rfl, ?_, fun _ => ⟨a, rfl, fun j y hj => ?_⟩⟩, ?_, by omega, fun y hmem => ?_⟩
    · have : maxLen ≤ 9223372036854775807 := by decide
      omega
    · obtain ⟨c, h1, h2, _, h4⟩ := hy j y hj
      exact ⟨c, h1, h2, h4⟩
    · refine Nat.le_trans (Nat.mul_le_mul_right _ ?_) hwt
      omega
    · obtain ⟨i, hi⟩ := List.getElem?_of_mem hmem
      obtain ⟨_, _, _, h3, _⟩ := hy i y hi
      exact h3
theorem Opn.less {t : TypeId} {d : Kd α} {Sz : α → Prop} {M N : Nat} (h : Opn P t d Sz N) (hm : M ≤ N) : Opn P t d Sz M := ⟨fun enc W base held fuel cs x hf => h.out enc W base held fuel cs x (by omega)⟩
/-- the fields of a struct from one on -/
structure OpnF {α : Type} (P : Program) (fs : List Field) (off : Nat) (d : Kd α) (Sz : α → Prop) (N : Nat) : Prop where
  out : ∀ {H : Type} (enc : TypeId × Value → H) (W : World) (base : Nat) (held : Bool) (n : Nat) (cs : List Value) (xs : List (DataW H × List MemPlace)), n ≤ N → cs.length = off + d.sz → xs.length = fs.length →
    (∀ (i : Nat) (f : Field), fs[i]? = some f → DataW.trod enc P W base (fun _ => true) held n f.type ((cs.drop f.offset).take (P.cellsOf f.type)) = xs[i]?) →
    (∀ (i : Nat) (f : Field) (x : DataW H × List MemPlace), fs[i]? = some f → xs[i]? = some x → Reach P f.type x.1) → ∃ y, d.K W y (cs.drop off) ∧ Sz y
theorem OpnF.one {f : Field} {off : Nat} {d : Kd α} {Sz : α → Prop} {N : Nat} (ho : f.offset = off) (hc : P.cellsOf f.type = d.sz) (h : Opn P f.type d Sz N) : OpnF P [f] off d Sz N := by
  refine ⟨?_⟩
  intro H enc W base held n cs xs hn hl hxl hf hr
  match xs, hxl with
  | [x], _ =>
  have h0 := hf 0 f rfl
  rw [ho, hc, List.take_of_length_le (by simp; omega)] at h0
  exact h.out enc W base held n _ x hn h0 (hr 0 f x rfl rfl)
theorem OpnF.cons {f : Field} {fs : List Field} {off : Nat} {a : Kd α} {b : Kd β} {Sa : α → Prop} {Sb : β → Prop} {N : Nat} (ho : f.offset = off) (hc : P.cellsOf f.type = a.sz) (h : Opn P f.type a Sa N) (hr : OpnF P fs (off + a.sz) b Sb N) : OpnF P (f :: fs) off (Kd.pair a b) (fun z => Sa z.1 ∧ Sb z.2) N := by
  refine ⟨?_⟩
  intro H enc W base held n cs xs hn hl hxl hf hre
  match xs, hxl with
  | x :: xs', hxl =>
  have hsz : (Kd.pair a b).sz = a.sz + b.sz := rfl
  have h0 := hf 0 f rfl
  rw [ho, hc] at h0
  obtain ⟨y, hy, hsy⟩ := h.out enc W base held n _ x hn h0 (hre 0 f x rfl rfl)
  obtain ⟨z, hz, hsz2⟩ := hr.out enc W base held n cs xs' hn (by omega) (by simpa using hxl) (fun i g hg => by simpa using hf (i + 1) g (by simpa using hg)) (fun i g x hg hx => hre (i + 1) g x (by simpa using hg) (by simpa using hx))
  refine ⟨(y, z), ⟨_, _, ?_, hy, hz⟩, hsy, hsz2⟩
  rw [← List.drop_drop, List.take_append_drop]
theorem Opn.struct {t : TypeId} {fs : Array Field} {d : Kd α} {Sz : α → Prop} {N : Nat} (ht : P.underlying t = some (.struct fs)) (hc : P.cellsOf t = d.sz) (h : OpnF P fs.toList 0 d Sz N) : Opn P t d Sz (N + 1) := by
  refine ⟨?_⟩
  intro H enc W base held fuel cs x hf hx hr
  obtain ⟨xs, n, rfl, rfl, hl, hxl, hfs⟩ := DataW.trod_struct ht hx
  obtain ⟨y, hy, hs⟩ := h.out enc W base held n cs xs (by omega) (by omega) (by simpa using hxl) (fun i f hi => hfs i f (by simpa using hi)) (fun i f x hi hx => reach_field hr ht (j := i) (by simp at hi ⊢; exact ⟨f, hi, rfl⟩) (by simp at hx ⊢; exact ⟨_, hx⟩))
  exact ⟨y, by simpa using hy, hs⟩
theorem Opn.iso {t : TypeId} {d : Kd α} {Sz : α → Prop} {N : Nat} (h : Opn P t d Sz N) (f : β → α) (g : α → β) (hfg : ∀ z, f (g z) = z) : Opn P t (Kd.iso d f) (fun y => Sz (f y)) N := by
  refine ⟨?_⟩
  intro H enc W base held fuel cs x hf hx hr
  obtain ⟨y, hy, hs⟩ := h.out enc W base held fuel cs x hf hx hr
  exact ⟨g y, by show d.K W (f (g y)) cs; rw [hfg]; exact hy, by show Sz (f (g y)); rw [hfg]; exact hs⟩
end Go.Proofs.Ytpfbommaddaijaa
namespace Go.Proofs.Ytpfbommaddaijaa
open Go.ChangeShapes Go.WideShapes Go.ChangeAt Go.RowKit Go.Joins Go.Deep Go.Proofs.YtpfbommaddaijaaW.PrintWords
set_option linter.unusedVariables false
end Go.Proofs.Ytpfbommaddaijaa

