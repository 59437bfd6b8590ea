/- What an entry of the map of depths says; rows that lie in plain blocks; depths of any tree; depth at a node that the map does not know yet; What Depth answers for any tree; The law BoundProtocols. -/
import Derived.Test.YtpfbommaddaijaaZbx14
import Derived.Carry
import Derived.Test.YtpfbommaddaijaaZbx13
import Derived.Test.YtpfbommaddaijaaZbPa
namespace Go.Proofs.Ytpfbommaddaijaa
open Go.RowKit Go.Proofs.YtpfbommaddaijaaW.PrintWords Go.Proofs.YtpfbommaddaijaaW.PrintLast PBoundTo
set_option linter.unusedVariables false
set_option linter.unusedSimpArgs false

/-- a row of protocols that lies in a plain block, and so on down -/
def KRow (w : World) (l : List S32) (A : Option Addr) (c : Nat) : Prop := ∃ base ok, PCopy.k32.R 32 w base ok (.slice A l.length c) (cvL l)
theorem KRow.C {w : World} {l : List S32} {A : Option Addr} {c : Nat} (h : KRow w l A c) : k32.C w A l.length l ∧ l.length ≤ c := by
  obtain ⟨base, ok, h⟩ := h
  obtain ⟨A', c', e, h1, h2⟩ := Kd.R_reads h
  rw [cvL_len] at e h1
  injection e with e1 e2 e3
  subst e1 e3
  exact ⟨vc_C (hgL l) (Nat.le_refl _) h2, h1⟩
end Go.Proofs.Ytpfbommaddaijaa

namespace Go.Proofs.Ytpfbommaddaijaa
open Go.RowKit Go.Maps Go.Proofs.YtpfbommaddaijaaW.PrintWords Go.Proofs.YtpfbommaddaijaaW.PrintLast PBoundTo
set_option linter.unusedVariables false
set_option linter.unusedSimpArgs false

theorem Dm.keep {w w' : World} {b : Nat} {xs : List De} (h : Dm w b xs) {r : Option Nat} (hg : w.grownBy w' r) (hr : r ≠ some b) (hp : ∀ x ∈ xs, some x.a.block ≠ r) : Dm w' b xs := by
  obtain ⟨es, c, h1, h2, h3⟩ := h
  refine ⟨es, c, (hg.block _ (Array.getElem?_eq_some_iff.1 h1).1 (fun e => hr e.symm)).trans h1, h2, fun x hx => ?_⟩
  obtain ⟨cs, t, h⟩ := h3 x hx
  exact ⟨cs, t, (hg.block _ (Array.getElem?_eq_some_iff.1 h).1 (hp x hx)).trans h⟩
theorem grown_of_below {w w' : World} (h : Below w.heap.size w w') (r : Option Nat) : w.grownBy w' r := ⟨h.os, h.tape, h.output, h.size, fun k hk _ => h.block k hk⟩
end Go.Proofs.Ytpfbommaddaijaa

namespace Go.Proofs.Ytpfbommaddaijaa
open Go.RowKit Go.Maps Go.Proofs.YtpfbommaddaijaaW.PrintWords Go.Proofs.YtpfbommaddaijaaW.PrintLast PBoundTo
set_option linter.unusedVariables false
set_option linter.unusedSimpArgs false

/-- the copy is a row in plain blocks -/
theorem CR.row {W w' : World} {x : S32} {e : Ending} (h : CR W x e w') : ∃ A3 c3 A4 c4, e = .returned (.agg #[.bool x.f0, I x.f1, I x.f2, .slice A3 x.f3.length c3, .slice A4 x.f4.length c4]) ∧ x.f3.length ≤ c3 ∧ Kd.C Kd.bool w' A3 x.f3.length x.f3 ∧ x.f4.length ≤ c4 ∧ Kd.C k32 w' A4 x.f4.length x.f4 ∧ KRow w' x.f4 A4 c4 ∧ Below W.heap.size W w' := by
  obtain ⟨A3, c3, A4, c4, he, h1, h2, h3, h4, ⟨ok, h5⟩, h6⟩ := h
  exact ⟨A3, c3, A4, c4, he, h1, h2, h3, h4, ⟨_, _, h5⟩, h6⟩
end Go.Proofs.Ytpfbommaddaijaa

namespace Go.Proofs.Ytpfbommaddaijaa
open Go.RowKit Go.Proofs.YtpfbommaddaijaaW.PrintWords Go.Proofs.YtpfbommaddaijaaW.PrintLast PBoundTo
set_option linter.unusedVariables false
set_option linter.unusedSimpArgs false

theorem vld_pt {n : Int} {x : S32} (h : vld n x = true) : ∃ (k : Nat) (t : Pt), n = k ∧ 1 ≤ k ∧ k ≤ 12 ∧ x = t.toS ∧ t.ok k := by
  have h' := h
  unfold vld at h'
  simp only [Bool.and_eq_true, decide_eq_true_eq] at h'
  obtain ⟨⟨⟨⟨h1, h2⟩, _⟩, _⟩, h5⟩ := h'
  obtain ⟨t, rfl, ho⟩ := shp_ok n.toNat (hg x + 1) x (by omega) h5
  exact ⟨n.toNat, t, by omega, by omega, by omega, rfl, ho⟩
end Go.Proofs.Ytpfbommaddaijaa

