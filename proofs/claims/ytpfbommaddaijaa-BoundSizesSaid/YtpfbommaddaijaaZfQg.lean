/- depth: a leaf; no kids; the limit reached; a hit. -/
import Derived.Test.YtpfbommaddaijaaZfQf
import Derived.Carry
namespace Go.Proofs.Ytpfbommaddaijaa
open Go.RowKit Go.Maps Go.Proofs.YtpfbommaddaijaaW.PrintWords Go.Proofs.YtpfbommaddaijaaW.PrintLast PBoundTo
set_option linter.unusedVariables false
set_option linter.unusedSimpArgs false

theorem Pl.below {w w' : World} {a : Addr} (h : Pl w a) (hb : Below w.heap.size w w') : Pl w' a := by
  obtain ⟨cs, t, h⟩ := h
  exact ⟨cs, t, (hb.block _ (Array.getElem?_eq_some_iff.1 h).1).trans h⟩
theorem PlR.keep {w w' : World} (hb : Below w.heap.size w w') : ∀ {m : Nat} {l : List S32} {A : Option Addr}, PlR m w l A → PlR m w' l A
  | 0, l, A, h => h
  | m + 1, l, A, h => fun i hi => by
    obtain ⟨ad, A3, c3, A4, c4, e, hp, x0, x1, x2, x3, x4, hk⟩ := h i hi
    exact ⟨ad, A3, c3, A4, c4, e, hp.below hb, cell_keep' hb x0, cell_keep' hb x1, cell_keep' hb x2, cell_keep' hb x3, cell_keep' hb x4, hk.keep hb⟩
theorem KRow.keep {w w' : World} {l : List S32} {A : Option Addr} {c : Nat} (h : KRow w l A c) (hb : Below w.heap.size w w') : KRow w' l A c := by
  obtain ⟨h1, h2, m, h3⟩ := h
  exact ⟨Kd.C_below h1 hb, h2, m, h3.keep hb⟩
theorem Dm.below {w w' : World} {b : Nat} {xs : List De} (h : Dm w b xs) (hb : Below w.heap.size w w') : Dm w' b xs := by
  obtain ⟨es, c, h1, h2, h3⟩ := h
  exact ⟨es, c, (hb.block _ (Array.getElem?_eq_some_iff.1 h1).1).trans h1, h2, fun x hx => (h3 x hx).below hb⟩
end Go.Proofs.Ytpfbommaddaijaa

