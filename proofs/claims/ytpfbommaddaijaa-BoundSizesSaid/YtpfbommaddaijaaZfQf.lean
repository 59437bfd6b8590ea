/- What an entry of the map of depths says; rows that lie in plain blocks; depths of any tree. -/
import Derived.Test.YtpfbommaddaijaaZfx24
import Derived.Test.YtpfbommaddaijaaZfPa
import Derived.Test.YtpfbommaddaijaaZfPCopyx0
namespace Go.Proofs.Ytpfbommaddaijaa
open Go.RowKit Go.Proofs.YtpfbommaddaijaaW.PrintWords Go.Proofs.YtpfbommaddaijaaW.PrintLast PBoundTo
set_option linter.unusedVariables false
set_option linter.unusedSimpArgs false

/-- rows that lie in plain blocks, all the way down -/
def PlR : Nat → World → List S32 → Option Addr → Prop
  | 0, _, l, _ => l = []
  | m + 1, w, l, A => ∀ i, i < l.length → ∃ ad A3 c3 A4 c4, A = some ad ∧ Pl w ad ∧ w.cell? (ad.add (i * 5)) = some (.bool (rd_T32 l i).f0) ∧ w.cell? ⟨(ad.add (i * 5)).block, (ad.add (i * 5)).off + 1, none⟩ = some (I (rd_T32 l i).f1) ∧ w.cell? ⟨(ad.add (i * 5)).block, (ad.add (i * 5)).off + 2, none⟩ = some (I (rd_T32 l i).f2) ∧ w.cell? ⟨(ad.add (i * 5)).block, (ad.add (i * 5)).off + 3, none⟩ = some (.slice A3 (rd_T32 l i).f3.length c3) ∧ w.cell? ⟨(ad.add (i * 5)).block, (ad.add (i * 5)).off + 4, none⟩ = some (.slice A4 (rd_T32 l i).f4.length c4) ∧ PlR m w (rd_T32 l i).f4 A4
/-- a row of protocols that lies in a plain block, and so on down -/
def KRow (w : World) (l : List S32) (A : Option Addr) (c : Nat) : Prop := k32.C w A l.length l ∧ l.length ≤ c ∧ ∃ m, PlR m w l A
theorem KRow.C {w : World} {l : List S32} {A : Option Addr} {c : Nat} (h : KRow w l A c) : k32.C w A l.length l ∧ l.length ≤ c := ⟨h.1, h.2.1⟩
end Go.Proofs.Ytpfbommaddaijaa

