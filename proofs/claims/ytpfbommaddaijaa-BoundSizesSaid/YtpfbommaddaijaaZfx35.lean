/- protocol: a negation; protocol: a conjunction or a disjunction. -/
import Derived.Test.YtpfbommaddaijaaZfJ4
namespace Go.Proofs.Ytpfbommaddaijaa
open Go.RowKit Go.Proofs.YtpfbommaddaijaaW.PrintWords Go.Proofs.YtpfbommaddaijaaW.PrintLast PBoundTo
set_option linter.unusedVariables false
set_option linter.unusedSimpArgs false

theorem PoS.on {B N g B' N' g' : Nat} {w w1 : World} {t : Pt} {A3 A4 : Option Addr} {c3 c4 : Nat} (h : PoS B N g w t A3 A4 c3 c4) (hk : ∀ k, B ≤ k → k < N → k ≠ g → w1.heap[k]? = w.heap[k]?) (hB : B' ≤ B) (hN : N ≤ N') (hg : ∀ k, B ≤ k → k < N → k ≠ g → k ≠ g') : PoS B' N' g' w1 t A3 A4 c3 c4 :=
  fun w' hw' => h w' (fun k h1 h2 h3 => (hw' k (Nat.le_trans hB h1) (Nat.lt_of_lt_of_le h2 hN) (hg k h1 h2 h3)).trans (hk k h1 h2 h3))
end Go.Proofs.Ytpfbommaddaijaa

namespace Go.Proofs.Ytpfbommaddaijaa
open Go.RowKit Go.Proofs.YtpfbommaddaijaaW.PrintWords Go.Proofs.YtpfbommaddaijaaW.PrintLast PBoundTo
set_option linter.unusedVariables false
set_option linter.unusedSimpArgs false

theorem Po.keep {w w' : World} {t : Pt} {A3 A4 : Option Addr} {c3 c4 : Nat} (h : Po w t A3 A4 c3 c4) (hb : Below w.heap.size w w') : Po w' t A3 A4 c3 c4 := ⟨Kd.C_below h.a hb, h.la, Kd.C_below h.k hb, h.lk, by obtain ⟨m, hm⟩ := h.pl; exact ⟨m, hm.keep hb⟩⟩
end Go.Proofs.Ytpfbommaddaijaa

