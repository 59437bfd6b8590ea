/- protocol on every formula without constants and FXor; What FromFormula answers; The law BoundFrom: the walk up to the answer. -/
import Derived.Test.YtpfbommaddaijaaZfx35
import Derived.Test.YtpfbommaddaijaaZfV8c
import Derived.Test.YtpfbommaddaijaaZfV6
import Derived.Test.YtpfbommaddaijaaZfV3
import Derived.Test.YtpfbommaddaijaaZfQ1
import Derived.Test.YtpfbommaddaijaaZfJ3
namespace Go.Proofs.Ytpfbommaddaijaa
open Go.RowKit Go.Proofs.YtpfbommaddaijaaW.PrintWords Go.Proofs.YtpfbommaddaijaaW.PrintLast PBoundTo
set_option linter.unusedVariables false
set_option linter.unusedSimpArgs false

theorem PrR.congr {w : World} {N : Nat} {q : Pt} {f g : Nat → Bool} {e : Ending} {w' : World} (h : PrR w N q f e w') (hfg : ∀ i, f i = g i) : PrR w N q g e w' := by
  rw [show f = g from funext hfg] at h
  exact h
end Go.Proofs.Ytpfbommaddaijaa

namespace Go.Proofs.Ytpfbommaddaijaa
open Go.RowKit Go.Proofs.YtpfbommaddaijaaW.PrintWords Go.Proofs.YtpfbommaddaijaaW.PrintLast PBoundTo
set_option linter.unusedVariables false
set_option linter.unusedSimpArgs false

abbrev pZero : Value := .agg #[.bool false, I 0, I 0, .slice none 0 0, .slice none 0 0]
end Go.Proofs.Ytpfbommaddaijaa
namespace Go.Proofs.Ytpfbommaddaijaa
open Go.RowKit Go.Proofs.YtpfbommaddaijaaW.PrintWords Go.Proofs.YtpfbommaddaijaaW.PrintLast PBoundTo
set_option linter.unusedVariables false
set_option linter.unusedSimpArgs false

set_option maxHeartbeats 4000000 in
set_option maxRecDepth 100000 in
theorem none_zero (W : World) : Calls Try.prog 48 #[pZero] W fun e w' => e = .returned (.bool true) ∧ Below W.heap.size W w' := by
  obtain ⟨W1, hW1⟩ : ∃ W1, W1 = W.alloc (.cells #[.bool false, I 0, I 0, .slice none 0 0, .slice none 0 0] 32) := ⟨_, rfl⟩
  have HB1 : Hid (Below W.heap.size W W1) := Lib.hid (by rw [hW1]; exact below_alloc (Below.refl _ _) _)
  have BK : W1.heap[W.heap.size]? = some (.cells #[.bool false, I 0, I 0, .slice none 0 0, .slice none 0 0] 32 (0, 0)) := by rw [hW1]; exact blk_new _ _
  have k0 : W1.cell? ⟨W.heap.size, 0, none⟩ = some (.bool false) := (blk_cell BK 0).trans rfl
  have k1 : W1.cell? ⟨W.heap.size, 1, none⟩ = some (I 0) := (blk_cell BK 1).trans rfl
  have k2 : W1.cell? ⟨W.heap.size, 2, none⟩ = some (I 0) := (blk_cell BK 2).trans rfl
  have k3 : W1.cell? ⟨W.heap.size, 3, none⟩ = some (.slice none 0 0) := (blk_cell BK 3).trans rfl
  have k4 : W1.cell? ⟨W.heap.size, 4, none⟩ = some (.slice none 0 0) := (blk_cell BK 4).trans rfl
  clear BK
  go_enter Try.func48, Try.ntmps48
  go_upto_region 1 with fail
  rw [← hW1]
  clear hW1
  go_wp2
  go_ret
  exact ⟨rfl, HB1.out⟩
end Go.Proofs.Ytpfbommaddaijaa

