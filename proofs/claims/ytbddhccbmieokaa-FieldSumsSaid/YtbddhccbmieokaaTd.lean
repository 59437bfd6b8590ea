/- Walks through the functions of the field and of its reference: what each call returns; no memory that was there is changed. -/
import Derived.Test.YtbddhccbmieokaaTc
namespace Go.Proofs.Ytbddhccbmieokaa
open Go.RowKit FieldMath
set_option linter.unusedVariables false

def sumR (P M r e : Nat) : Nat → Nat → Nat → Nat
  | 0, s, _ => s
  | n + 1, s, x => sumR P M r e n (fadd P M s (fpow P M x e)) (fmul P M x r)

set_option maxHeartbeats 2000000 in
theorem ksum (P M n e r : Nat) (hv : FV P M) (hn : n ≤ 65536) (he : e < 2 ^ 63) (hr : r < fq P M) (hroot : Fn 21 #[KV P M, I n] (I r)) : Fn 22 #[KV P M, I n, I e] (I (sumR P M r e n 0 1 : Nat)) := by
  intro w
  have hq := fq_cases hv
  have hs := hv.spec
  obtain ⟨R, HR⟩ : ∃ R, Hid (sumR P M r e n 0 1 = R) := ⟨_, Lib.hid rfl⟩
  rw [show I (sumR P M r e n 0 1 : Nat) = I R by rw [HR.out]]
  have Hroot := Lib.hid hroot
  have Hp := Lib.hid (fun a ha => kpow P M a e hv ha he)
  have Ha := Lib.hid (fun a b ha hb => kadd P M (fq P M) (mdl M) a b hs.1 hs.2.1 hs.2.2.1 ha hb)
  have Hm := Lib.hid (fun x y => kmul P M x y hv)
  have Hpb := Lib.hid (fun a ha => @fpow_bd P M a hv ha e)
  have Hab := Lib.hid (fun x y => @fadd_bd P M x y hv)
  have Hmb := Lib.hid (fun x y => @fmul_bd P M x y hv)
  unfold KV at *
  clear hv hroot he hs
  generalize fq P M = q at *
  generalize mdl M = D at *
  go_enter Try.func22, Try.ntmps22
  go_wp2_with (go_at_call 21; refine (Hroot.out _).mono ?_; rintro e w' ⟨rfl, hb⟩)
  have hB : Below (w.heap.size + 1) (w.alloc (.cells #[I P, I M, I q, I D] 35)) w' := by simpa using hb
  clear hb
  go_loopw [8, 9, 10] (fun u v i wr => ∃ s x j : Nat, s < q ∧ x < q ∧ j ≤ n ∧ Hid (sumR P M r e (n - j) s x = R) ∧ u = I s ∧ v = I x ∧ i = I j ∧ Below (w.heap.size + 1) (w.alloc (.cells #[I P, I M, I q, I D] 35)) wr) (fun _ _ i _ => n - (intOf i).toNat)
  case atStart => exact ⟨0, 1, 0, by omega, by omega, by omega, HR, rfl, rfl, rfl, hB⟩
  case round =>
    clear hB HR
    obtain ⟨s, x, j, hs, hx, hj, H, rfl, rfl, rfl, hB⟩ := hrel
    obtain ⟨⟨hx0, hx1, hx2, hx3⟩, hsz⟩ := box4 hB
    by_cases hlt : j < n
    · have H' := Lib.hid (show sumR P M r e (n - (j + 1)) (fadd P M s (fpow P M x e)) (fmul P M x r) = R by
        rw [← H.out, show n - j = (n - (j + 1)) + 1 by omega, sumR])
      clear H
      have hpb := Hpb.out x hx
      have Hcp := Lib.hid (Hp.out x hx)
      have Hca := Lib.hid (Ha.out s (fpow P M x e) (by omega) (by omega))
      have Hcm := Lib.hid (Hm.out x r hx hr)
      have Hs' := Lib.hid (Hab.out s _ hs hpb)
      have Hx' := Lib.hid (Hmb.out x r hx hr)
      generalize fpow P M x e = p at *
      generalize fadd P M s p = s' at *
      generalize fmul P M x r = x' at *
      have HB := Lib.hid hB
      go_wp2
      have e0 : ∀ y : Ext wr, y.val.cell? ⟨w.heap.size, 0, none⟩ = some (I P) := fun y => (y.ok.cell (p := ⟨w.heap.size, 0, none⟩) hsz).trans hx0
      have e1 : ∀ y : Ext wr, y.val.cell? ⟨w.heap.size, 1, none⟩ = some (I M) := fun y => (y.ok.cell (p := ⟨w.heap.size, 1, none⟩) hsz).trans hx1
      have e2 : ∀ y : Ext wr, y.val.cell? ⟨w.heap.size, 2, none⟩ = some (I q) := fun y => (y.ok.cell (p := ⟨w.heap.size, 2, none⟩) hsz).trans hx2
      have e3 : ∀ y : Ext wr, y.val.cell? ⟨w.heap.size, 3, none⟩ = some (I D) := fun y => (y.ok.cell (p := ⟨w.heap.size, 3, none⟩) hsz).trans hx3
      clear hB hx0 hx1 hx2 hx3
      refine wp_region_ext (by kernel_rfl) (by kernel_rfl) ?_
      repeat (go_big_quiet_step (first
        | (go_at_call 36; exact Fn.ext Hcp.out _ _)
        | (go_at_call 27; exact Fn.ext Hca.out _ _)))
      refine wpQuiet_nil ?_
      rintro w2 ⟨y, hy⟩
      have f0 : w2.cell? ⟨w.heap.size, 0, none⟩ = some (I P) := by rw [hy]; exact e0 y
      have f1 : w2.cell? ⟨w.heap.size, 1, none⟩ = some (I M) := by rw [hy]; exact e1 y
      have f2 : w2.cell? ⟨w.heap.size, 2, none⟩ = some (I q) := by rw [hy]; exact e2 y
      have f3 : w2.cell? ⟨w.heap.size, 3, none⟩ = some (I D) := by rw [hy]; exact e3 y
      have hB : Below (w.heap.size + 1) (w.alloc (.cells #[I P, I M, I q, I D] 35)) w2 := by rw [hy]; exact HB.out.trans (y.ok.mono hsz)
      clear e0 e1 e2 e3 hy y
      go_wp2_with (go_at_call 29; refine (Hcm.out _).mono ?_; rintro e w' ⟨rfl, hb⟩; replace hB := hB.trans (hb.mono (by have := hB.size; simpa using this)); clear hb)
      go_roundw
      case rel => exact ⟨s', x', j + 1, Hs'.out, Hx'.out, by omega, H', rfl, rfl, by go_num, hB⟩
      case measure => simp [intOf]; omega
    · have H' := Lib.hid (show s = R by rw [← H.out, show n - j = 0 by omega]; rfl)
      clear H
      go_wp2
      go_ret
      exact ⟨ri (by rw [H'.out]), box4_end hB⟩

end Go.Proofs.Ytbddhccbmieokaa
