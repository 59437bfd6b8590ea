/- What formula's walk answers. -/
import Derived.Test.YtpfbommaddaijaaZfV1
import Derived.Test.YtpfbommaddaijaaZfx24
namespace Go.Proofs.Ytpfbommaddaijaa
open Go.RowKit Go.Maps Go.Proofs.YtpfbommaddaijaaW.PrintWords Go.Proofs.YtpfbommaddaijaaW.PrintLast PBoundTo
set_option linter.unusedVariables false
set_option linter.unusedSimpArgs false

/-- the walk ends well -/
def wok (N L : Nat) (x : S24) : Bool := fsh x && decide (N + fnd x ≤ 20000) && decide (L + fns x ≤ 1001)
theorem wok_true {N L : Nat} {x : S24} : wok N L x = true ↔ fsh x = true ∧ N + fnd x ≤ 20000 ∧ L + fns x ≤ 1001 := by simp [wok, and_assoc]
theorem fnd_pos (x : S24) : 1 ≤ fnd x := by rw [fnd_eq]; omega
theorem fns_pos (x : S24) : 1 ≤ fns x := by rw [fns_eq]; omega
/-- what a round keeps: after some kids -/
structure Wi (x : S24) (N S L : Nat) (In : Int) (i d Ni Si : Nat) (Ini : Int) : Prop where
  nd : Ni + fndL (x.f2.drop i) = N + fnd x
  sz : Si + fszL (x.f2.drop i) = S + fsz x
  sh : fsh x = fshL (x.f2.drop i)
  ns : L + fns x ≤ 1001 ↔ L + 1 + fnsL (x.f2.drop i) ≤ 1001
  dp : max d (fdpL (x.f2.drop i)) = fdpL x.f2
  inp : max Ini (finL (x.f2.drop i)) = max In (finL x.f2)
  hN : Ni ≤ 20000
  hS : Si ≤ Ni
  hI : 0 ≤ Ini
  hd : d ≤ 4000
theorem Wi.step {x : S24} {N S L : Nat} {In : Int} {i d Ni Si : Nat} {Ini : Int} (h : Wi x N S L In i d Ni Si Ini) (hi : i < x.f2.length) {d' N' S' : Nat} {In' : Int} (hok : wok Ni (L + 1) (rd_T24 x.f2 i) = true) (h1 : d' = fdp (rd_T24 x.f2 i) ∧ N' = Ni + fnd (rd_T24 x.f2 i) ∧ S' = Si + fsz (rd_T24 x.f2 i) ∧ In' = max Ini (fin (rd_T24 x.f2 i))) (hdl : fdp (rd_T24 x.f2 i) ≤ 4000) (hsl : fsz (rd_T24 x.f2 i) ≤ fnd (rd_T24 x.f2 i)) : Wi x N S L In (i + 1) (max d d') N' S' In' := by
  obtain ⟨k1, k2, k3, k4, k5, k6, k7, k8, k9, k10⟩ := h
  obtain ⟨w1, w2, w3⟩ := wok_true.1 hok
  obtain ⟨rfl, rfl, rfl, rfl⟩ := h1
  rw [fdrop _ _ hi] at k1 k2 k3 k4 k5 k6
  obtain ⟨c1, c2, c3, c4, c5, c6⟩ := fL_cons (rd_T24 x.f2 i) (x.f2.drop (i + 1))
  rw [c1] at k1
  rw [c3] at k2
  rw [c6, w1, Bool.true_and] at k3
  rw [c2] at k4
  rw [c4] at k5
  rw [c5] at k6
  exact ⟨by omega, by omega, k3, by rw [k4]; omega, by omega, by omega, w2, by omega, by omega, by omega⟩
theorem cost_le (k : Int) : cost k ≤ 2 := by unfold cost; split; omega; split <;> omega
theorem fdp_le (x : S24) : fdp x ≤ 2 * fns x := by
  have key : ∀ (m : Nat) (x : S24), fns x ≤ m → fdp x ≤ 2 * fns x := by
    intro m
    induction m with
    | zero => intro x h; have := fns_pos x; omega
    | succ m ih =>
      intro x h
      rw [fns_eq] at h
      rw [fdp_eq, fns_eq]
      have hc := cost_le x.f0
      have hl : ∀ l : List S24, fnsL l ≤ m → fdpL l ≤ 2 * fnsL l := by
        intro l
        induction l with
        | nil => intro _; rw [fL_nil.2.2.2.1]; omega
        | cons y r ihl =>
          intro h
          obtain ⟨c1, c2, c3, c4, c5, c6⟩ := fL_cons y r
          rw [c2] at h
          rw [c4, c2]
          have := ih y (by omega)
          have := ihl (by omega)
          omega
      have := hl x.f2 (by omega)
      omega
  exact key _ x (Nat.le_refl _)
mutual
theorem fsz_le : ∀ x : S24, fsz x ≤ fnd x ∧ 1 ≤ fsz x
  | ⟨k, n, []⟩ => by rw [fsz, fnd]; omega
  | ⟨k, n, y :: r⟩ => by
    have h := fszL_le r
    have hy := fsz_le y
    rw [fsz, fnd, fndL]; omega
theorem fszL_le : ∀ l : List S24, fszL l ≤ fndL l
  | [] => by rw [fszL, fndL]; omega
  | y :: r => by
    have h := fszL_le r
    have hy := fsz_le y
    rw [fszL, fndL]; omega
end
end Go.Proofs.Ytpfbommaddaijaa

