/- The numbers of calls, the heights and the held parts of a graph, by the reference's own walk. -/
import Derived.Test.YtjahkdomofhfgaaTd
import Derived.OwnWalk
namespace Go.Proofs.Ytjahkdomofhfgaa
open Go.RowKit
set_option linter.unusedVariables false
set_option linter.unusedSimpArgs false

theorem made3 (w : World) (n : Nat) : Nu w (((w.alloc (Mk n)).alloc (Mk n)).alloc (Mk n)).drew n w.heap.size (fun _ => 0) ∧ Nu w (((w.alloc (Mk n)).alloc (Mk n)).alloc (Mk n)).drew n (w.heap.size + 1) (fun _ => 0) ∧ Nu w (((w.alloc (Mk n)).alloc (Mk n)).alloc (Mk n)).drew n (w.heap.size + 1 + 1) (fun _ => 0) ∧ Below w.heap.size w (((w.alloc (Mk n)).alloc (Mk n)).alloc (Mk n)).drew := by
  have h1 := Nu.made w w n (Nat.le_refl _)
  have h2 := Nu.made w (w.alloc (Mk n)) n (by simp)
  have h3 := Nu.made w ((w.alloc (Mk n)).alloc (Mk n)) n (by simp; omega)
  rw [show (w.alloc (Mk n)).heap.size = w.heap.size + 1 by simp] at h2
  rw [show ((w.alloc (Mk n)).alloc (Mk n)).heap.size = w.heap.size + 1 + 1 by simp] at h3
  exact ⟨((h1.alloc _).alloc _).drew 1, (h2.alloc _).drew 1, h3.drew 1, ((((Below.refl _ _).alloc (Nat.le_refl _) _).alloc (by simp) _).alloc (by simp; omega) _).drew⟩

set_option maxHeartbeats 8000000 in
set_option maxRecDepth 100000 in
theorem counts_any {w : World} {v : Value} {n : Nat} {A : Nat → Option Addr} {L C : Nat → Nat} {Z : Nat → Nat → Int} (hd : Dg w v n A L C Z) (hr : okDag n L Z) : Calls Try.prog 8 #[v] w fun e w' => (∃ b1 b2 b3, e = .returned (.tuple #[.slice (some ⟨b1, 0, none⟩) n n, .slice (some ⟨b2, 0, none⟩) n n, .slice (some ⟨b3, 0, none⟩) n n]) ∧ Nu w w' n b1 (cT L Z n) ∧ Nu w w' n b2 (hT L Z n)) ∧ Below w.heap.size w w' := by
  obtain ⟨a, cap, rfl, h2, h3, h4, h5⟩ := hd.top
  obtain ⟨hn1, hn2, Hr⟩ := hr
  rcases a with _ | b
  · have := h4 rfl; omega
  have HL := Lib.hid (fun v (hv : v < n) => (hd.row v hv).2.1)
  have Hr := Lib.hid Hr
  have Hd := Lib.hid hd
  clear h4 h5 hd
  have hmk := run_make_row' (P := Try.prog) 27 3 (.int .i64 0) 8 Try.underlying27 Try.info3 rfl .i64 .i64 n (by omega) (by omega)
  go_enter Try.func8, Try.ntmps8
  go_upto_region 1 with fail
  go_cut [5, 6, 7] from 11 to 19 (fun x y z wr => ∃ b1 b2 b3, x = .slice (some ⟨b1, 0, none⟩) n n ∧ y = .slice (some ⟨b2, 0, none⟩) n n ∧ z = .slice (some ⟨b3, 0, none⟩) n n ∧ b1 ≠ b2 ∧ b1 ≠ b3 ∧ b2 ≠ b3 ∧ Nu w wr n b1 (fun _ => 0) ∧ Nu w wr n b2 (fun _ => 0) ∧ Nu w wr n b3 (fun _ => 0) ∧ Below w.heap.size w wr)
  case first =>
    go_region
    all_goals (go_wp2_with fail; go_meet; have M := made3 w n; first
      | exact ⟨_, _, _, rfl, rfl, rfl, by omega, by omega, by omega, M.1, M.2.1, M.2.2.1, M.2.2.2⟩
      | exact ⟨_, _, _, rfl, rfl, rfl, by omega, by omega, by omega, M.1, M.2.2.1, M.2.1, M.2.2.2⟩
      | exact ⟨_, _, _, rfl, rfl, rfl, by omega, by omega, by omega, M.2.1, M.1, M.2.2.1, M.2.2.2⟩
      | exact ⟨_, _, _, rfl, rfl, rfl, by omega, by omega, by omega, M.2.1, M.2.2.1, M.1, M.2.2.2⟩
      | exact ⟨_, _, _, rfl, rfl, rfl, by omega, by omega, by omega, M.2.2.1, M.1, M.2.1, M.2.2.2⟩
      | exact ⟨_, _, _, rfl, rfl, rfl, by omega, by omega, by omega, M.2.2.1, M.2.1, M.1, M.2.2.2⟩)
  case rest =>
    obtain ⟨b1, b2, b3, rfl, rfl, rfl, hne, hne2, hne3, hx, hy, hv, hB⟩ := hcut
    go_wp2
    go_loopw [8, 9, 10] (fun x _ _ wr => ∃ k : Nat, k ≤ n ∧ Nu w wr n b1 (cT L Z k) ∧ Nu w wr n b2 (hT L Z k) ∧ Nu w wr n b3 (eT L Z k) ∧ x = I k ∧ Below w.heap.size w wr) (fun x _ _ _ => n - (intOf x).toNat)
    case atStart => exact ⟨0, by omega, hx, hy, hv, rfl, hB⟩
    case round =>
      clear hx hy hv hB
      obtain ⟨k, hk, hx, hy, hv, rfl, hB⟩ := hrel
      by_cases h : k < n
      · have hd := Lib.hid (Hd.out.keep hB)
        have hck := hd.out.outer h
        have hl1 := (hd.out.row k h).1
        have hl2 := (hd.out.row k h).2.1
        have Hx := Lib.hid hx
        have Hy := Lib.hid hy
        have Hv := Lib.hid hv
        have hf1 := hx.frozen k
        have hf2 := hy.frozen k
        have hf3 := hv.frozen k
        have hc1 := hx.cell h
        have hc2 := hy.cell h
        have hc3 := hv.cell h
        clear hx hy hv
        go_wp2
        go_loopw [9, 10] (fun x _ wr => ∃ i : Nat, i ≤ L k ∧ Nu w wr n b1 (fun u => if u = k then cS (cT L Z k) (Z k) i else cT L Z k u) ∧ Nu w wr n b2 (fun u => if u = k then hS (hT L Z k) (Z k) i else hT L Z k u) ∧ Nu w wr n b3 (fun u => if u = k then eS (L k + 1) (eT L Z k) (Z k) i else eT L Z k u) ∧ x = I i ∧ Below w.heap.size w wr) (fun x _ _ => L k - (intOf x).toNat)
        case atStart => exact ⟨0, by omega, ((Hx.out.set k 1 fun u => rfl).other hne k _).other hne2 k _, ((Hy.out.other (Ne.symm hne) k _).set k 1 fun u => rfl).other hne3 k _, ((Hv.out.other (Ne.symm hne2) k _).other (Ne.symm hne3) k _).set k _ fun u => rfl, rfl, ((hB.setCell Hx.out.new _).setCell Hy.out.new _).setCell Hv.out.new _⟩
        case round =>
          clear hck hd hB hc1 hc2 hf1 hf2 hc3 hf3
          obtain ⟨i, hi, hx, hy, hv, rfl, hB⟩ := hrel
          have hd := Lib.hid (Hd.out.keep hB)
          have hck := hd.out.outer h
          by_cases hi' : i < L k
          · obtain ⟨e, hA⟩ := hd.out.some h hi'
            rw [hA] at hck
            have hz := hd.out.elem h hi' hA
            obtain ⟨p, hp⟩ : ∃ p : Nat, Z k i = p := ⟨(Z k i).toNat, by have := (Hr.out k h i hi').1; omega⟩
            have hpk : p < k := by have := (Hr.out k h i hi').2.1; omega
            rw [hp] at hz
            have c1 := hx.cell h
            have c2 := hx.cell (u := p) (by omega)
            have fk1 := hx.frozen k
            have hpk' : p ≠ k := by omega
            simp only [↓reduceIte, if_neg hpk'] at c1 c2
            have B1 := cS_le (z := Z k) (cT_le L Z k) i
            have B2 := cT_le L Z k p
            have B3 := hS_le (z := Z k) (m := k) (by omega) (hT_le L Z k) i
            have B4 := hT_le L Z k p
            have B5 := eS_le (c := L k + 1) (z := Z k) (m := k * (2 ^ 50 + 1)) (by omega) (by omega) (fun u => eT_le L Z n HL.out k u (by omega)) i (by omega)
            have B6 := eT_le L Z n HL.out k p (by omega)
            have hk1000 : ((k : Nat) : Int) * (2 ^ 50 + 1) ≤ 1000 * (2 ^ 50 + 1) := by omega
            have Hx := Lib.hid hx
            have Hy := Lib.hid hy
            have Hv := Lib.hid hv
            clear hx hy hv
            obtain ⟨x1, hx1⟩ : ∃ x1, x1 = cS (cT L Z k) (Z k) i := ⟨_, rfl⟩
            obtain ⟨y1, hy1⟩ : ∃ x1, x1 = cT L Z k p := ⟨_, rfl⟩
            obtain ⟨x2, hx2⟩ : ∃ x1, x1 = hS (hT L Z k) (Z k) i := ⟨_, rfl⟩
            obtain ⟨y2, hy2⟩ : ∃ x1, x1 = hT L Z k p := ⟨_, rfl⟩
            obtain ⟨x3, hx3⟩ : ∃ x1, x1 = eS (L k + 1) (eT L Z k) (Z k) i := ⟨_, rfl⟩
            obtain ⟨y3, hy3⟩ : ∃ x1, x1 = eT L Z k p := ⟨_, rfl⟩
            rw [← hx1] at c1 B1
            rw [← hy1] at c2 B2
            rw [← hx2] at B3
            rw [← hy2] at B4
            rw [← hx3] at B5
            rw [← hy3] at B6
            have B5' : x3 ≤ 2 ^ 62 := by omega
            have B6' : y3 ≤ 2 ^ 61 := by omega
            have B50 := B5.1
            have B60 := B6.1
            have Hx1 := Lib.hid hx1
            have Hy1 := Lib.hid hy1
            have Hx2 := Lib.hid hx2
            have Hy2 := Lib.hid hy2
            have Hx3 := Lib.hid hx3
            have Hy3 := Lib.hid hy3
            have Hp := Lib.hid hp
            clear hx1 hx2 hx3 hy1 hy2 hy3 hp B5 B6 hk1000
            go_upto_region 10 with fail
            go_region
            generalize hzz : (if 1099511627777 < x1 + y1 then (1099511627777 : Int) else x1 + y1) = z1
            have E1 : z1 = cS (cT L Z k) (Z k) (i + 1) := by
              simp only [cS, Hp.out, Int.toNat_natCast, ← Hx1.out, ← Hy1.out]
              omega
            have Nx : Nu w (wr.setCell ⟨b1, k, none⟩ (I z1)).drew n b1 (fun u => if u = k then cS (cT L Z k) (Z k) (i + 1) else cT L Z k u) := (Hx.out.set k z1 fun u => by split <;> simp_all).drew 1
            have Ny := (Hy.out.other (Ne.symm hne) k (I z1)).drew 1
            have Nv := (Hv.out.other (Ne.symm hne2) k (I z1)).drew 1
            have NB : Below w.heap.size w (wr.setCell ⟨b1, k, none⟩ (I z1)).drew := (hB.setCell (by exact Hx.out.new) (I z1)).drew
            clear hd hz hB hzz E1 c1 c2 fk1 Hx Hy Hv hck
            change Nu w (wr.setCell ⟨b1, k, none⟩ (I z1)).drew n b2 _ at Ny
            change Nu w (wr.setCell ⟨b1, k, none⟩ (I z1)).drew n b3 _ at Nv
            generalize (wr.setCell ⟨b1, k, none⟩ (I z1)).drew = wr at *
            have d1 := Ny.cell h
            have d2 := Ny.cell (u := p) (by omega)
            have fk2 := Ny.frozen k
            simp only [↓reduceIte, if_neg hpk', ← Hx2.out, ← Hy2.out] at d1 d2
            have Hx := Lib.hid Nx
            have Hy := Lib.hid Ny
            have Hv := Lib.hid Nv
            clear Nx Ny Nv
            go_upto_region 11 with fail
            go_region
            generalize hzz : (if x2 < 1 + y2 then 1 + y2 else x2) = z2
            have E1 : z2 = hS (hT L Z k) (Z k) (i + 1) := by
              simp only [hS, Hp.out, Int.toNat_natCast, ← Hx2.out, ← Hy2.out]
              omega
            have Nx := (Hx.out.other hne k (I z2)).drew 1
            have Ny : Nu w (wr.setCell ⟨b2, k, none⟩ (I z2)).drew n b2 (fun u => if u = k then hS (hT L Z k) (Z k) (i + 1) else hT L Z k u) := (Hy.out.set k z2 fun u => by split <;> simp_all).drew 1
            have Nv := (Hv.out.other (Ne.symm hne3) k (I z2)).drew 1
            have NB' : Below w.heap.size w (wr.setCell ⟨b2, k, none⟩ (I z2)).drew := (NB.setCell (by exact Hy.out.new) (I z2)).drew
            clear NB hzz E1 d1 d2 fk2 Hx Hy Hv
            change Nu w (wr.setCell ⟨b2, k, none⟩ (I z2)).drew n b1 _ at Nx
            change Nu w (wr.setCell ⟨b2, k, none⟩ (I z2)).drew n b3 _ at Nv
            generalize (wr.setCell ⟨b2, k, none⟩ (I z2)).drew = wr at *
            have d1 := Nv.cell h
            have d2 := Nv.cell (u := p) (by omega)
            have fk2 := Nv.frozen k
            simp only [↓reduceIte, if_neg hpk', ← Hx3.out, ← Hy3.out] at d1 d2
            have Hx := Lib.hid Nx
            have Hy := Lib.hid Ny
            have Hv := Lib.hid Nv
            clear Nx Ny Nv
            go_upto_region 12 with fail
            go_region
            generalize hzz : (if x3 < (i : Int) + y3 then (i : Int) + y3 else x3) = z3
            have E1 : z3 = eS (L k + 1) (eT L Z k) (Z k) (i + 1) := by
              simp only [eS, Hp.out, Int.toNat_natCast, ← Hx3.out, ← Hy3.out]
              omega
            have Nx := (Hx.out.other hne2 k (I z3)).drew 1
            have Ny := (Hy.out.other hne3 k (I z3)).drew 1
            have Nv : Nu w (wr.setCell ⟨b3, k, none⟩ (I z3)).drew n b3 (fun u => if u = k then eS (L k + 1) (eT L Z k) (Z k) (i + 1) else eT L Z k u) := (Hv.out.set k z3 fun u => by split <;> simp_all).drew 1
            have NB : Below w.heap.size w (wr.setCell ⟨b3, k, none⟩ (I z3)).drew := (NB'.setCell (by exact Hv.out.new) (I z3)).drew
            clear NB' hzz E1 d1 d2 fk2 Hx Hy Hv
            go_wp2
            go_roundw
            case rel => exact ⟨i + 1, by omega, Nx, Ny, Nv, by go_num, NB⟩
            case measure => simp [intOf]; omega
          · obtain rfl : i = L k := by omega
            go_wp2
            go_roundw
            case rel => exact ⟨k + 1, by omega, hx, hy, hv, by go_num, hB⟩
            case measure => simp [intOf]; omega
      · obtain rfl : k = n := by omega
        go_wp2
        go_ret3
        exact ⟨⟨b1, b2, b3, rfl, hx, hy⟩, hB⟩

end Go.Proofs.Ytjahkdomofhfgaa
