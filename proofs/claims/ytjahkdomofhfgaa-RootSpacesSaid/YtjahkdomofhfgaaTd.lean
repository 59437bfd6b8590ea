/- The numbers of calls and the heights of a graph, by the program's walk through its own slices. -/
import Derived.Test.YtjahkdomofhfgaaTc
import Derived.Deep.OwnRows
import Derived.Deep.Cut
import Derived.Deep.CutRange
namespace Go.Proofs.Ytjahkdomofhfgaa
open Go.RowKit
set_option linter.unusedVariables false
set_option linter.unusedSimpArgs false

def cS (g : Nat → Int) (z : Nat → Int) : Nat → Int
  | 0 => 1
  | j + 1 => min (cS g z j + g (z j).toNat) 1099511627777
def cT (L : Nat → Nat) (Z : Nat → Nat → Int) : Nat → Nat → Int
  | 0 => fun _ => 0
  | v + 1 => fun u => if u = v then cS (cT L Z v) (Z v) (L v) else cT L Z v u
def hS (g : Nat → Int) (z : Nat → Int) : Nat → Int
  | 0 => 1
  | j + 1 => max (hS g z j) (1 + g (z j).toNat)
def hT (L : Nat → Nat) (Z : Nat → Nat → Int) : Nat → Nat → Int
  | 0 => fun _ => 0
  | v + 1 => fun u => if u = v then hS (hT L Z v) (Z v) (L v) else hT L Z v u
def eS (c : Int) (g : Nat → Int) (z : Nat → Int) : Nat → Int
  | 0 => c
  | j + 1 => max (eS c g z j) (j + g (z j).toNat)
def eT (L : Nat → Nat) (Z : Nat → Nat → Int) : Nat → Nat → Int
  | 0 => fun _ => 0
  | v + 1 => fun u => if u = v then eS (L v + 1) (eT L Z v) (Z v) (L v) else eT L Z v u

theorem cS_le {g z : Nat → Int} (h : ∀ u, 0 ≤ g u ∧ g u ≤ 1099511627777) : ∀ j, 0 ≤ cS g z j ∧ cS g z j ≤ 1099511627777
  | 0 => by simp [cS]
  | j + 1 => by
    have h1 := cS_le (z := z) h j
    have h2 := h (z j).toNat
    simp only [cS]
    omega
theorem cT_le (L : Nat → Nat) (Z : Nat → Nat → Int) : ∀ v u, 0 ≤ cT L Z v u ∧ cT L Z v u ≤ 1099511627777
  | 0, u => by simp [cT]
  | v + 1, u => by
    simp only [cT]
    split
    · exact cS_le (cT_le L Z v) _
    · exact cT_le L Z v u
theorem hS_le {g z : Nat → Int} {m : Int} (hm : 0 ≤ m) (h : ∀ u, 0 ≤ g u ∧ g u ≤ m) : ∀ j, 0 ≤ hS g z j ∧ hS g z j ≤ 1 + m
  | 0 => by simp only [hS]; omega
  | j + 1 => by
    have h1 := hS_le (z := z) hm h j
    have h2 := h (z j).toNat
    simp only [hS]
    omega
theorem hT_le (L : Nat → Nat) (Z : Nat → Nat → Int) : ∀ v u, 0 ≤ hT L Z v u ∧ hT L Z v u ≤ v
  | 0, u => by simp [hT]
  | v + 1, u => by
    simp only [hT]
    split
    · have := hS_le (z := Z v) (m := v) (by omega) (hT_le L Z v) (L v)
      omega
    · have := hT_le L Z v u
      omega
theorem eS_le {c : Int} {g z : Nat → Int} {m : Int} (hm : 0 ≤ m) (hc : 0 ≤ c ∧ c ≤ 2 ^ 50 + 1) (h : ∀ u, 0 ≤ g u ∧ g u ≤ m) : ∀ j, j ≤ 2 ^ 50 + 1 → 0 ≤ eS c g z j ∧ eS c g z j ≤ 2 ^ 50 + 1 + m
  | 0, _ => by simp only [eS]; omega
  | j + 1, hj => by
    have h1 := eS_le (z := z) hm hc h j (by omega)
    have h2 := h (z j).toNat
    simp only [eS]
    omega
theorem eT_le (L : Nat → Nat) (Z : Nat → Nat → Int) (n : Nat) (hL : ∀ v, v < n → L v ≤ 2 ^ 50) : ∀ v u, v ≤ n → 0 ≤ eT L Z v u ∧ eT L Z v u ≤ v * (2 ^ 50 + 1)
  | 0, u, _ => by simp [eT]
  | v + 1, u, hv => by
    have hl := hL v (by omega)
    simp only [eT]
    split
    · have := eS_le (c := L v + 1) (z := Z v) (m := v * (2 ^ 50 + 1)) (by omega) (by omega) (fun u => eT_le L Z n hL v u (by omega)) (L v) (by omega)
      omega
    · have := eT_le L Z n hL v u (by omega)
      omega

/-- a new slice of n numbers at block b -/
structure Nu (w wr : World) (n b : Nat) (f : Nat → Int) : Prop where
  new : w.heap.size ≤ b
  row : wr.rowIs b 3 n (fun u => I (f u))
namespace Nu
variable {w wr wr' : World} {n b c : Nat} {f g : Nat → Int}
theorem cell (h : Nu w wr n b f) {u : Nat} (hu : u < n) : wr.cell? ⟨b, u, none⟩ = some (I (f u)) := h.row.cell hu
theorem frozen (h : Nu w wr n b f) (u : Nat) : wr.frozen? ⟨b, u, none⟩ = false := h.row.frozen u
theorem set (h : Nu w wr n b f) (i : Nat) (x : Int) (e : ∀ u, (if u = i then x else f u) = g u) : Nu w (wr.setCell ⟨b, i, none⟩ (I x)) n b g :=
  ⟨h.new, (h.row.set i (I x)).congr fun u _ => by rw [← e u]; split <;> rfl⟩
theorem other (h : Nu w wr n b f) (hb : b ≠ c) (i : Nat) (x : Value) : Nu w (wr.setCell ⟨c, i, none⟩ x) n b f := ⟨h.new, h.row.setOther hb x⟩
theorem drew (h : Nu w wr n b f) (m : Nat) : Nu w (wr.drewN m) n b f := ⟨h.new, h.row⟩
end Nu

abbrev Mk (n : Nat) : Obj := .cells (madeCells #[Value.int IntKind.i64 0] n) 3
theorem Nu.alloc {w wr : World} {n b : Nat} {f : Nat → Int} (h : Nu w wr n b f) (o : Obj) : Nu w (wr.alloc o) n b f := ⟨h.new, h.row.alloc o⟩
theorem Nu.made (w wr : World) (n : Nat) (h : w.heap.size ≤ wr.heap.size) : Nu w (wr.alloc (Mk n)) n wr.heap.size (fun _ => 0) := ⟨h, World.rowIs_made wr _ n 3⟩
theorem made2 (w : World) (n : Nat) : Nu w ((w.alloc (Mk n)).alloc (Mk n)).drew n w.heap.size (fun _ => 0) ∧ Nu w ((w.alloc (Mk n)).alloc (Mk n)).drew n (w.heap.size + 1) (fun _ => 0) ∧ Below w.heap.size w ((w.alloc (Mk n)).alloc (Mk n)).drew := by
  have h1 := Nu.made w w n (Nat.le_refl _)
  have h2 := Nu.made w (w.alloc (Mk n)) n (by simp)
  rw [show (w.alloc (Mk n)).heap.size = w.heap.size + 1 by simp] at h2
  exact ⟨(h1.alloc _).drew 1, h2.drew 1, (((Below.refl _ _).alloc (Nat.le_refl _) _).alloc (by simp) _).drew⟩

theorem Try.info3 : (Try.prog.info? 3).map (fun i => (i.zero, i.size, i.bytes)) = some (some (.int .i64 0), 1, 8) := by kernel_rfl

set_option maxHeartbeats 8000000 in
theorem calls_any {w : World} {v : Value} {n : Nat} {A : Nat → Option Addr} {L C : Nat → Nat} {Z : Nat → Nat → Int} (hd : Dg w v n A L C Z) (hr : okDag n L Z) : Calls Try.prog 17 #[v] w fun e w' => (∃ b1 b2, e = .returned (.tuple #[.slice (some ⟨b1, 0, none⟩) n n, .slice (some ⟨b2, 0, none⟩) n n]) ∧ Nu w w' n b1 (cT L Z n) ∧ Nu w w' n b2 (hT L Z n)) ∧ Below w.heap.size w w' := by
  obtain ⟨a, cap, rfl, h2, h3, h4, h5⟩ := hd.top
  obtain ⟨hn1, hn2, Hr⟩ := hr
  rcases a with _ | b
  · have := h4 rfl; omega
  have Hr := Lib.hid Hr
  have Hd := Lib.hid hd
  clear h4 h5 hd
  have hmk := run_make_row' (P := Try.prog) 27 3 (.int .i64 0) 8 Try.underlying27 Try.info3 rfl .i64 .i64 n (by omega) (by omega)
  go_enter Try.func17, Try.ntmps17
  go_upto_region 1 with fail
  go_cut [4, 5] from 10 to 15 (fun x y wr => ∃ b1 b2, x = .slice (some ⟨b1, 0, none⟩) n n ∧ y = .slice (some ⟨b2, 0, none⟩) n n ∧ b1 ≠ b2 ∧ Nu w wr n b1 (fun _ => 0) ∧ Nu w wr n b2 (fun _ => 0) ∧ Below w.heap.size w wr)
  case first =>
    go_region
    all_goals (go_wp2_with fail; go_meet; have M := made2 w n; first
      | exact ⟨_, _, rfl, rfl, by omega, M.1, M.2.1, M.2.2⟩
      | exact ⟨_, _, rfl, rfl, by omega, M.2.1, M.1, M.2.2⟩)
  case rest =>
    obtain ⟨b1, b2, rfl, rfl, hne, hx, hy, hB⟩ := hcut
    go_wp2
    go_loopw [6, 7, 9, 18] (fun _ _ _ x wr => ∃ k : Nat, k ≤ n ∧ Nu w wr n b1 (cT L Z k) ∧ Nu w wr n b2 (hT L Z k) ∧ x = I k ∧ Below w.heap.size w wr) (fun _ _ _ x _ => n - (intOf x).toNat)
    case atStart => exact ⟨0, by omega, hx, hy, rfl, hB⟩
    case round =>
      clear hx hy hB
      obtain ⟨k, hk, hx, hy, rfl, hB⟩ := hrel
      by_cases h : k < n
      · have hd := Lib.hid (Hd.out.keep hB)
        have hck := hd.out.outer h
        have hl1 := (hd.out.row k h).1
        have hl2 := (hd.out.row k h).2.1
        have Hx := Lib.hid hx
        have Hy := Lib.hid hy
        have hf1 := hx.frozen k
        have hf2 := hy.frozen k
        have hc1 := hx.cell h
        have hc2 := hy.cell h
        clear hx hy
        go_wp2
        go_loopw [9, 31] (fun _ x wr => ∃ i : Nat, i ≤ L k ∧ Nu w wr n b1 (fun u => if u = k then cS (cT L Z k) (Z k) i else cT L Z k u) ∧ Nu w wr n b2 (fun u => if u = k then hS (hT L Z k) (Z k) i else hT L Z k u) ∧ x = I i ∧ Below w.heap.size w wr) (fun _ x _ => L k - (intOf x).toNat)
        case atStart => exact ⟨0, by omega, (Hx.out.set k 1 fun u => rfl).other hne k _, (Hy.out.other (Ne.symm hne) k _).set k 1 fun u => rfl, rfl, (hB.setCell Hx.out.new _).setCell Hy.out.new _⟩
        case round =>
          clear hck hd hB hc1 hc2 hf1 hf2
          obtain ⟨i, hi, hx, hy, rfl, hB⟩ := hrel
          have hd := Lib.hid (Hd.out.keep hB)
          by_cases hi' : i < L k
          · obtain ⟨e, hA⟩ := hd.out.some h hi'
            have hz := hd.out.elem h hi' hA
            obtain ⟨p, hp⟩ : ∃ p : Nat, Z k i = p := ⟨(Z k i).toNat, by have := (Hr.out k h i hi').1; omega⟩
            have hpk : p < k := by have := (Hr.out k h i hi').2.1; omega
            rw [hp] at hz
            have c1 := hx.cell h
            have c2 := hx.cell (u := p) (by omega)
            have d1 := hy.cell h
            have d2 := hy.cell (u := p) (by omega)
            have fk1 := hx.frozen k
            have fk2 := hy.frozen k
            have hpk' : p ≠ k := by omega
            simp only [↓reduceIte, if_neg hpk'] at c1 c2 d1 d2
            have B1 := cS_le (z := Z k) (cT_le L Z k) i
            have B2 := cT_le L Z k p
            have B3 := hS_le (z := Z k) (m := k) (by omega) (hT_le L Z k) i
            have B4 := hT_le L Z k p
            have Hx := Lib.hid hx
            have Hy := Lib.hid hy
            clear hx hy
            obtain ⟨x1, hx1⟩ : ∃ x1, x1 = cS (cT L Z k) (Z k) i := ⟨_, rfl⟩
            obtain ⟨y1, hy1⟩ : ∃ x1, x1 = cT L Z k p := ⟨_, rfl⟩
            obtain ⟨x2, hx2⟩ : ∃ x1, x1 = hS (hT L Z k) (Z k) i := ⟨_, rfl⟩
            obtain ⟨y2, hy2⟩ : ∃ x1, x1 = hT L Z k p := ⟨_, rfl⟩
            rw [← hx1] at c1 B1
            rw [← hy1] at c2 B2
            rw [← hx2] at d1 B3
            rw [← hy2] at d2 B4
            have Hx1 := Lib.hid hx1
            have Hy1 := Lib.hid hy1
            have Hx2 := Lib.hid hx2
            have Hy2 := Lib.hid hy2
            have Hp := Lib.hid hp
            clear hx1 hx2 hy1 hy2 hp
            go_upto_region 9 with fail
            go_region
            generalize hzz : (if 1099511627777 < x1 + y1 then (1099511627777 : Int) else x1 + y1) = z1
            have E1 : z1 = cS (cT L Z k) (Z k) (i + 1) := by
              simp only [cS, Hp.out, Int.toNat_natCast, ← Hx1.out, ← Hy1.out]
              omega
            have Nx : Nu w (wr.setCell ⟨b1, k, none⟩ (I z1)).drew n b1 (fun u => if u = k then cS (cT L Z k) (Z k) (i + 1) else cT L Z k u) := (Hx.out.set k z1 fun u => by split <;> simp_all).drew 1
            have Ny : Nu w (wr.setCell ⟨b1, k, none⟩ (I z1)).drew n b2 (fun u => if u = k then hS (hT L Z k) (Z k) i else hT L Z k u) := (Hy.out.other (Ne.symm hne) k (I z1)).drew 1
            have NB : Below w.heap.size w (wr.setCell ⟨b1, k, none⟩ (I z1)).drew := (hB.setCell (by exact Hx.out.new) (I z1)).drew
            clear hd hz hB hzz E1 c1 c2 d1 d2 fk1 fk2 Hx Hy
            generalize (wr.setCell ⟨b1, k, none⟩ (I z1)).drew = wr at *
            have d1 := Ny.cell h
            have d2 := Ny.cell (u := p) (by omega)
            have fk2 := Ny.frozen k
            simp only [↓reduceIte, if_neg hpk', ← Hx2.out, ← Hy2.out] at d1 d2
            have Hx := Lib.hid Nx
            have Hy := Lib.hid Ny
            clear Nx Ny
            go_upto_region 10 with fail
            go_region
            generalize hzz : (if x2 < y2 + 1 then y2 + 1 else x2) = z2
            have E1 : z2 = hS (hT L Z k) (Z k) (i + 1) := by
              simp only [hS, Hp.out, Int.toNat_natCast, ← Hx2.out, ← Hy2.out]
              omega
            have Nx := (Hx.out.other hne k (I z2)).drew 1
            have Ny : Nu w (wr.setCell ⟨b2, k, none⟩ (I z2)).drew n b2 (fun u => if u = k then hS (hT L Z k) (Z k) (i + 1) else hT L Z k u) := (Hy.out.set k z2 fun u => by split <;> simp_all).drew 1
            have NB' : Below w.heap.size w (wr.setCell ⟨b2, k, none⟩ (I z2)).drew := (NB.setCell (by exact Hy.out.new) (I z2)).drew
            clear NB hzz E1 d1 d2 fk2 Hx Hy
            go_wp2
            go_roundw
            case rel => exact ⟨i + 1, by omega, Nx, Ny, by go_num, NB'⟩
            case measure => simp [intOf]; omega
          · obtain rfl : i = L k := by omega
            go_wp2
            go_roundw
            case rel => exact ⟨k + 1, by omega, hx, hy, by go_num, hB⟩
            case measure => simp [intOf]; omega
      · obtain rfl : k = n := by omega
        go_wp2
        go_ret2
        exact ⟨⟨b1, b2, rfl, hx, hy⟩, hB⟩

end Go.Proofs.Ytjahkdomofhfgaa
