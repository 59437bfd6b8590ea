/- What formula's of, Valid, Inputs, Size and Depth answer. -/
import Derived.Test.YtpfbommaddaijaaZeV4
import Derived.Test.YtpfbommaddaijaaZex22
namespace Go.Proofs.Ytpfbommaddaijaa
open Go.RowKit Go.Maps Go.Proofs.YtpfbommaddaijaaW.PrintWords Go.Proofs.YtpfbommaddaijaaW.PrintLast PBoundTo
set_option linter.unusedVariables false
set_option linter.unusedSimpArgs false

/-- what of answers -/
def OfR (W : World) (x : S24) (e : Ending) (W' : World) : Prop := ∃ (N S d : Nat) (In : Int), e = .returned (.tuple #[.agg #[I N, I S, I d, I In, I 0], .bool (wok 0 1 x)]) ∧ Below W.heap.size W W' ∧ (wok 0 1 x = true → N = fnd x ∧ S = fsz x ∧ d = fdp x ∧ In = max 0 (fin x))
set_option maxHeartbeats 4000000 in
set_option maxRecDepth 100000 in
theorem of127 {W : World} {x : S24} {A : Option Addr} {c : Nat} (hC : Kd.C k24 W A x.f2.length x.f2) : Calls Try.prog 127 #[.agg #[I x.f0, I x.f1, .slice A x.f2.length c]] W (OfR W x) := by
  obtain ⟨W1, hW1⟩ : ∃ W1, W1 = W.alloc (.cells #[I x.f0, I x.f1, .slice A x.f2.length c] 24) := ⟨_, rfl⟩
  obtain ⟨W2, hW2⟩ : ∃ W2, W2 = W1.alloc (.cells #[I 0, I 0, I 0, I 0, I 0] 149) := ⟨_, rfl⟩
  obtain ⟨W3, hW3⟩ : ∃ W3, W3 = W2.alloc (.cells #[I 0, I 0, I 0, I 0, I 0] 149) := ⟨_, rfl⟩
  have hs1 : W1.heap.size = W.heap.size + 1 := by rw [hW1]; exact World.size_alloc _ _
  have hs2 : W2.heap.size = W.heap.size + 2 := by rw [hW2, World.size_alloc, hs1]
  have hB3 : Below W.heap.size W W3 := by rw [hW3]; exact below_alloc (by rw [hW2]; exact below_alloc (by rw [hW1]; exact below_alloc (Below.refl _ _) _) _) _
  have BK : W3.heap[W.heap.size]? = some (.cells #[I x.f0, I x.f1, .slice A x.f2.length c] 24 (0, 0)) := by rw [hW3]; exact blk_alloc (by rw [hW2]; exact blk_alloc (by rw [hW1]; exact blk_new _ _) _) _
  have BR : W3.heap[W.heap.size + 1]? = some (.cells #[I 0, I 0, I 0, I 0, I 0] 149 (0, 0)) := by rw [hW3]; exact blk_alloc (by rw [hW2, ← hs1]; exact blk_new _ _) _
  have BS : W3.heap[W.heap.size + 2]? = some (.cells #[I 0, I 0, I 0, I 0, I 0] 149 (0, 0)) := by rw [hW3, ← hs2]; exact blk_new _ _
  have HWK := Lib.hid (walk_any (fns x) x (w0 := W) (W := W3) (c := c) (gn := W.heap.size + 2) (N := 0) (S := 0) (L := 1) (D := 0) (In := 0) (Ne := 0) (Nat.le_refl _) hC hB3 (by omega) (by decide) (by decide) (by decide) (by decide) BS)
  unfold WkR at HWK
  rw [show ((1 : Nat) : Int) = 1 from rfl] at HWK
  have HB3 := Lib.hid hB3
  have HBR := Lib.hid BR
  have k0 : W3.cell? ⟨W.heap.size, 0, none⟩ = some (I x.f0) := (blk_cell BK 0).trans rfl
  have k1 : W3.cell? ⟨W.heap.size, 1, none⟩ = some (I x.f1) := (blk_cell BK 1).trans rfl
  have k2 : W3.cell? ⟨W.heap.size, 2, none⟩ = some (.slice A x.f2.length c) := (blk_cell BK 2).trans rfl
  have HS1 := Lib.hid hs1
  have HS2 := Lib.hid hs2
  clear BK BR BS hB3 hC
  go_enter Try.func127, Try.ntmps127
  go_upto_region 2 with fail
  rw [← hW1, ← hW2, ← hW3, show W.heap.size + 1 + 1 = W.heap.size + 2 from rfl]
  clear hW1 hW2 hW3 hs1 hs2
  go_upto_region 3 with (go_at_call 145; (with_reducible refine HWK.out.mono ?_); rintro e w4 ⟨d, N, S, In, rfl, hg, hc, hi, hx⟩; have HG4 := Lib.hid hg; have HC4 := Lib.hid hc; have HX := Lib.hid hx; clear hg hc hi hx)
  have f2 := blk_frozen HC4.out 2
  have d2 : w4.cell? ⟨W.heap.size + 2, 2, none⟩ = some (I 0) := (blk_cell HC4.out 2).trans rfl
  clear k0 k1 k2
  go_upto_region 4 with fail
  have HC5 : Hid ((w4.setCell ⟨W.heap.size + 2, 2, none⟩ (I d)).heap[W.heap.size + 2]? = some (.cells #[I N, I S, I d, I In, I 0] 149 (0, 0))) := Lib.hid (blk_set HC4.out 2 _)
  have HR5 : Hid ((w4.setCell ⟨W.heap.size + 2, 2, none⟩ (I d)).heap[W.heap.size + 1]? = some (.cells #[I 0, I 0, I 0, I 0, I 0] 149 (0, 0))) := Lib.hid (blk_far (blk_grown HBR.out HG4.out (fun e => by injection e with e; omega)) (show W.heap.size + 1 ≠ W.heap.size + 2 by omega) _)
  have HB5 : Hid (Below W.heap.size W (w4.setCell ⟨W.heap.size + 2, 2, none⟩ (I d))) := Lib.hid (below_set (pw_below_grown HB3.out _ HB3.out.size HG4.out (fun k hk => by cases hk; exact Nat.le_add_right _ _)) (Nat.le_add_right _ _))
  clear f2 d2
  generalize w4.setCell ⟨W.heap.size + 2, 2, none⟩ (I d) = W5 at *
  have d0 : W5.cell? ⟨W.heap.size + 2, 0, none⟩ = some (I N) := (blk_cell HC5.out 0).trans rfl
  have d1 : W5.cell? ⟨W.heap.size + 2, 1, none⟩ = some (I S) := (blk_cell HC5.out 1).trans rfl
  have d2 : W5.cell? ⟨W.heap.size + 2, 2, none⟩ = some (I d) := (blk_cell HC5.out 2).trans rfl
  have d3 : W5.cell? ⟨W.heap.size + 2, 3, none⟩ = some (I In) := (blk_cell HC5.out 3).trans rfl
  have d4 : W5.cell? ⟨W.heap.size + 2, 4, none⟩ = some (I 0) := (blk_cell HC5.out 4).trans rfl
  have r0 : W5.cell? ⟨W.heap.size + 1, 0, none⟩ = some (I 0) := (blk_cell HR5.out 0).trans rfl
  have r1 : W5.cell? ⟨W.heap.size + 1, 1, none⟩ = some (I 0) := (blk_cell HR5.out 1).trans rfl
  have r2 : W5.cell? ⟨W.heap.size + 1, 2, none⟩ = some (I 0) := (blk_cell HR5.out 2).trans rfl
  have r3 : W5.cell? ⟨W.heap.size + 1, 3, none⟩ = some (I 0) := (blk_cell HR5.out 3).trans rfl
  have r4 : W5.cell? ⟨W.heap.size + 1, 4, none⟩ = some (I 0) := (blk_cell HR5.out 4).trans rfl
  have q0 := blk_frozen HR5.out 0
  have q1 := blk_frozen HR5.out 1
  have q2 := blk_frozen HR5.out 2
  have q3 := blk_frozen HR5.out 3
  have q4 := blk_frozen HR5.out 4
  go_wp2
  have HF := Lib.hid (blk_put5 (a := I N) (b := I S) (c := I d) (d := I In) (e := I 0) HR5.out)
  have HBF := Lib.hid (below_put5 (a := I N) (b := I S) (c := I d) (d := I In) (e := I 0) HB5.out (Nat.le_add_right _ 1))
  refine bodyPost_ret (results_ct (by rfl) _ _ (W.heap.size + 1) 149 #[I N, I S, I d, I In, I 0] (0, 0) _ (by rfl) HF.out Try.underlying149 (by rfl) (by kernel_rfl)) rfl ?_
  unfold OfR
  exact ⟨N, S, d, In, rfl, HBF.out, fun h => by obtain ⟨h1, h2, h3, h4⟩ := HX.out h; exact ⟨by omega, by omega, h1, h4⟩⟩
set_option maxHeartbeats 4000000 in
theorem fvalid_any {W : World} {x : S24} {A : Option Addr} {c : Nat} (hC : Kd.C k24 W A x.f2.length x.f2) : Calls Try.prog 91 #[.agg #[I x.f0, I x.f1, .slice A x.f2.length c]] W fun e W' => e = .returned (.bool (wok 0 1 x)) ∧ Below W.heap.size W W' := by
  obtain ⟨W1, hW1⟩ : ∃ W1, W1 = W.alloc (.cells #[I x.f0, I x.f1, .slice A x.f2.length c] 24) := ⟨_, rfl⟩
  have hB1 : Below W.heap.size W W1 := by rw [hW1]; exact below_alloc (Below.refl _ _) _
  have BK : W1.heap[W.heap.size]? = some (.cells #[I x.f0, I x.f1, .slice A x.f2.length c] 24 (0, 0)) := by rw [hW1]; exact blk_new _ _
  have k0 : W1.cell? ⟨W.heap.size, 0, none⟩ = some (I x.f0) := (blk_cell BK 0).trans rfl
  have k1 : W1.cell? ⟨W.heap.size, 1, none⟩ = some (I x.f1) := (blk_cell BK 1).trans rfl
  have k2 : W1.cell? ⟨W.heap.size, 2, none⟩ = some (.slice A x.f2.length c) := (blk_cell BK 2).trans rfl
  have HB1 := Lib.hid hB1
  have HO := Lib.hid (of127 (W := W1) (c := c) (Kd.C_below hC hB1))
  unfold OfR at HO
  clear hC BK hB1
  go_enter Try.func91, Try.ntmps91
  go_upto_region 1 with fail
  rw [← hW1]
  clear hW1
  go_wp2_with (go_at_call 127; (with_reducible refine HO.out.mono ?_); rintro e w3 ⟨N, S, d, In, rfl, hb, hx⟩; have HB3 := Lib.hid (HB1.out.trans (hb.mono HB1.out.size)); clear hb hx)
  go_ret
  exact ⟨rfl, below_alloc HB3.out _⟩
/-- a part of a shape -/
def Prt (f : FuncId) (g : Int → Int → Int → Int → Int) : Prop := ∀ (w : World) (N S d In : Int), Calls Try.prog f #[.agg #[I N, I S, I d, I In, I 0]] w fun e w' => e = .returned (I (g N S d In)) ∧ Below w.heap.size w w'
theorem prt129 : Prt 129 (fun _ _ _ i => i) := fun w N S d In => by
  go_enter Try.func129, Try.ntmps129
  go_wp2
  go_ret
  exact ⟨rfl, below_alloc (Below.refl _ _) _⟩
theorem prt132 : Prt 132 (fun _ s _ _ => s) := fun w N S d In => by
  go_enter Try.func132, Try.ntmps132
  go_wp2
  go_ret
  exact ⟨rfl, below_alloc (Below.refl _ _) _⟩
theorem prt133 : Prt 133 (fun _ _ d _ => d) := fun w N S d In => by
  go_enter Try.func133, Try.ntmps133
  go_wp2
  go_ret
  exact ⟨rfl, below_alloc (Below.refl _ _) _⟩
def MsR (W : World) (x : S24) (g : Int → Int → Int → Int → Int) (e : Ending) (W' : World) : Prop := ∃ v, e = .returned (I v) ∧ Below W.heap.size W W' ∧ (wok 0 1 x = true → v = g (fnd x) (fsz x) (fdp x) (max 0 (fin x))) ∧ (wok 0 1 x = false → v = -1)
set_option maxHeartbeats 4000000 in
theorem measure128_129 {W : World} {x : S24} {A : Option Addr} {c : Nat} (hC : Kd.C k24 W A x.f2.length x.f2) : Calls Try.prog 128 #[.agg #[I x.f0, I x.f1, .slice A x.f2.length c], .func (.func 129) #[] #[]] W (MsR W x (fun _ _ _ i => i)) := by
  obtain ⟨W1, hW1⟩ : ∃ W1, W1 = W.alloc (.cells #[I x.f0, I x.f1, .slice A x.f2.length c] 24) := ⟨_, rfl⟩
  have hB1 : Below W.heap.size W W1 := by rw [hW1]; exact below_alloc (Below.refl _ _) _
  have BK : W1.heap[W.heap.size]? = some (.cells #[I x.f0, I x.f1, .slice A x.f2.length c] 24 (0, 0)) := by rw [hW1]; exact blk_new _ _
  have k0 : W1.cell? ⟨W.heap.size, 0, none⟩ = some (I x.f0) := (blk_cell BK 0).trans rfl
  have k1 : W1.cell? ⟨W.heap.size, 1, none⟩ = some (I x.f1) := (blk_cell BK 1).trans rfl
  have k2 : W1.cell? ⟨W.heap.size, 2, none⟩ = some (.slice A x.f2.length c) := (blk_cell BK 2).trans rfl
  have HB1 := Lib.hid hB1
  have HO := Lib.hid (of127 (W := W1) (c := c) (Kd.C_below hC hB1))
  unfold OfR at HO
  have HP := Lib.hid prt129
  unfold Prt at HP
  clear hC BK hB1
  cases hok : wok 0 1 x with
  | false =>
    have HOK := Lib.hid hok
    rw [hok] at HO
    clear hok
    go_enter Try.func128, Try.ntmps128
    go_upto_region 1 with fail
    rw [← hW1]
    clear hW1
    go_wp2_with (go_at_call 127; (with_reducible refine HO.out.mono ?_); rintro e w3 ⟨N, S, d, In, rfl, hb, hx⟩; have HB3 := Lib.hid (HB1.out.trans (hb.mono HB1.out.size)); clear hb hx)
    go_ret
    unfold MsR
    exact ⟨-1, rfl, below_alloc HB3.out _, (fun h => by rw [HOK.out] at h; cases h), fun _ => rfl⟩
  | true =>
    have HOK := Lib.hid hok
    rw [hok] at HO
    clear hok
    go_enter Try.func128, Try.ntmps128
    go_upto_region 1 with fail
    rw [← hW1]
    clear hW1
    go_wp2_with (first | (go_at_call 127; (with_reducible refine HO.out.mono ?_); rintro e w3 ⟨N, S, d, In, rfl, hb, hx⟩; have HB3 := Lib.hid (HB1.out.trans (hb.mono HB1.out.size)); have HX := Lib.hid (hx rfl); clear hb hx) | (go_at_call 129; (with_reducible refine (HP.out _ _ _ _ _).mono ?_); rintro e w4 ⟨rfl, hb⟩; have HB4 := Lib.hid ((below_alloc HB3.out _).trans (hb.mono (below_alloc HB3.out _).size)); clear hb))
    go_ret
    unfold MsR
    obtain ⟨h1, h2, h3, h4⟩ := HX.out
    exact ⟨_, rfl, HB4.out, (fun h => by subst h1 h2 h3 h4; rfl), fun h => by rw [HOK.out] at h; cases h⟩
set_option maxHeartbeats 4000000 in
theorem measure128_132 {W : World} {x : S24} {A : Option Addr} {c : Nat} (hC : Kd.C k24 W A x.f2.length x.f2) : Calls Try.prog 128 #[.agg #[I x.f0, I x.f1, .slice A x.f2.length c], .func (.func 132) #[] #[]] W (MsR W x (fun _ s _ _ => s)) := by
  obtain ⟨W1, hW1⟩ : ∃ W1, W1 = W.alloc (.cells #[I x.f0, I x.f1, .slice A x.f2.length c] 24) := ⟨_, rfl⟩
  have hB1 : Below W.heap.size W W1 := by rw [hW1]; exact below_alloc (Below.refl _ _) _
  have BK : W1.heap[W.heap.size]? = some (.cells #[I x.f0, I x.f1, .slice A x.f2.length c] 24 (0, 0)) := by rw [hW1]; exact blk_new _ _
  have k0 : W1.cell? ⟨W.heap.size, 0, none⟩ = some (I x.f0) := (blk_cell BK 0).trans rfl
  have k1 : W1.cell? ⟨W.heap.size, 1, none⟩ = some (I x.f1) := (blk_cell BK 1).trans rfl
  have k2 : W1.cell? ⟨W.heap.size, 2, none⟩ = some (.slice A x.f2.length c) := (blk_cell BK 2).trans rfl
  have HB1 := Lib.hid hB1
  have HO := Lib.hid (of127 (W := W1) (c := c) (Kd.C_below hC hB1))
  unfold OfR at HO
  have HP := Lib.hid prt132
  unfold Prt at HP
  clear hC BK hB1
  cases hok : wok 0 1 x with
  | false =>
    have HOK := Lib.hid hok
    rw [hok] at HO
    clear hok
    go_enter Try.func128, Try.ntmps128
    go_upto_region 1 with fail
    rw [← hW1]
    clear hW1
    go_wp2_with (go_at_call 127; (with_reducible refine HO.out.mono ?_); rintro e w3 ⟨N, S, d, In, rfl, hb, hx⟩; have HB3 := Lib.hid (HB1.out.trans (hb.mono HB1.out.size)); clear hb hx)
    go_ret
    unfold MsR
    exact ⟨-1, rfl, below_alloc HB3.out _, (fun h => by rw [HOK.out] at h; cases h), fun _ => rfl⟩
  | true =>
    have HOK := Lib.hid hok
    rw [hok] at HO
    clear hok
    go_enter Try.func128, Try.ntmps128
    go_upto_region 1 with fail
    rw [← hW1]
    clear hW1
    go_wp2_with (first | (go_at_call 127; (with_reducible refine HO.out.mono ?_); rintro e w3 ⟨N, S, d, In, rfl, hb, hx⟩; have HB3 := Lib.hid (HB1.out.trans (hb.mono HB1.out.size)); have HX := Lib.hid (hx rfl); clear hb hx) | (go_at_call 132; (with_reducible refine (HP.out _ _ _ _ _).mono ?_); rintro e w4 ⟨rfl, hb⟩; have HB4 := Lib.hid ((below_alloc HB3.out _).trans (hb.mono (below_alloc HB3.out _).size)); clear hb))
    go_ret
    unfold MsR
    obtain ⟨h1, h2, h3, h4⟩ := HX.out
    exact ⟨_, rfl, HB4.out, (fun h => by subst h1 h2 h3 h4; rfl), fun h => by rw [HOK.out] at h; cases h⟩
set_option maxHeartbeats 4000000 in
theorem measure128_133 {W : World} {x : S24} {A : Option Addr} {c : Nat} (hC : Kd.C k24 W A x.f2.length x.f2) : Calls Try.prog 128 #[.agg #[I x.f0, I x.f1, .slice A x.f2.length c], .func (.func 133) #[] #[]] W (MsR W x (fun _ _ d _ => d)) := by
  obtain ⟨W1, hW1⟩ : ∃ W1, W1 = W.alloc (.cells #[I x.f0, I x.f1, .slice A x.f2.length c] 24) := ⟨_, rfl⟩
  have hB1 : Below W.heap.size W W1 := by rw [hW1]; exact below_alloc (Below.refl _ _) _
  have BK : W1.heap[W.heap.size]? = some (.cells #[I x.f0, I x.f1, .slice A x.f2.length c] 24 (0, 0)) := by rw [hW1]; exact blk_new _ _
  have k0 : W1.cell? ⟨W.heap.size, 0, none⟩ = some (I x.f0) := (blk_cell BK 0).trans rfl
  have k1 : W1.cell? ⟨W.heap.size, 1, none⟩ = some (I x.f1) := (blk_cell BK 1).trans rfl
  have k2 : W1.cell? ⟨W.heap.size, 2, none⟩ = some (.slice A x.f2.length c) := (blk_cell BK 2).trans rfl
  have HB1 := Lib.hid hB1
  have HO := Lib.hid (of127 (W := W1) (c := c) (Kd.C_below hC hB1))
  unfold OfR at HO
  have HP := Lib.hid prt133
  unfold Prt at HP
  clear hC BK hB1
  cases hok : wok 0 1 x with
  | false =>
    have HOK := Lib.hid hok
    rw [hok] at HO
    clear hok
    go_enter Try.func128, Try.ntmps128
    go_upto_region 1 with fail
    rw [← hW1]
    clear hW1
    go_wp2_with (go_at_call 127; (with_reducible refine HO.out.mono ?_); rintro e w3 ⟨N, S, d, In, rfl, hb, hx⟩; have HB3 := Lib.hid (HB1.out.trans (hb.mono HB1.out.size)); clear hb hx)
    go_ret
    unfold MsR
    exact ⟨-1, rfl, below_alloc HB3.out _, (fun h => by rw [HOK.out] at h; cases h), fun _ => rfl⟩
  | true =>
    have HOK := Lib.hid hok
    rw [hok] at HO
    clear hok
    go_enter Try.func128, Try.ntmps128
    go_upto_region 1 with fail
    rw [← hW1]
    clear hW1
    go_wp2_with (first | (go_at_call 127; (with_reducible refine HO.out.mono ?_); rintro e w3 ⟨N, S, d, In, rfl, hb, hx⟩; have HB3 := Lib.hid (HB1.out.trans (hb.mono HB1.out.size)); have HX := Lib.hid (hx rfl); clear hb hx) | (go_at_call 133; (with_reducible refine (HP.out _ _ _ _ _).mono ?_); rintro e w4 ⟨rfl, hb⟩; have HB4 := Lib.hid ((below_alloc HB3.out _).trans (hb.mono (below_alloc HB3.out _).size)); clear hb))
    go_ret
    unfold MsR
    obtain ⟨h1, h2, h3, h4⟩ := HX.out
    exact ⟨_, rfl, HB4.out, (fun h => by subst h1 h2 h3 h4; rfl), fun h => by rw [HOK.out] at h; cases h⟩
set_option maxHeartbeats 4000000 in
theorem finputs_any {W : World} {x : S24} {A : Option Addr} {c : Nat} (hC : Kd.C k24 W A x.f2.length x.f2) : Calls Try.prog 92 #[.agg #[I x.f0, I x.f1, .slice A x.f2.length c]] W (MsR W x (fun _ _ _ i => i)) := by
  obtain ⟨W1, hW1⟩ : ∃ W1, W1 = W.alloc (.cells #[I x.f0, I x.f1, .slice A x.f2.length c] 24) := ⟨_, rfl⟩
  have hB1 : Below W.heap.size W W1 := by rw [hW1]; exact below_alloc (Below.refl _ _) _
  have BK : W1.heap[W.heap.size]? = some (.cells #[I x.f0, I x.f1, .slice A x.f2.length c] 24 (0, 0)) := by rw [hW1]; exact blk_new _ _
  have k0 : W1.cell? ⟨W.heap.size, 0, none⟩ = some (I x.f0) := (blk_cell BK 0).trans rfl
  have k1 : W1.cell? ⟨W.heap.size, 1, none⟩ = some (I x.f1) := (blk_cell BK 1).trans rfl
  have k2 : W1.cell? ⟨W.heap.size, 2, none⟩ = some (.slice A x.f2.length c) := (blk_cell BK 2).trans rfl
  have HB1 := Lib.hid hB1
  have HO := Lib.hid (measure128_129 (W := W1) (c := c) (Kd.C_below hC hB1))
  unfold MsR at HO
  clear hC BK hB1
  go_enter Try.func92, Try.ntmps92
  go_upto_region 1 with fail
  rw [← hW1]
  clear hW1
  go_wp2_with (go_at_call 128; (with_reducible refine HO.out.mono ?_); rintro e w3 ⟨v, rfl, hb, hx1, hx2⟩; have HB3 := Lib.hid (HB1.out.trans (hb.mono HB1.out.size)); have HX1 := Lib.hid hx1; have HX2 := Lib.hid hx2; clear hb hx1 hx2)
  go_ret
  unfold MsR
  exact ⟨v, rfl, HB3.out, HX1.out, HX2.out⟩
set_option maxHeartbeats 4000000 in
theorem fsize_any {W : World} {x : S24} {A : Option Addr} {c : Nat} (hC : Kd.C k24 W A x.f2.length x.f2) : Calls Try.prog 94 #[.agg #[I x.f0, I x.f1, .slice A x.f2.length c]] W (MsR W x (fun _ s _ _ => s)) := by
  obtain ⟨W1, hW1⟩ : ∃ W1, W1 = W.alloc (.cells #[I x.f0, I x.f1, .slice A x.f2.length c] 24) := ⟨_, rfl⟩
  have hB1 : Below W.heap.size W W1 := by rw [hW1]; exact below_alloc (Below.refl _ _) _
  have BK : W1.heap[W.heap.size]? = some (.cells #[I x.f0, I x.f1, .slice A x.f2.length c] 24 (0, 0)) := by rw [hW1]; exact blk_new _ _
  have k0 : W1.cell? ⟨W.heap.size, 0, none⟩ = some (I x.f0) := (blk_cell BK 0).trans rfl
  have k1 : W1.cell? ⟨W.heap.size, 1, none⟩ = some (I x.f1) := (blk_cell BK 1).trans rfl
  have k2 : W1.cell? ⟨W.heap.size, 2, none⟩ = some (.slice A x.f2.length c) := (blk_cell BK 2).trans rfl
  have HB1 := Lib.hid hB1
  have HO := Lib.hid (measure128_132 (W := W1) (c := c) (Kd.C_below hC hB1))
  unfold MsR at HO
  clear hC BK hB1
  go_enter Try.func94, Try.ntmps94
  go_upto_region 1 with fail
  rw [← hW1]
  clear hW1
  go_wp2_with (go_at_call 128; (with_reducible refine HO.out.mono ?_); rintro e w3 ⟨v, rfl, hb, hx1, hx2⟩; have HB3 := Lib.hid (HB1.out.trans (hb.mono HB1.out.size)); have HX1 := Lib.hid hx1; have HX2 := Lib.hid hx2; clear hb hx1 hx2)
  go_ret
  unfold MsR
  exact ⟨v, rfl, HB3.out, HX1.out, HX2.out⟩
set_option maxHeartbeats 4000000 in
theorem fdepth_any {W : World} {x : S24} {A : Option Addr} {c : Nat} (hC : Kd.C k24 W A x.f2.length x.f2) : Calls Try.prog 95 #[.agg #[I x.f0, I x.f1, .slice A x.f2.length c]] W (MsR W x (fun _ _ d _ => d)) := by
  obtain ⟨W1, hW1⟩ : ∃ W1, W1 = W.alloc (.cells #[I x.f0, I x.f1, .slice A x.f2.length c] 24) := ⟨_, rfl⟩
  have hB1 : Below W.heap.size W W1 := by rw [hW1]; exact below_alloc (Below.refl _ _) _
  have BK : W1.heap[W.heap.size]? = some (.cells #[I x.f0, I x.f1, .slice A x.f2.length c] 24 (0, 0)) := by rw [hW1]; exact blk_new _ _
  have k0 : W1.cell? ⟨W.heap.size, 0, none⟩ = some (I x.f0) := (blk_cell BK 0).trans rfl
  have k1 : W1.cell? ⟨W.heap.size, 1, none⟩ = some (I x.f1) := (blk_cell BK 1).trans rfl
  have k2 : W1.cell? ⟨W.heap.size, 2, none⟩ = some (.slice A x.f2.length c) := (blk_cell BK 2).trans rfl
  have HB1 := Lib.hid hB1
  have HO := Lib.hid (measure128_133 (W := W1) (c := c) (Kd.C_below hC hB1))
  unfold MsR at HO
  clear hC BK hB1
  go_enter Try.func95, Try.ntmps95
  go_upto_region 1 with fail
  rw [← hW1]
  clear hW1
  go_wp2_with (go_at_call 128; (with_reducible refine HO.out.mono ?_); rintro e w3 ⟨v, rfl, hb, hx1, hx2⟩; have HB3 := Lib.hid (HB1.out.trans (hb.mono HB1.out.size)); have HX1 := Lib.hid hx1; have HX2 := Lib.hid hx2; clear hb hx1 hx2)
  go_ret
  unfold MsR
  exact ⟨v, rfl, HB3.out, HX1.out, HX2.out⟩
end Go.Proofs.Ytpfbommaddaijaa

