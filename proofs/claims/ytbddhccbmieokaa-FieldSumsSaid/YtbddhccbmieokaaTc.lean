/- Walks through the functions of the field and of its reference: what each call returns; no memory that was there is changed. -/
import Derived.Test.YtbddhccbmieokaaTb
namespace Go.Proofs.Ytbddhccbmieokaa
open Go.RowKit FieldMath
set_option linter.unusedVariables false

theorem fmul_bd {P M a b : Nat} (hv : FV P M) (ha : a < fq P M) (hb : b < fq P M) : fmul P M a b < fq P M := by
  have hs := hv.spec
  unfold fmul fq at *
  by_cases h : M = 1
  · rw [if_pos h, if_pos h]; exact Nat.mod_lt _ (by omega)
  · rw [if_neg h] at *
    rw [if_neg h]
    exact pmul_bd M _ (modT_top (by omega) hs.2.2.2.1) b a 0 ha (Nat.two_pow_pos M)
theorem fadd_bd {P M a b : Nat} (hv : FV P M) (ha : a < fq P M) (hb : b < fq P M) : fadd P M a b < fq P M := by
  have hs := hv.spec
  unfold fadd fq at *
  by_cases h : M = 1
  · rw [if_pos h, if_pos h]; exact Nat.mod_lt _ (by omega)
  · rw [if_neg h] at *
    rw [if_neg h]
    exact Nat.xor_lt_two_pow ha hb
theorem fpow_bd {P M a : Nat} (hv : FV P M) (ha : a < fq P M) (k : Nat) : fpow P M a k < fq P M :=
  powL_bd _ _ (fun _ _ h1 h2 => fmul_bd hv h1 h2) k 1 a (by have := fq_cases hv; omega) ha

/-- a box of four numbers, read behind calls -/
theorem box4 {w w' : World} {a b c d : Int} {t : TypeId} (hb : Below (w.heap.size + 1) (w.alloc (.cells #[I a, I b, I c, I d] t)) w') :
    (w'.cell? ⟨w.heap.size, 0, none⟩ = some (I a) ∧ w'.cell? ⟨w.heap.size, 1, none⟩ = some (I b) ∧ w'.cell? ⟨w.heap.size, 2, none⟩ = some (I c) ∧ w'.cell? ⟨w.heap.size, 3, none⟩ = some (I d)) ∧ w.heap.size + 1 ≤ w'.heap.size := by
  refine ⟨⟨?_, ?_, ?_, ?_⟩, by have := hb.size; simpa using this⟩
  · rw [hb.cell (p := ⟨w.heap.size, 0, none⟩) (by simp)]; simp [go_sem]
  · rw [hb.cell (p := ⟨w.heap.size, 1, none⟩) (by simp)]; simp [go_sem]
  · rw [hb.cell (p := ⟨w.heap.size, 2, none⟩) (by simp)]; simp [go_sem]
  · rw [hb.cell (p := ⟨w.heap.size, 3, none⟩) (by simp)]; simp [go_sem]
theorem box4_end {w w' : World} {o : Obj} (hb : Below (w.heap.size + 1) (w.alloc o) w') : Below w.heap.size w w' := ((Below.refl _ _).alloc (Nat.le_refl _) _).trans (hb.mono (by omega))

theorem wr_nat (k : Nat) (h : k < 4611686018427387904) : wrap64 (k : Int) = (k : Int) := by
  unfold wrap64
  omega
theorem wr_half (k : Nat) (h : k < 2 ^ 63) : wrap64 ((k : Int) / 2) = ((k / 2 : Nat) : Int) := by
  have e : (k : Int) / 2 = ((k / 2 : Nat) : Int) := by omega
  rw [e]
  have h2 : k / 2 < 4611686018427387904 := by
    have h3 : k < 9223372036854775808 := h
    clear h e
    omega
  exact wr_nat _ h2
theorem half_lt {k : Nat} {v : Int} (h : v = ((k / 2 : Nat) : Int)) (hk : 0 < k) : (intOf (.int .i64 v)).toNat < (intOf (.int .i64 (k : Int))).toNat := by
  subst h
  simp only [intOf, Int.toNat_natCast]
  omega
set_option maxHeartbeats 1000000 in
theorem kpow (P M a k : Nat) (hv : FV P M) (ha : a < fq P M) (hk : k < 2 ^ 63) : Fn 36 #[KV P M, I a, I k] (I (fpow P M a k : Nat)) := by
  intro w
  have hq := fq_cases hv
  obtain ⟨R, HR⟩ : ∃ R, Hid (powL (fmul P M) 1 a k = R) := ⟨_, Lib.hid rfl⟩
  rw [show I (fpow P M a k : Nat) = I R by unfold fpow; rw [HR.out]]
  have Hk := Lib.hid hk
  have Hm := Lib.hid (fun x y => kmul P M x y hv)
  have Hbd := Lib.hid (fun x y => @fmul_bd P M x y hv)
  unfold KV at *
  clear hk hv
  generalize fq P M = q at *
  generalize mdl M = D at *
  go_enter Try.func36, Try.ntmps36
  go_wp2
  go_loopw [1,2,7] (fun u v x wr => ∃ a k c : Nat, a < q ∧ Hid (k < 2 ^ 63) ∧ c < q ∧ Hid (powL (fmul P M) c a k = R) ∧ u = .int .i64 a ∧ v = .int .i64 k ∧ x = .int .i64 c ∧ Below (w.heap.size + 1) (w.alloc (.cells #[I P, I M, I q, I D] 35)) wr) (fun _ v _ _ => (intOf v).toNat)
  case atStart => exact ⟨a, k, 1, ha, Hk, by omega, HR, rfl, rfl, rfl, Below.refl _ _⟩
  case round =>
    clear ha HR Hk
    obtain ⟨a, k, c, ha, Hk, hc, H, rfl, rfl, rfl, hB⟩ := hrel
    obtain ⟨⟨hx0, hx1, hx2, hx3⟩, hsz⟩ := box4 hB
    by_cases h : 0 < k
    · have H' := Lib.hid (show powL (fmul P M) (if k % 2 = 1 then fmul P M c a else c) (fmul P M a a) (k / 2) = R by rw [← H.out]; conv => rhs; rw [powL, if_pos h])
      clear H
      have Hw := Lib.hid (wr_half k Hk.out)
      have Hm1 := Lib.hid (Hbd.out a a ha ha)
      have Hm2 := Lib.hid (Hbd.out c a hc ha)
      by_cases ho : k % 2 = 1
      · have ho' : (((k : Int) % 2) == 1) = true := by rw [beq_iff_eq]; omega
        have Ho := Lib.hid ho
        clear ho
        go_wp2_with (go_at_call 29; refine (Hm.out _ _ (by assumption) (by assumption) _).mono ?_; rintro e w' ⟨rfl, hb⟩; replace hx0 := (hb.cell (p := ⟨w.heap.size, 0, none⟩) hsz).trans hx0; replace hx1 := (hb.cell (p := ⟨w.heap.size, 1, none⟩) hsz).trans hx1; replace hx2 := (hb.cell (p := ⟨w.heap.size, 2, none⟩) hsz).trans hx2; replace hx3 := (hb.cell (p := ⟨w.heap.size, 3, none⟩) hsz).trans hx3; replace hsz := Nat.le_trans hsz hb.size; replace hB := hB.trans (hb.mono (by have := hB.size; simpa using this)); clear hb)
        go_roundw
        case rel => exact ⟨_, k / 2, _, Hm1.out, Lib.hid (by have := Hk.out; omega), Hm2.out, Lib.hid (by rw [← H'.out, if_pos Ho.out]), rfl, iv Hw.out, rfl, hB⟩
        case measure => exact half_lt Hw.out h
      · have ho' : (((k : Int) % 2) == 1) = false := by rw [beq_eq_false_iff_ne]; omega
        have Ho := Lib.hid ho
        clear ho
        go_wp2_with (go_at_call 29; refine (Hm.out _ _ (by assumption) (by assumption) _).mono ?_; rintro e w' ⟨rfl, hb⟩; replace hB := hB.trans (hb.mono (by have := hB.size; simpa using this)); clear hb)
        go_roundw
        case rel => exact ⟨_, k / 2, c, Hm1.out, Lib.hid (by have := Hk.out; omega), hc, Lib.hid (by rw [← H'.out, if_neg Ho.out]), rfl, iv Hw.out, rfl, hB⟩
        case measure => exact half_lt Hw.out h
    · have H' := Lib.hid (show c = R by rw [← H.out, powL, if_neg h])
      clear H
      go_wp2
      go_ret
      exact ⟨ri (by rw [H'.out]), box4_end hB⟩

set_option maxHeartbeats 1000000 in
theorem kinv (P M a : Nat) (hv : FV P M) (ha : a < fq P M) : Fn 35 #[KV P M, I a] (I (fpow P M a (fq P M - 2) : Nat)) := by
  intro w
  have hq := fq_cases hv
  have Hp := Lib.hid (kpow P M a (fq P M - 2) hv ha (by omega))
  have Hq := Lib.hid (show ((fq P M : Nat) : Int) - 2 = ((fq P M - 2 : Nat) : Int) by omega)
  unfold KV at *
  clear hv
  generalize fpow P M a (fq P M - 2) = R at *
  generalize fq P M = q at *
  generalize mdl M = D at *
  go_enter Try.func35, Try.ntmps35
  go_wp2_with (go_at_call 36; rw [Hq.out]; refine (Hp.out _).mono ?_; rintro e w' ⟨rfl, hb⟩)
  go_ret
  exact ⟨rfl, ((Below.refl _ _).alloc (Nat.le_refl _) _).trans (hb.mono (by simp))⟩

/-- the reference's condition of a root -/
def exR (P M n r d : Nat) : Prop := ∀ c, c < d → 1 ≤ c → n % c = 0 → fpow P M r c ≠ 1
def rootR (P M n r : Nat) : Prop := fpow P M r n = 1 ∧ exR P M n r n
theorem exR.step {P M n r d : Nat} (h : exR P M n r d) (h1 : n % d = 0 → fpow P M r d ≠ 1) : exR P M n r (d + 1) := fun c hc h2 h0 => by
  rcases Nat.lt_or_ge c d with hl | hl
  · exact h c hl h2 h0
  · obtain rfl : c = d := by omega
    exact h1 h0
theorem exR.no {P M n r d e : Nat} (h2 : 1 ≤ d) (h0 : n % d = 0) (h1 : fpow P M r d = 1) (he : d < e) : ¬ exR P M n r e := fun h => h d he h2 h0 h1

set_option maxHeartbeats 1000000 in
theorem kroot_none (P M : Nat) (n : Int) (hq : 2 ≤ fq P M ∧ fq P M ≤ 65536) (h : n < 1 ∨ 1 ≤ n ∧ (((fq P M : Nat) : Int) - 1) % n ≠ 0) : Fn 21 #[KV P M, I n] (I 0) := by
  intro w
  unfold KV
  by_cases h1 : n < 1
  · clear h
    generalize fq P M = q at *
    generalize mdl M = D at *
    go_enter Try.func21, Try.ntmps21
    go_wp2
    go_ret
    exact ⟨rfl, (Below.refl _ _).alloc (Nat.le_refl _) _⟩
  · have h2 : (((((fq P M : Nat) : Int) - 1) % n) != 0) = true := by rw [bne_iff_ne]; rcases h with h | h; exact absurd h h1; exact h.2
    have h3 : 0 < n := by omega
    clear h
    generalize fq P M = q at *
    generalize mdl M = D at *
    go_enter Try.func21, Try.ntmps21
    go_wp2
    go_ret
    exact ⟨rfl, (Below.refl _ _).alloc (Nat.le_refl _) _⟩

set_option maxHeartbeats 4000000 in
theorem kroot_ok (P M n r0 : Nat) (hv : FV P M) (hk1 : 1 ≤ n) (hk2 : (fq P M - 1) % n = 0) (hr0 : r0 < fq P M) (hr1 : 1 ≤ r0) (hy : rootR P M n r0) (hno : ∀ r, 1 ≤ r → r < r0 → ¬ rootR P M n r) :
    Fn 21 #[KV P M, I n] (I r0) := by
  intro w
  have hq := fq_cases hv
  have hkq : n ≤ fq P M - 1 := Nat.le_of_dvd (by omega) (Nat.dvd_of_mod_eq_zero hk2)
  have hc0 : ((((fq P M : Nat) : Int) - 1) % (n : Int) != 0) = false := by
    rw [bne_eq_false_iff_eq, show ((fq P M : Nat) : Int) - 1 = ((fq P M - 1 : Nat) : Int) by omega]
    exact_mod_cast hk2
  have Hy := Lib.hid hy
  have Hno := Lib.hid hno
  have Hp := Lib.hid (fun a k => kpow P M a k hv)
  clear hv hy hno hk2
  unfold KV at *
  generalize fq P M = q at *
  generalize mdl M = D at *
  go_enter Try.func21, Try.ntmps21
  go_wp2
  go_loopw [5] (fun v wr => ∃ r : Nat, 1 ≤ r ∧ r ≤ r0 ∧ v = I r ∧ Below (w.heap.size + 1) (w.alloc (.cells #[I P, I M, I q, I D] 35)) wr) (fun v _ => r0 - (intOf v).toNat)
  case atStart => exact ⟨1, by omega, hr1, rfl, Below.refl _ _⟩
  case round =>
    obtain ⟨r, h1, h2, rfl, hB⟩ := hrel
    obtain ⟨⟨hx0, hx1, hx2, hx3⟩, hsz⟩ := box4 hB
    have Hr := Lib.hid (Hp.out r n (by omega) (by omega))
    have Hd := Lib.hid (fun d (hd : d ≤ n) => Hp.out r d (by omega) (by omega))
    by_cases hpow : fpow P M r n = 1
    · have hpb : ((((fpow P M r n : Nat)) : Int) != 1) = false := by rw [bne_eq_false_iff_eq]; exact_mod_cast hpow
      have Hpow := Lib.hid hpow
      clear hpow
      go_wp2_with (go_at_call 36; refine (Hr.out _).mono ?_; rintro e w1 ⟨rfl, hb⟩; replace hB := hB.trans (hb.mono (by have := hB.size; simpa using this)); clear hb hx0 hx1 hx2 hx3 hsz)
      obtain ⟨wo, rfl⟩ : ∃ wo : World, wo = w1 := ⟨_, rfl⟩
      go_loopw [6, 7] (fun u v wr => ∃ (e : Bool) (d : Nat), 1 ≤ d ∧ d ≤ n ∧ Hid (e = true ↔ exR P M n r d) ∧ u = .bool e ∧ v = I d ∧ Below (w.heap.size + 1) (w.alloc (.cells #[I P, I M, I q, I D] 35)) wr) (fun _ v _ => n + 5 - (intOf v).toNat)
      case atStart => exact ⟨true, 1, by omega, by omega, Lib.hid ⟨fun _ c hc h2 => by omega, fun _ => rfl⟩, rfl, rfl, hB⟩
      case round =>
        clear hB
        obtain ⟨e, d, hd1, hd2, He, rfl, rfl, hB⟩ := hrel
        obtain ⟨⟨hx0, hx1, hx2, hx3⟩, hsz⟩ := box4 hB
        cases e with
        | true =>
          by_cases hlt : d < n
          · by_cases hm : n % d = 0
            · have hmb : (((n : Int) % (d : Int)) != 0) = false := by rw [bne_eq_false_iff_eq]; exact_mod_cast hm
              have Hm := Lib.hid hm
              clear hm
              by_cases hw : fpow P M r d = 1
              · have hwb : ((((fpow P M r d : Nat)) : Int) != 1) = false := by rw [bne_eq_false_iff_eq]; exact_mod_cast hw
                have Hs := Lib.hid (exR.no (e := d + 1) hd1 Hm.out hw (by omega))
                clear hw
                go_wp2_with (go_at_call 36; refine (Hd.out d (by omega) _).mono ?_; rintro e w1 ⟨rfl, hb⟩; replace hB := hB.trans (hb.mono (by have := hB.size; simpa using this)); clear hb)
                go_roundw
                case rel => exact ⟨false, d + 1, by omega, by omega, Lib.hid ⟨fun h => by simp at h, fun h => absurd h Hs.out⟩, rfl, by go_num, hB⟩
                case measure => simp [intOf]; omega
              · have hwb : ((((fpow P M r d : Nat)) : Int) != 1) = true := by rw [bne_iff_ne]; exact_mod_cast hw
                have Hs := Lib.hid ((He.out.1 rfl).step fun _ => hw)
                clear hw
                go_wp2_with (go_at_call 36; refine (Hd.out d (by omega) _).mono ?_; rintro e w1 ⟨rfl, hb⟩; replace hB := hB.trans (hb.mono (by have := hB.size; simpa using this)); clear hb)
                go_roundw
                case rel => exact ⟨true, d + 1, by omega, by omega, Lib.hid ⟨fun _ => Hs.out, fun _ => rfl⟩, rfl, by go_num, hB⟩
                case measure => simp [intOf]; omega
            · have hmb : (((n : Int) % (d : Int)) != 0) = true := by rw [bne_iff_ne]; exact_mod_cast hm
              have Hs := Lib.hid ((He.out.1 rfl).step fun h => absurd h hm)
              clear hm
              go_wp2
              go_roundw
              case rel => exact ⟨true, d + 1, by omega, by omega, Lib.hid ⟨fun _ => Hs.out, fun _ => rfl⟩, rfl, by go_num, hB⟩
              case measure => simp [intOf]; omega
          · have Hr0 := Lib.hid (show r = r0 by
              rcases Nat.lt_or_ge r r0 with hl | hl
              · exact absurd ⟨Hpow.out, by have := He.out.1 rfl; rwa [show d = n by omega] at this⟩ (Hno.out r h1 hl)
              · omega)
            go_wp2
            go_ret
            exact ⟨ri (by rw [Hr0.out]), box4_end hB⟩
        | false =>
          have Hr0 := Lib.hid (show r < r0 by
              rcases Nat.lt_or_ge r r0 with hl | hl
              · exact hl
              · exfalso
                obtain rfl : r = r0 := by omega
                have h := Hy.out.2
                have : exR P M n r d := fun c hc => h c (by omega)
                simpa using He.out.2 this)
          go_wp2
          all_goals
            go_roundw
            case rel => exact ⟨r + 1, by omega, Hr0.out, by go_num, hB⟩
            case measure => have := Hr0.out; simp [intOf]; omega
    · have hpb : ((((fpow P M r n : Nat)) : Int) != 1) = true := by rw [bne_iff_ne]; exact_mod_cast hpow
      have Hr0 := Lib.hid (show r < r0 by
              rcases Nat.lt_or_ge r r0 with hl | hl
              · exact hl
              · obtain rfl : r = r0 := by omega
                exact absurd Hy.out.1 hpow)
      clear hpow
      go_wp2_with (go_at_call 36; refine (Hr.out _).mono ?_; rintro e w1 ⟨rfl, hb⟩; replace hB := hB.trans (hb.mono (by have := hB.size; simpa using this)); clear hb)
      go_roundw
      case rel => exact ⟨r + 1, by omega, Hr0.out, by go_num, hB⟩
      case measure => have := Hr0.out; simp [intOf]; omega

end Go.Proofs.Ytbddhccbmieokaa
