/- Walks through the functions of the field and of its reference: what each call returns; no memory that was there is changed. -/
import Derived.Test.YtbddhccbmieokaaT6
namespace Go.Proofs.Ytbddhccbmieokaa
open Go.RowKit FieldMath

theorem wr_div (k d : Nat) (h : k ≤ 65536) : wrap64 ((k : Int) / (d : Int)) = ((k / d : Nat) : Int) := by
  rw [← Int.natCast_ediv]
  have := Nat.div_le_self k d
  generalize k / d = x at *
  unfold wrap64
  omega
def exAt (P M k r d : Nat) : Prop := ∀ c, c < d → 2 ≤ c → k % c = 0 → Prm c → fpow P M r (k / c) ≠ 1
def rootOk (P M k r : Nat) : Prop := fpow P M r k = 1 ∧ exAt P M k r (k + 1)

theorem exAt.step {P M k r d : Nat} (h : exAt P M k r d) (h1 : k % d = 0 → Prm d → fpow P M r (k / d) ≠ 1) : exAt P M k r (d + 1) := fun c hc h2 h0 hp => by
  rcases Nat.lt_or_ge c d with hl | hl
  · exact h c hl h2 h0 hp
  · obtain rfl : c = d := by omega
    exact h1 h0 hp
theorem exAt.no {P M k r d e : Nat} (h2 : 2 ≤ d) (h0 : k % d = 0) (hp : Prm d) (h1 : fpow P M r (k / d) = 1) (he : d < e) : ¬ exAt P M k r e := fun h => h d he h2 h0 hp h1

set_option maxHeartbeats 4000000 in
theorem root_ok (P M k r0 : Nat) (hv : FV P M) (hk1 : 1 ≤ k) (hk2 : (fq P M - 1) % k = 0) (hr0 : r0 < fq P M) (hr1 : 1 ≤ r0) (hy : rootOk P M k r0) (hno : ∀ r, 1 ≤ r → r < r0 → ¬ rootOk P M k r) :
    Fn 18 #[A2 P M, I k] (T2 r0 0) := by
  intro w
  have hq := fq_cases hv
  have hkq : k ≤ fq P M - 1 := Nat.le_of_dvd (by omega) (Nat.dvd_of_mod_eq_zero hk2)
  have hc0 : ((((fq P M : Nat) : Int) - 1) % (k : Int) != 0) = false := by
    rw [bne_eq_false_iff_eq, show ((fq P M : Nat) : Int) - 1 = ((fq P M - 1 : Nat) : Int) by omega]
    exact_mod_cast hk2
  have Hv := Lib.hid hv
  have Ho := Lib.hid (order_fv hv)
  have Hf := Lib.hid (of_any P M hv)
  have Hy := Lib.hid hy
  have Hno := Lib.hid hno
  have Hp := Lib.hid (fun a k => power_any P M a k hv)
  clear hv hy hno hk2
  generalize fq P M = q at *
  generalize ifc P M = f at *
  go_enter Try.func18, Try.ntmps18
  go_wp2_with (first
    | (go_at_call 13; refine (valid_yes Hv.out _).mono ?_; rintro e w' ⟨rfl, hb⟩; obtain ⟨hx0, hx1, hx2⟩ := box_cells (by simpa using hb); have hB : Below w.heap.size w w' := ((Below.refl _ _).alloc (Nat.le_refl _) _).trans (hb.mono (by simp)); clear hb)
    | (go_at_call 14; refine (Ho.out _).mono ?_; rintro e w' ⟨rfl, hb⟩; have hx0' := (hb.cell (p := ⟨w.heap.size, 0, none⟩) hx2).trans hx0; have hx1' := (hb.cell (p := ⟨w.heap.size, 1, none⟩) hx2).trans hx1; replace hB := hB.trans (hb.mono hB.size); clear hb hx0 hx1 hx2)
    | (go_at_call 41; refine (Hf.out _).mono ?_; rintro e w' ⟨rfl, hb⟩; replace hB := hB.trans (hb.mono hB.size); clear hb hx0' hx1'))
  go_loopw [7] (fun v wr => ∃ r : Nat, 1 ≤ r ∧ r ≤ r0 ∧ v = I r ∧ Below w.heap.size w wr) (fun v _ => r0 - (intOf v).toNat)
  case atStart => exact ⟨1, by omega, hr1, rfl, hB⟩
  case round =>
    clear hB
    obtain ⟨r, h1, h2, rfl, hB⟩ := hrel
    have Hr := Lib.hid (Hp.out r k (by omega) (by omega))
    have Hd := fun d => Lib.hid (Hp.out r (k / d) (by omega) (Nat.lt_of_le_of_lt (Nat.div_le_self k d) (by omega)))
    by_cases hpow : fpow P M r k = 1
    · have hpb : ((((fpow P M r k : Nat)) : Int) != 1) = false := by rw [bne_eq_false_iff_eq]; exact_mod_cast hpow
      have Hpow := Lib.hid hpow
      clear hpow
      go_wp2_with (go_at_call 42; refine (Hr.out _).mono ?_; rintro e w1 ⟨rfl, hb⟩; replace hB := hB.trans (hb.mono hB.size); clear hb)
      obtain ⟨wo, rfl⟩ : ∃ wo : World, wo = w1 := ⟨_, rfl⟩
      go_loopw [8, 9] (fun u v wr => ∃ (e : Bool) (d : Nat), 2 ≤ d ∧ d ≤ k + 1 ∧ Hid (e = true ↔ exAt P M k r d) ∧ u = .bool e ∧ v = I d ∧ Below w.heap.size w wr) (fun _ v _ => k + 5 - (intOf v).toNat)
      case atStart => exact ⟨true, 2, by omega, by omega, Lib.hid ⟨fun _ c hc h2 => by omega, fun _ => rfl⟩, rfl, rfl, hB⟩
      case round =>
        clear hB
        obtain ⟨e, d, hd1, hd2, He, rfl, rfl, hB⟩ := hrel
        have Hkd := Lib.hid (wr_div k d (by omega))
        cases e with
        | true =>
          by_cases hlt : d ≤ k
          · by_cases hm : k % d = 0
            · have hmb : (((k : Int) % (d : Int)) != 0) = false := by rw [bne_eq_false_iff_eq]; exact_mod_cast hm
              have Hm := Lib.hid hm
              clear hm
              by_cases hp : Prm d
              · have Hpr := Lib.hid (prm_yes hp)
                have HP := Lib.hid hp
                clear hp
                by_cases hw : fpow P M r (k / d) = 1
                · have hwb : ((((fpow P M r (k / d) : Nat)) : Int) != 1) = false := by rw [bne_eq_false_iff_eq]; exact_mod_cast hw
                  have Hs := Lib.hid (exAt.no (e := d + 1) hd1 Hm.out HP.out hw (by omega))
                  clear hw
                  go_wp2_with (first
                    | (go_at_call 40; refine (prime_any d (by omega) _).mono ?_; rintro e w1 ⟨rfl, rfl⟩; rw [Hpr.out])
                    | (go_at_call 42; rw [Hkd.out]; refine ((Hd d).out _).mono ?_; rintro e w1 ⟨rfl, hb⟩; replace hB := hB.trans (hb.mono hB.size); clear hb))
                  go_roundw
                  case rel => exact ⟨false, d + 1, by omega, by omega, Lib.hid ⟨fun h => by simp at h, fun h => absurd h Hs.out⟩, rfl, by go_num, hB⟩
                  case measure => simp [intOf]; omega
                · have hwb : ((((fpow P M r (k / d) : Nat)) : Int) != 1) = true := by rw [bne_iff_ne]; exact_mod_cast hw
                  have Hs := Lib.hid ((He.out.1 rfl).step fun _ _ => hw)
                  clear hw
                  go_wp2_with (first
                    | (go_at_call 40; refine (prime_any d (by omega) _).mono ?_; rintro e w1 ⟨rfl, rfl⟩; rw [Hpr.out])
                    | (go_at_call 42; rw [Hkd.out]; refine ((Hd d).out _).mono ?_; rintro e w1 ⟨rfl, hb⟩; replace hB := hB.trans (hb.mono hB.size); clear hb))
                  go_roundw
                  case rel => exact ⟨true, d + 1, by omega, by omega, Lib.hid ⟨fun _ => Hs.out, fun _ => rfl⟩, rfl, by go_num, hB⟩
                  case measure => simp [intOf]; omega
              · have Hpr := Lib.hid (prm_no hp)
                have Hs := Lib.hid ((He.out.1 rfl).step fun _ h => absurd h hp)
                clear hp
                go_wp2_with (go_at_call 40; refine (prime_any d (by omega) _).mono ?_; rintro e w1 ⟨rfl, rfl⟩; rw [Hpr.out])
                go_roundw
                case rel => exact ⟨true, d + 1, by omega, by omega, Lib.hid ⟨fun _ => Hs.out, fun _ => rfl⟩, rfl, by go_num, hB⟩
                case measure => simp [intOf]; omega
            · have hmb : (((k : Int) % (d : Int)) != 0) = true := by rw [bne_iff_ne]; exact_mod_cast hm
              have Hs := Lib.hid ((He.out.1 rfl).step fun h _ => absurd h hm)
              clear hm
              go_wp2
              go_roundw
              case rel => exact ⟨true, d + 1, by omega, by omega, Lib.hid ⟨fun _ => Hs.out, fun _ => rfl⟩, rfl, by go_num, hB⟩
              case measure => simp [intOf]; omega
          · have Hr0 := Lib.hid (show r = r0 by
              rcases Nat.lt_or_ge r r0 with hl | hl
              · exact absurd ⟨Hpow.out, by have := He.out.1 rfl; rwa [show d = k + 1 by omega] at this⟩ (Hno.out r h1 hl)
              · omega)
            go_wp2
            go_ret2
            exact ⟨rt2 (by rw [Hr0.out]) rfl, hB⟩
        | false =>
          have Hr0 := Lib.hid (show r < r0 by
              rcases Nat.lt_or_ge r r0 with hl | hl
              · exact hl
              · exfalso
                obtain rfl : r = r0 := by omega
                have h := Hy.out.2
                have : exAt P M k r d := fun c hc => h c (by omega)
                simpa using He.out.2 this)
          go_wp2
          all_goals
            go_roundw
            case rel => exact ⟨r + 1, by omega, Hr0.out, by go_num, hB⟩
            case measure => have := Hr0.out; simp [intOf]; omega
    · have hpb : ((((fpow P M r k : Nat)) : Int) != 1) = true := by rw [bne_iff_ne]; exact_mod_cast hpow
      have Hr0 := Lib.hid (show r < r0 by
              rcases Nat.lt_or_ge r r0 with hl | hl
              · exact hl
              · obtain rfl : r = r0 := by omega
                exact absurd Hy.out.1 hpow)
      clear hpow
      go_wp2_with (go_at_call 42; refine (Hr.out _).mono ?_; rintro e w1 ⟨rfl, hb⟩; replace hB := hB.trans (hb.mono hB.size); clear hb)
      go_roundw
      case rel => exact ⟨r + 1, by omega, Hr0.out, by go_num, hB⟩
      case measure => have := Hr0.out; simp [intOf]; omega

end Go.Proofs.Ytbddhccbmieokaa
