/- Plays: whether a list consists of moves, whether a move is allowed, what a play comes to. -/
import Derived.Test.YtihpdmchppcbfaaTi
namespace Go.Proofs.Ytihpdmchppcbfaa
open Go.RowKit
set_option linter.unusedVariables false
set_option linter.unusedSimpArgs false

abbrev dm : Bool × Int := (false, 0)
def okM (n : Nat) (m : Bool × Int) : Prop := 0 ≤ m.2 ∧ m.2 < n
def MV (n : Nat) (ms : List (Bool × Int)) : Prop := ms.length ≤ 200000 ∧ ∀ i, i < ms.length → okM n (ms.getD i dm)

theorem Pl.shape {w : World} {v : Value} {l : List (Bool × Int)} (h : Pl w v l) : ∃ a c, v = .slice a l.length c := by
  obtain ⟨a, c, h1, _⟩ := h.ex
  exact ⟨a, c, h1⟩
theorem Pl.at' {w : World} {a : Option Addr} {c k : Nat} {l : List (Bool × Int)} (h : Pl w (.slice a k c) l) {i : Nat} (hi : i < l.length) : ∃ b, a = some b ∧ w.cell? (b.add (i * 2)) = some (.bool (l.getD i dm).1) ∧ w.cell? ⟨(b.add (i * 2)).block, (b.add (i * 2)).off + 1, none⟩ = some (I (l.getD i dm).2) := by
  obtain ⟨a', c', h1, h2, h3, h4, h5⟩ := h.ex
  cases h1
  cases a with
  | none => rw [h4 rfl] at hi; simp at hi
  | some b => exact ⟨b, rfl, h5 b rfl i hi⟩

set_option maxHeartbeats 2000000 in
theorem moves_any {w : World} {a : Option Addr} {n cap : Nat} {pv : Value} {ms : List (Bool × Int)} (hp : Pl w pv ms) (hl : ms.length ≤ 2 ^ 50) (hn : n ≤ 2 ^ 50) {r : Bool} (hr : r = true ↔ MV n ms) : Calls Try.prog 17 #[.slice a n cap, pv] w fun e w' => e = .returned (.bool r) ∧ w = w' := by
  obtain ⟨pa, pc, rfl⟩ := hp.shape
  have HP := Lib.hid hp
  have HR := Lib.hid hr
  clear hp hr
  by_cases hlen : ms.length ≤ 200000
  · have HL := Lib.hid hlen
    generalize hk : ms.length = k at *
    have HK := Lib.hid hk
    clear hk
    have hgt : ¬ (200000 : Int) < k := by omega
    go_enter Try.func17, Try.ntmps17
    go_wp2
    go_loop [5] (fun x => ∃ i : Nat, i ≤ k ∧ Hid (∀ j, j < i → okM n (ms.getD j dm)) ∧ x = I i) (fun x => k - (intOf x).toNat)
    case atStart => exact ⟨0, by omega, Lib.hid (fun j hj => by omega), rfl⟩
    case round =>
      obtain ⟨i, hi, HI, rfl⟩ := hrel
      by_cases hik : i < k
      · obtain ⟨b, rfl, c0, c1⟩ := HP.out.at' (i := i) (by rw [HK.out]; exact hik)
        obtain ⟨m, hm⟩ : ∃ m, m = ms.getD i dm := ⟨_, rfl⟩
        rw [← hm] at c0 c1
        have Hm := Lib.hid hm
        clear hm
        clear c0
        by_cases c2 : m.2 < 0
        · have hf : r = false := by
            cases r with
            | false => rfl
            | true => have := (HR.out.1 rfl).2 i (by rw [HK.out]; exact hik); rw [← Hm.out] at this; have h1 := this.1; have h2 := this.2; omega
          subst hf
          have hd : decide (m.2 < 0) = true := decide_eq_true c2
          go_wp2
          go_ret
          exact ⟨rfl, rfl⟩
        · have hd : decide (m.2 < 0) = false := decide_eq_false c2
          by_cases c3 : (n : Int) ≤ m.2
          · have hf : r = false := by
              cases r with
              | false => rfl
              | true => have := (HR.out.1 rfl).2 i (by rw [HK.out]; exact hik); rw [← Hm.out] at this; have h1 := this.1; have h2 := this.2; omega
            subst hf
            have hd : decide ((n : Int) ≤ m.2) = true := decide_eq_true c3
            go_wp2
            go_ret
            exact ⟨rfl, rfl⟩
          · have hd : decide ((n : Int) ≤ m.2) = false := decide_eq_false c3
            have hok : okM n m := ⟨by omega, by omega⟩
            have hok := Lib.hid hok
            go_wp2
            go_round
            case rel => exact ⟨i + 1, by omega, Lib.hid (fun j hj => by
              rcases Nat.lt_or_ge j i with hl | hl
              · exact HI.out j hl
              · obtain rfl : j = i := by omega
                rw [← Hm.out]; exact hok.out), by go_num⟩
            case measure => simp [intOf]; omega
      · obtain rfl : i = k := by omega
        have hf : r = true := HR.out.2 ⟨by rw [HK.out]; exact HL.out, fun j hj => HI.out j (by rw [HK.out] at hj; exact hj)⟩
        subst hf
        go_wp2
        go_ret
        exact ⟨rfl, rfl⟩
  · have hf : r = false := by
      cases r with
      | false => rfl
      | true => exact absurd (HR.out.1 rfl).1 hlen
    subst hf
    have hgt : (200000 : Int) < ms.length := by omega
    generalize ms.length = k at *
    go_enter Try.func17, Try.ntmps17
    go_wp2
    go_ret
    exact ⟨rfl, rfl⟩

def AL (L : Nat → Nat) (Z : Nat → Nat → Int) (f : Nat → Bool) (m : Bool × Int) (rev : Bool) : Prop := f m.2.toNat ≠ m.1 ∧ ((m.1 = true ∨ rev = true) → ∀ i, i < L m.2.toNat → f (Z m.2.toNat i).toNat = true)
/-- a list of bools in memory -/
structure Bs (w : World) (v : Value) (n : Nat) (f : Nat → Bool) : Prop where
  ex : ∃ (a : Option Addr) (cap : Nat), v = .slice a n cap ∧ n ≤ cap ∧ cap ≤ maxLen ∧ (0 < n → ∃ b, a = some b) ∧ ∀ b, a = some b → ∀ i, i < n → w.cell? (b.add i) = some (.bool (f i))
theorem Bs.shape {w : World} {v : Value} {n : Nat} {f : Nat → Bool} (h : Bs w v n f) : ∃ a c, v = .slice a n c := by
  obtain ⟨a, c, h1, _⟩ := h.ex
  exact ⟨a, c, h1⟩
theorem Bs.at' {w : World} {a : Option Addr} {n k c : Nat} {f : Nat → Bool} (h : Bs w (.slice a k c) n f) {i : Nat} (hi : i < n) : ∃ b, a = some b ∧ w.cell? (b.add i) = some (.bool (f i)) := by
  obtain ⟨a', c', h1, h2, h3, h4, h5⟩ := h.ex
  cases h1
  obtain ⟨b, rfl⟩ := h4 (by omega)
  exact ⟨b, rfl, h5 b rfl i hi⟩
theorem Bs.keep {w w' : World} {v : Value} {n : Nat} {f : Nat → Bool} (h : Bs w v n f) (hb : Below w.heap.size w w') : Bs w' v n f := by
  obtain ⟨a, cap, h1, h2, h3, h4, h5⟩ := h.ex
  exact ⟨a, cap, h1, h2, h3, h4, fun b hb' i hi => (hb.cell (World.block_lt_of_cell? _ _ (h5 b hb' i hi))).trans (h5 b hb' i hi)⟩

set_option maxHeartbeats 4000000 in
theorem allowed_any {w : World} {v bv : Value} {n : Nat} {A : Nat → Option Addr} {L C : Nat → Nat} {Z : Nat → Nat → Int} (hd : Dg w v n A L C Z) (hr : okDag n L Z) {f : Nat → Bool} (hb : Bs w bv n f) {x : Nat} (hx : x < n) (p rev : Bool) {r : Bool} (hres : r = true ↔ AL L Z f (p, (x : Int)) rev) :
    Calls Try.prog 39 #[v, bv, .agg #[.bool p, I x], .bool rev] w fun e w' => e = .returned (.bool r) ∧ Below w.heap.size w w' := by
  obtain ⟨ba, bc, rfl⟩ := hb.shape
  obtain ⟨a, cap, rfl, h2, h3, h4, h5⟩ := hd.top
  rcases a with _ | b
  · have := h4 rfl; omega
  have hn1000 := hr.2.1
  have HR := Lib.hid hr.2.2
  have Hd := Lib.hid hd
  have HBs := Lib.hid hb
  have HRes := Lib.hid hres
  clear h4 h5 hd hr hb hres
  go_enter Try.func39, Try.ntmps39
  go_upto_region 1 with fail
  obtain ⟨W, hW⟩ : ∃ W, W = w.alloc (.cells #[.bool p, I x] 49) := ⟨_, rfl⟩
  have hB : Below w.heap.size w W := by rw [hW]; exact (Below.refl _ _).alloc (Nat.le_refl _) _
  have cb0 : W.cell? ⟨w.heap.size, 0, none⟩ = some (.bool p) := by rw [hW]; simp [go_sem]
  have cb1 : W.cell? ⟨w.heap.size, 1, none⟩ = some (I x) := by rw [hW]; simp [go_sem]
  rw [← hW]
  have hd := Lib.hid (Hd.out.keep hB)
  have hbs := Lib.hid (HBs.out.keep hB)
  have HB := Lib.hid hB
  clear hW hB Hd HBs
  obtain ⟨bb, rfl, cf⟩ := hbs.out.at' hx
  have hx1 : (0 : Int) ≤ x := by omega
  have hx2 : (x : Int) < n := by omega
  obtain ⟨fx, hfx⟩ : ∃ fx, fx = f x := ⟨_, rfl⟩
  rw [← hfx] at cf
  have HF := Lib.hid hfx
  clear hfx
  by_cases he : fx = p
  · have hrf : r = false := by
      cases r with
      | false => rfl
      | true =>
        have := (HRes.out.1 rfl).1
        simp only [Int.toNat_natCast] at this
        rw [← HF.out] at this
        exact absurd he this
    subst hrf
    have hd1 : (fx == p) = true := by simp [he]
    clear he
    go_quiet (fail)
    go_wp2
    go_ret
    exact ⟨rfl, below_drewN HB.out _⟩
  · have hd1 : (fx == p) = false := by simp [he]
    have HE := Lib.hid he
    clear he
    have hck := hd.out.outer hx
    have hl2 := (hd.out.row x hx).2.1
    go_quiet (fail)
    have hzl : ∀ i, i < L x → ∃ z : Nat, z < n ∧ Z x i = z := fun i hi => by
      have h := HR.out x hx i hi
      exact ⟨(Z x i).toNat, by have := h.1; have := h.2.1; omega, by have := h.1; omega⟩
    have HZ := Lib.hid hzl
    clear hzl cf
    by_cases hpr : p = true ∨ rev = true
    · have HPR := Lib.hid hpr
      have hpd : (p || rev) = true := by simpa using hpr
      clear hpr
      go_wp2
      go_loop [9] (fun y => ∃ i : Nat, i ≤ L x ∧ Hid (∀ j, j < i → f (Z x j).toNat = true) ∧ y = I i) (fun y => L x - (intOf y).toNat)
      case atStart => exact ⟨0, by omega, Lib.hid (fun j hj => by omega), rfl⟩
      case round =>
        obtain ⟨i, hi, HI, rfl⟩ := hrel
        by_cases hil : i < L x
        · obtain ⟨e, hA⟩ := hd.out.some hx hil
          have hz := hd.out.elem hx hil hA
          have hck2 := hck
          rw [hA] at hck2
          obtain ⟨z, hzn, hzz⟩ := HZ.out i hil
          rw [hzz] at hz
          have HZZ := Lib.hid hzz
          have HA := Lib.hid hA
          obtain ⟨_, e2, cz⟩ := hbs.out.at' hzn
          cases e2
          clear hzz hA hck
          have hz1 : (0 : Int) ≤ z := by omega
          have hz2 : (z : Int) < n := by omega
          obtain ⟨fz, hfz⟩ : ∃ fz, fz = f z := ⟨_, rfl⟩
          rw [← hfz] at cz
          have HFZ := Lib.hid hfz
          clear hfz
          cases fz with
          | false =>
            have hrf : r = false := by
              cases r with
              | false => rfl
              | true =>
                have := (HRes.out.1 rfl).2 HPR.out i (by simpa using hil)
                simp only [Int.toNat_natCast, HZZ.out] at this
                rw [← HFZ.out] at this
                cases this
            subst hrf
            cases p <;> cases rev <;> simp at hpd
            all_goals
              go_wp2
              go_ret
              exact ⟨rfl, below_drewN HB.out _⟩
          | true =>
            have hnx : Hid (∀ j, j < i + 1 → f (Z x j).toNat = true) := Lib.hid (fun j hj => by
              rcases Nat.lt_or_ge j i with hl | hl
              · exact HI.out j hl
              · obtain rfl : j = i := by omega
                rw [HZZ.out, Int.toNat_natCast, ← HFZ.out])
            cases p <;> cases rev <;> simp at hpd
            all_goals
              go_wp2
              go_round
              case rel => exact ⟨i + 1, by omega, hnx, by go_num⟩
              case measure => simp [intOf]; omega
        · obtain rfl : i = L x := by omega
          have hrt : r = true := HRes.out.2 ⟨by simp only [Int.toNat_natCast]; rw [← HF.out]; exact HE.out, fun _ j hj => by simp only [Int.toNat_natCast] at hj ⊢; exact HI.out j hj⟩
          subst hrt
          go_wp2
          go_ret
          exact ⟨rfl, below_drewN HB.out _⟩
    · have hp' : p = false := by cases p <;> simp_all
      have hrev' : rev = false := by cases rev <;> simp_all
      subst hp' hrev'
      have hrt : r = true := HRes.out.2 ⟨by simp only [Int.toNat_natCast]; rw [← HF.out]; exact HE.out, fun h => by rcases h with h | h <;> cases h⟩
      subst hrt
      clear hpr
      by_cases h0 : 0 < L x
      · go_wp2
        go_loop [9] (fun y => y = I 0) (fun y => 0)
        case atStart => exact rfl
        case round =>
          subst hrel
          go_wp2
          go_ret
          exact ⟨rfl, below_drewN HB.out _⟩
      · obtain h0' : L x = 0 := by omega
        rw [h0'] at hck
        go_wp2
        go_loop [9] (fun y => y = I 0) (fun y => 0)
        case atStart => exact rfl
        case round =>
          subst hrel
          go_wp2
          go_ret
          exact ⟨rfl, below_drewN HB.out _⟩
end Go.Proofs.Ytihpdmchppcbfaa
