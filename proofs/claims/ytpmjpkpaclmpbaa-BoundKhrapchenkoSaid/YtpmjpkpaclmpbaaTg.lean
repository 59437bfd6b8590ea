/- bits.Len of a small number; how many inputs a table has. -/
import Derived.Test.YtpmjpkpaclmpbaaTf
namespace Go.Proofs.Ytpmjpkpaclmpbaa
open Go.RowKit
set_option linter.unusedVariables false
set_option linter.unusedSimpArgs false

/-- how many bits -/
def bl : Nat → Nat → Nat
  | 0, _ => 0
  | k + 1, x => if x = 0 then 0 else bl k (x / 2) + 1
theorem wr_small (n : Nat) (h : n ≤ 100) : wrap64 (n : Int) = n := by
  have : ∀ c : Fin 101, wrap64 ((c.val : Nat) : Int) = c.val := by decide +kernel
  exact this ⟨n, by omega⟩
theorem bl_le : ∀ k x, bl k x ≤ k
  | 0, x => Nat.le_refl _
  | k + 1, x => by
    have := bl_le k (x / 2)
    simp only [bl]
    split <;> omega
theorem tab_at (T : ByteArray) (x : Nat) (hx : x < T.size) (hT : (List.range 256).all (fun i => (T.data.getD i 0).toNat == bl 13 i) = true) (h : x < 256) : (T[x]'hx).toNat = bl 13 x := by
  have h1 := List.all_eq_true.1 hT x (List.mem_range.2 h)
  have h2 : (T.data.getD x 0).toNat = bl 13 x := by simpa using h1
  rw [← h2]
  have : T.data.getD x 0 = T[x]'hx := by
    have hx2 : x < T.data.size := hx
    simp only [Array.getD]
    rw [dif_pos hx2]
    rfl
  rw [this]
theorem tab_lo (T : ByteArray) (x : Nat) (hx : x < T.size) (hT : (List.range 256).all (fun i => (T.data.getD i 0).toNat == bl 13 i) = true) (h : x < 256) : wrap64 (wrap64 ((T[x]'hx).toNat : Int)) = (bl 13 x : Int) := by
  rw [tab_at T x hx hT h, wr_small _ (by have := bl_le 13 x; omega), wr_small _ (by have := bl_le 13 x; omega)]
theorem bl_half {k x : Nat} (h : x ≠ 0) : bl (k + 1) x = bl k (x / 2) + 1 := by rw [bl, if_neg h]
theorem bl_hi {x : Nat} (h : 256 ≤ x) (h2 : x < 8192) : bl 13 x = bl 13 (x / 256) + 8 := by
  have hs : ∀ y : Fin 32, bl 5 y.val = bl 13 y.val := by decide
  rw [← hs ⟨x / 256, by omega⟩]
  rw [bl_half (by omega), bl_half (by omega), bl_half (by omega), bl_half (by omega), bl_half (by omega), bl_half (by omega), bl_half (by omega), bl_half (by omega)]
  have e : x / 2 / 2 / 2 / 2 / 2 / 2 / 2 / 2 = x / 256 := by omega
  rw [e]
theorem tab_hi (T : ByteArray) (x : Nat) (hx : x / 256 < T.size) (hT : (List.range 256).all (fun i => (T.data.getD i 0).toNat == bl 13 i) = true) (h : 256 ≤ x) (h2 : x < 8192) : wrap64 (8 + wrap64 ((T[x / 256]'hx).toNat : Int)) = (bl 13 x : Int) := by
  have h3 := bl_le 13 (x / 256)
  rw [tab_at T _ hx hT (by omega), wr_small _ (by omega), bl_hi h h2]
  have e : (8 : Int) + (bl 13 (x / 256) : Int) = ((bl 13 (x / 256) + 8 : Nat) : Int) := by omega
  rw [e, wr_small _ (by omega)]
set_option maxHeartbeats 4000000 in
set_option maxRecDepth 100000 in
theorem len64 {w : World} (x : Nat) (hx : x < 8192) : Calls Try.prog 71 #[U x] w fun e w' => e = .returned (I (bl 13 x)) ∧ w = w' := by
  have d1 : decide ((4294967296 : Int) ≤ x) = false := decide_eq_false (by omega)
  have d2 : decide ((65536 : Int) ≤ x) = false := decide_eq_false (by omega)
  by_cases h : 256 ≤ x
  · have d3 : decide ((256 : Int) ≤ x) = true := decide_eq_true (by omega)
    go_enter Try.func71, Try.ntmps71
    go_wp2
    go_ret
    exact ⟨ri (tab_hi _ _ _ (by kernel_rfl) h hx), rfl⟩
  · have d3 : decide ((256 : Int) ≤ x) = false := decide_eq_false (by omega)
    go_enter Try.func71, Try.ntmps71
    go_wp2
    go_ret
    exact ⟨ri (tab_lo _ _ _ (by kernel_rfl) (by omega)), rfl⟩
set_option maxHeartbeats 2000000 in
theorem len_any {w : World} (x : Nat) (hx : x < 8192) : Calls Try.prog 63 #[U x] w fun e w' => e = .returned (I (bl 13 x)) ∧ w = w' := by
  have H := Lib.hid (fun w : World => len64 (w := w) x hx)
  go_enter Try.func63, Try.ntmps63
  go_wp2_with (go_at_call 71; refine (H.out _).mono ?_; rintro e w' ⟨rfl, rfl⟩)
  go_ret
  exact ⟨rfl, rfl⟩
theorem w2i (p : Nat) (h : p < 15) : wrap64 ((2 : Int) ^ p) = ((2 ^ p : Nat) : Int) := by
  have : ∀ c : Fin 15, wrap64 ((2 : Int) ^ c.val) = ((2 ^ c.val : Nat) : Int) := by decide +kernel
  exact this ⟨p, h⟩
/-- the table has k inputs -/
def Inp (len : Nat) (n : Int) (ok : Bool) : Prop := n = (bl 13 len : Int) - 1 ∧ (ok = true ↔ 0 ≤ n ∧ len = 2 ^ n.toNat)
set_option maxHeartbeats 4000000 in
theorem inputs_any {w : World} {a : Option Addr} {len cap : Nat} (hl : len < 8192) {n : Int} {ok : Bool} (h : Inp len n ok) : Calls Try.prog 41 #[.slice a len cap] w fun e w' => e = .returned (.tuple #[I n, .bool ok]) ∧ ∃ m, w' = w.drewN m := by
  obtain ⟨rfl, hok⟩ := h
  have H := Lib.hid (fun w : World => len_any (w := w) len hl)
  have hle := bl_le 13 len
  obtain ⟨b, hb⟩ : ∃ b, b = bl 13 len := ⟨_, rfl⟩
  rw [← hb] at H hok hle ⊢
  have hbp : len = 0 ↔ b = 0 := by
    rw [hb]
    constructor
    · intro h; rw [h]; rfl
    · intro h
      by_cases e : len = 0
      · exact e
      · rw [bl_half e] at h; omega
  clear hb
  by_cases h0 : b = 0
  · have hd : decide ((0 : Int) ≤ (b : Int) - 1) = false := decide_eq_false (by omega)
    have hokf : ok = false := by
      cases ok with
      | false => rfl
      | true => have := (hok.1 rfl).1; omega
    subst hokf
    clear hok hbp
    subst h0
    have e1 : ((0 : Nat) : Int) - 1 = -1 := rfl
    rw [e1] at hd ⊢
    have H' : Hid (∀ (w : World), Calls Try.prog 63 #[U len] w fun e w' => e = .returned (I 0) ∧ w = w') := H
    clear H
    go_enter Try.func41, Try.ntmps41
    go_upto_region 2 with (go_at_call 63; refine (H'.out _).mono ?_; rintro e w' ⟨rfl, rfl⟩)
    go_quiet (fail)
    go_wp2
    go_ret2
    exact ⟨rfl, _, rfl⟩
  · obtain ⟨m, rfl⟩ : ∃ m, b = m + 1 := ⟨b - 1, by omega⟩
    have hbm : ((m + 1 : Nat) : Int) - 1 = (m : Int) := by omega
    rw [hbm] at hok ⊢
    have hw := w2i m (by omega)
    have hm0 : (0 : Int) ≤ m := by omega
    have hd : decide ((0 : Int) ≤ (m : Int)) = true := decide_eq_true (by omega)
    have hd2 : decide ((m : Int) ≤ 12) = true := decide_eq_true (by omega)
    have hok2 : ok = ((len : Int) == ((2 ^ m : Nat) : Int)) := by
      rw [Bool.eq_iff_iff, hok, beq_iff_eq]
      simp only [Int.toNat_natCast]
      omega
    clear hok hbp
    generalize 2 ^ m = N at *
    subst hok2
    have H' : Hid (∀ (w : World), Calls Try.prog 63 #[U len] w fun e w' => e = .returned (I ((m : Int) + 1)) ∧ w = w') := H
    clear H
    go_enter Try.func41, Try.ntmps41
    go_upto_region 2 with (go_at_call 63; refine (H'.out _).mono ?_; rintro e w' ⟨rfl, rfl⟩)
    go_quiet (fail)
    go_wp2
    go_ret2
    exact ⟨rfl, _, rfl⟩
end Go.Proofs.Ytpmjpkpaclmpbaa
