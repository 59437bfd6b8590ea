/- least, LeastSize, LeastDepth, Binary. -/
import Derived.Test.YtpmjpkpaclmpbaaTd
import Derived.Test.YtpmjpkpaclmpbaaTe
import Derived.Test.YtpmjpkpaclmpbaaTg
namespace Go.Proofs.Ytpmjpkpaclmpbaa
open Go.RowKit
set_option linter.unusedVariables false
set_option linter.unusedSimpArgs false

theorem hp1 : ∀ n : Fin 4, IntKind.u64.wrap ((2 : Int) ^ n.val) = ((2 ^ n.val : Nat) : Int) := by decide +kernel
theorem hp2 : ∀ n : Fin 4, wrap64 ((2 : Int) ^ min (2 ^ n.val) 64) = ((2 ^ 2 ^ n.val : Nat) : Int) := by decide +kernel
theorem hp3 : ∀ n : Fin 4, (2 ^ 2 ^ n.val - 1 = 1 ∨ 2 ^ 2 ^ n.val - 1 = 3 ∨ 2 ^ 2 ^ n.val - 1 = 15 ∨ 2 ^ 2 ^ n.val - 1 = 255) ∧ 2 ^ 2 ^ n.val - 1 + 1 = 2 ^ 2 ^ n.val ∧ 2 ^ 2 ^ n.val ≤ 256 := by decide
abbrev Jm : Int → Int → Int := fun a b => 1 + max a b
abbrev Js : Int → Int → Int := fun a b => a + b
theorem best50_any {w : World} (n : Nat) (hn : n ≤ 3) (leaf : Int) (xor : Bool) (hl : 0 ≤ leaf) : Calls Try.prog 68 #[I n, I leaf, .bool xor, .func (.func 50) #[] #[]] w (BestR w n (2 ^ 2 ^ n - 1) (2 ^ 2 ^ n) leaf xor Jm) := by
  have q := hp3 ⟨n, by omega⟩
  simp only at q
  exact best50 n (2 ^ n) (2 ^ 2 ^ n - 1) (2 ^ 2 ^ n) leaf xor join_max hl q.1 (fun l h => by have := LS_lt hn h; omega) ⟨2 ^ n, q.2.1⟩ (fun w a b => join50 w a b) hn (hp1 ⟨n, by omega⟩) (hp2 ⟨n, by omega⟩) q.2.1 q.2.2
/-- what least answers for a table of at most three inputs -/
def Lr50 (w : World) (n : Nat) (leaf : Int) (xor : Bool) (e : Ending) (w' : World) : Prop :=
  ∃ E g, e = .returned (.tuple #[.slice (some ⟨g, 0, none⟩) (2 ^ 2 ^ n) (2 ^ 2 ^ n), I n, I 0]) ∧ w'.rowIs g 81 (5 * 2 ^ 2 ^ n) (Es E) ∧ Inv n (2 ^ 2 ^ n - 1) leaf xor Jm E ∧ Clo n (2 ^ 2 ^ n - 1) leaf xor Jm E ∧ Below w.heap.size w w'
set_option maxHeartbeats 2000000 in
theorem least50_ok {w : World} {a : Option Addr} {len cap : Nat} (hl : len < 8192) {n : Nat} (hn : n ≤ 3) (h : Inp len n true) (leaf : Int) (xor : Bool) (hl0 : 0 ≤ leaf) : Calls Try.prog 49 #[.slice a len cap, I leaf, .bool xor, .func (.func 50) #[] #[]] w (Lr50 w n leaf xor) := by
  have HI := Lib.hid (fun w : World => inputs_any (w := w) (a := a) (cap := cap) hl h)
  have HB := Lib.hid (fun w : World => best50_any (w := w) n hn leaf xor hl0)
  have hd : decide ((3 : Int) < n) = false := decide_eq_false (by omega)
  clear h
  unfold Lr50
  obtain ⟨N, hN⟩ : ∃ N, N = 2 ^ 2 ^ n := ⟨_, rfl⟩
  rw [← hN] at HB ⊢
  clear hN
  go_enter Try.func49, Try.ntmps49
  go_wp2_with (first
    | (go_at_call 41; refine (HI.out _).mono ?_; rintro e w' ⟨rfl, mm, rfl⟩)
    | (go_at_call 68; refine (HB.out _).mono ?_; rintro e w2 ⟨E, g, rfl, h1, h2, h3, h4⟩; have H1 := Lib.hid h1; have H2 := Lib.hid h2; have H3 := Lib.hid h3; have H4 := Lib.hid h4; clear h1 h2 h3 h4))
  go_ret3
  exact ⟨E, g, rfl, H1.out, H2.out, H3.out, (below_drewN (Below.refl _ _) mm).trans H4.out⟩
theorem best55_any {w : World} (n : Nat) (hn : n ≤ 3) (leaf : Int) (xor : Bool) (hl : 0 ≤ leaf) : Calls Try.prog 68 #[I n, I leaf, .bool xor, .func (.func 55) #[] #[]] w (BestR w n (2 ^ 2 ^ n - 1) (2 ^ 2 ^ n) leaf xor Js) := by
  have q := hp3 ⟨n, by omega⟩
  simp only at q
  exact best55 n (2 ^ n) (2 ^ 2 ^ n - 1) (2 ^ 2 ^ n) leaf xor join_sum hl q.1 (fun l h => by have := LS_lt hn h; omega) ⟨2 ^ n, q.2.1⟩ (fun w a b => join55 w a b) hn (hp1 ⟨n, by omega⟩) (hp2 ⟨n, by omega⟩) q.2.1 q.2.2
/-- what least answers for a table of at most three inputs -/
def Lr55 (w : World) (n : Nat) (leaf : Int) (xor : Bool) (e : Ending) (w' : World) : Prop :=
  ∃ E g, e = .returned (.tuple #[.slice (some ⟨g, 0, none⟩) (2 ^ 2 ^ n) (2 ^ 2 ^ n), I n, I 0]) ∧ w'.rowIs g 81 (5 * 2 ^ 2 ^ n) (Es E) ∧ Inv n (2 ^ 2 ^ n - 1) leaf xor Js E ∧ Clo n (2 ^ 2 ^ n - 1) leaf xor Js E ∧ Below w.heap.size w w'
set_option maxHeartbeats 2000000 in
theorem least55_ok {w : World} {a : Option Addr} {len cap : Nat} (hl : len < 8192) {n : Nat} (hn : n ≤ 3) (h : Inp len n true) (leaf : Int) (xor : Bool) (hl0 : 0 ≤ leaf) : Calls Try.prog 49 #[.slice a len cap, I leaf, .bool xor, .func (.func 55) #[] #[]] w (Lr55 w n leaf xor) := by
  have HI := Lib.hid (fun w : World => inputs_any (w := w) (a := a) (cap := cap) hl h)
  have HB := Lib.hid (fun w : World => best55_any (w := w) n hn leaf xor hl0)
  have hd : decide ((3 : Int) < n) = false := decide_eq_false (by omega)
  clear h
  unfold Lr55
  obtain ⟨N, hN⟩ : ∃ N, N = 2 ^ 2 ^ n := ⟨_, rfl⟩
  rw [← hN] at HB ⊢
  clear hN
  go_enter Try.func49, Try.ntmps49
  go_wp2_with (first
    | (go_at_call 41; refine (HI.out _).mono ?_; rintro e w' ⟨rfl, mm, rfl⟩)
    | (go_at_call 68; refine (HB.out _).mono ?_; rintro e w2 ⟨E, g, rfl, h1, h2, h3, h4⟩; have H1 := Lib.hid h1; have H2 := Lib.hid h2; have H3 := Lib.hid h3; have H4 := Lib.hid h4; clear h1 h2 h3 h4))
  go_ret3
  exact ⟨E, g, rfl, H1.out, H2.out, H3.out, (below_drewN (Below.refl _ _) mm).trans H4.out⟩

set_option maxHeartbeats 2000000 in
theorem least_bad {w : World} {a : Option Addr} {len cap : Nat} (hl : len < 8192) {n : Int} (h : Inp len n false) (leaf : Int) (xor : Bool) (fv : Value) : Calls Try.prog 49 #[.slice a len cap, I leaf, .bool xor, fv] w fun e w' => e = .returned (.tuple #[.slice none 0 0, I 0, I 1]) ∧ Below w.heap.size w w' := by
  have HI := Lib.hid (fun w : World => inputs_any (w := w) (a := a) (cap := cap) hl h)
  clear h
  go_enter Try.func49, Try.ntmps49
  go_wp2_with (go_at_call 41; refine (HI.out _).mono ?_; rintro e w' ⟨rfl, mm, rfl⟩)
  go_ret3
  exact ⟨rfl, below_drewN (Below.refl _ _) mm⟩
set_option maxHeartbeats 2000000 in
theorem least_big {w : World} {a : Option Addr} {len cap : Nat} (hl : len < 8192) {n : Int} (hn : 3 < n) (h : Inp len n true) (leaf : Int) (xor : Bool) (fv : Value) : Calls Try.prog 49 #[.slice a len cap, I leaf, .bool xor, fv] w fun e w' => e = .returned (.tuple #[.slice none 0 0, I 0, I 5]) ∧ Below w.heap.size w w' := by
  have HI := Lib.hid (fun w : World => inputs_any (w := w) (a := a) (cap := cap) hl h)
  have hd : decide ((3 : Int) < n) = true := decide_eq_true hn
  clear h
  go_enter Try.func49, Try.ntmps49
  go_wp2_with (go_at_call 41; refine (HI.out _).mono ?_; rintro e w' ⟨rfl, mm, rfl⟩)
  go_ret3
  exact ⟨rfl, below_drewN (Below.refl _ _) mm⟩
theorem inp_pow {k : Nat} (hk : k ≤ 12) : Inp (2 ^ k) k true := by
  have h : ∀ c : Fin 13, bl 13 (2 ^ c.val) = c.val + 1 := by decide +kernel
  have h1 : bl 13 (2 ^ k) = k + 1 := h ⟨k, by omega⟩
  refine ⟨by rw [h1]; omega, by simp⟩

/-- what leastSize answers -/
def R_leastSize (w : World) (n : Nat) (f : Nat → Bool) (e : Ending) (w' : World) : Prop :=
  ∃ E, e = .returned (.tuple #[I (cs E (tn f (2 ^ n))), I 0]) ∧ Inv n (2 ^ 2 ^ n - 1) 1 false Js E ∧ Clo n (2 ^ 2 ^ n - 1) 1 false Js E ∧ Below w.heap.size w w'
set_option maxHeartbeats 2000000 in
theorem leastSize_ok {w : World} {v : Value} {n : Nat} {f : Nat → Bool} (hn : n ≤ 3) (hb : Bs w v (2 ^ n) f) : Calls Try.prog 22 #[v] w (R_leastSize w n f) := by
  obtain ⟨a, cap, rfl⟩ := hb.shape
  have h8 : 2 ^ n ≤ 2 ^ 3 := Nat.pow_le_pow_right (by decide) hn
  have HL := Lib.hid (least55_ok (w := w) (a := a) (cap := cap) (len := 2 ^ n) (by omega) hn (inp_pow (by omega)) 1 false (by decide))
  have hlt := tn_lt f (2 ^ n)
  have HBS := Lib.hid hb
  have h256 := (hp3 ⟨n, by omega⟩).2.2
  simp only at h256
  clear hb
  unfold R_leastSize
  unfold Lr55 at HL
  obtain ⟨L, hL⟩ : ∃ L, L = 2 ^ n := ⟨_, rfl⟩
  rw [← hL] at HL HBS h8 hlt h256 ⊢
  clear hL
  obtain ⟨N, hN⟩ : ∃ N, N = 2 ^ L := ⟨_, rfl⟩
  rw [← hN] at HL hlt h256 ⊢
  clear hN
  have HFN := Lib.hid (fun (w' : World) (h : Below w.heap.size w w') => function_any (HBS.out.keep h) (by omega))
  obtain ⟨t, ht⟩ : ∃ t, t = tn f L := ⟨_, rfl⟩
  rw [← ht] at HFN hlt ⊢
  have ht0 : (0 : Int) ≤ t := by omega
  have ht1 : (t : Int) < N := by omega
  clear ht
  go_enter Try.func22, Try.ntmps22
  go_wp2_with (first
    | (go_at_call 49; refine HL.out.mono ?_; rintro e w2 ⟨E, g, rfl, h1, h2, h3, h4⟩; have H2 := Lib.hid h2; have H3 := Lib.hid h3; have H4 := Lib.hid h4; have ct : w2.cell? ⟨g, t * 5, none⟩ = some (I (cs E t)) := (h1.cell (i := t * 5) (by omega)).trans (congrArg some (Es_cell E t 0 (by decide))); clear h1 h2 h3 h4)
    | (go_at_call 51; refine (HFN.out _ H4.out).mono ?_; rintro e w3 ⟨rfl, rfl⟩))
  go_ret2
  exact ⟨E, rfl, H2.out, H3.out, H4.out⟩
set_option maxHeartbeats 2000000 in
theorem leastSize_bad {w : World} {a : Option Addr} {len cap : Nat} (hl : len < 8192) {n : Int} (h : Inp len n false) : Calls Try.prog 22 #[.slice a len cap] w fun e w' => e = .returned (.tuple #[I 0, I 1]) ∧ Below w.heap.size w w' := by
  have HL := Lib.hid (fun fv => least_bad (w := w) (a := a) (cap := cap) hl h 1 false fv)
  clear h
  go_enter Try.func22, Try.ntmps22
  go_wp2_with (go_at_call 49; refine (HL.out _).mono ?_; rintro e w' ⟨rfl, hb⟩; have HB := Lib.hid hb; clear hb)
  go_ret2
  exact ⟨rfl, HB.out⟩
set_option maxHeartbeats 2000000 in
theorem leastSize_big {w : World} {a : Option Addr} {len cap : Nat} (hl : len < 8192) {n : Int} (hn : 3 < n) (h : Inp len n true) : Calls Try.prog 22 #[.slice a len cap] w fun e w' => e = .returned (.tuple #[I 0, I 5]) ∧ Below w.heap.size w w' := by
  have HL := Lib.hid (fun fv => least_big (w := w) (a := a) (cap := cap) hl hn h 1 false fv)
  clear h
  go_enter Try.func22, Try.ntmps22
  go_wp2_with (go_at_call 49; refine (HL.out _).mono ?_; rintro e w' ⟨rfl, hb⟩; have HB := Lib.hid hb; clear hb)
  go_ret2
  exact ⟨rfl, HB.out⟩

/-- what leastDepth answers -/
def R_leastDepth (w : World) (n : Nat) (f : Nat → Bool) (e : Ending) (w' : World) : Prop :=
  ∃ E, e = .returned (.tuple #[I (cs E (tn f (2 ^ n))), I 0]) ∧ Inv n (2 ^ 2 ^ n - 1) 0 false Jm E ∧ Clo n (2 ^ 2 ^ n - 1) 0 false Jm E ∧ Below w.heap.size w w'
set_option maxHeartbeats 2000000 in
theorem leastDepth_ok {w : World} {v : Value} {n : Nat} {f : Nat → Bool} (hn : n ≤ 3) (hb : Bs w v (2 ^ n) f) : Calls Try.prog 18 #[v] w (R_leastDepth w n f) := by
  obtain ⟨a, cap, rfl⟩ := hb.shape
  have h8 : 2 ^ n ≤ 2 ^ 3 := Nat.pow_le_pow_right (by decide) hn
  have HL := Lib.hid (least50_ok (w := w) (a := a) (cap := cap) (len := 2 ^ n) (by omega) hn (inp_pow (by omega)) 0 false (by decide))
  have hlt := tn_lt f (2 ^ n)
  have HBS := Lib.hid hb
  have h256 := (hp3 ⟨n, by omega⟩).2.2
  simp only at h256
  clear hb
  unfold R_leastDepth
  unfold Lr50 at HL
  obtain ⟨L, hL⟩ : ∃ L, L = 2 ^ n := ⟨_, rfl⟩
  rw [← hL] at HL HBS h8 hlt h256 ⊢
  clear hL
  obtain ⟨N, hN⟩ : ∃ N, N = 2 ^ L := ⟨_, rfl⟩
  rw [← hN] at HL hlt h256 ⊢
  clear hN
  have HFN := Lib.hid (fun (w' : World) (h : Below w.heap.size w w') => function_any (HBS.out.keep h) (by omega))
  obtain ⟨t, ht⟩ : ∃ t, t = tn f L := ⟨_, rfl⟩
  rw [← ht] at HFN hlt ⊢
  have ht0 : (0 : Int) ≤ t := by omega
  have ht1 : (t : Int) < N := by omega
  clear ht
  go_enter Try.func18, Try.ntmps18
  go_wp2_with (first
    | (go_at_call 49; refine HL.out.mono ?_; rintro e w2 ⟨E, g, rfl, h1, h2, h3, h4⟩; have H2 := Lib.hid h2; have H3 := Lib.hid h3; have H4 := Lib.hid h4; have ct : w2.cell? ⟨g, t * 5, none⟩ = some (I (cs E t)) := (h1.cell (i := t * 5) (by omega)).trans (congrArg some (Es_cell E t 0 (by decide))); clear h1 h2 h3 h4)
    | (go_at_call 51; refine (HFN.out _ H4.out).mono ?_; rintro e w3 ⟨rfl, rfl⟩))
  go_ret2
  exact ⟨E, rfl, H2.out, H3.out, H4.out⟩
set_option maxHeartbeats 2000000 in
theorem leastDepth_bad {w : World} {a : Option Addr} {len cap : Nat} (hl : len < 8192) {n : Int} (h : Inp len n false) : Calls Try.prog 18 #[.slice a len cap] w fun e w' => e = .returned (.tuple #[I 0, I 1]) ∧ Below w.heap.size w w' := by
  have HL := Lib.hid (fun fv => least_bad (w := w) (a := a) (cap := cap) hl h 0 false fv)
  clear h
  go_enter Try.func18, Try.ntmps18
  go_wp2_with (go_at_call 49; refine (HL.out _).mono ?_; rintro e w' ⟨rfl, hb⟩; have HB := Lib.hid hb; clear hb)
  go_ret2
  exact ⟨rfl, HB.out⟩
set_option maxHeartbeats 2000000 in
theorem leastDepth_big {w : World} {a : Option Addr} {len cap : Nat} (hl : len < 8192) {n : Int} (hn : 3 < n) (h : Inp len n true) : Calls Try.prog 18 #[.slice a len cap] w fun e w' => e = .returned (.tuple #[I 0, I 5]) ∧ Below w.heap.size w w' := by
  have HL := Lib.hid (fun fv => least_big (w := w) (a := a) (cap := cap) hl hn h 0 false fv)
  clear h
  go_enter Try.func18, Try.ntmps18
  go_wp2_with (go_at_call 49; refine (HL.out _).mono ?_; rintro e w' ⟨rfl, hb⟩; have HB := Lib.hid hb; clear hb)
  go_ret2
  exact ⟨rfl, HB.out⟩

/-- what binary answers -/
def R_binary (w : World) (n : Nat) (f : Nat → Bool) (e : Ending) (w' : World) : Prop :=
  ∃ E, e = .returned (.tuple #[I (cs E (tn f (2 ^ n))), I 0]) ∧ Inv n (2 ^ 2 ^ n - 1) 1 true Js E ∧ Clo n (2 ^ 2 ^ n - 1) 1 true Js E ∧ Below w.heap.size w w'
set_option maxHeartbeats 2000000 in
theorem binary_ok {w : World} {v : Value} {n : Nat} {f : Nat → Bool} (hn : n ≤ 3) (hb : Bs w v (2 ^ n) f) : Calls Try.prog 24 #[v] w (R_binary w n f) := by
  obtain ⟨a, cap, rfl⟩ := hb.shape
  have h8 : 2 ^ n ≤ 2 ^ 3 := Nat.pow_le_pow_right (by decide) hn
  have HL := Lib.hid (least55_ok (w := w) (a := a) (cap := cap) (len := 2 ^ n) (by omega) hn (inp_pow (by omega)) 1 true (by decide))
  have hlt := tn_lt f (2 ^ n)
  have HBS := Lib.hid hb
  have h256 := (hp3 ⟨n, by omega⟩).2.2
  simp only at h256
  clear hb
  unfold R_binary
  unfold Lr55 at HL
  obtain ⟨L, hL⟩ : ∃ L, L = 2 ^ n := ⟨_, rfl⟩
  rw [← hL] at HL HBS h8 hlt h256 ⊢
  clear hL
  obtain ⟨N, hN⟩ : ∃ N, N = 2 ^ L := ⟨_, rfl⟩
  rw [← hN] at HL hlt h256 ⊢
  clear hN
  have HFN := Lib.hid (fun (w' : World) (h : Below w.heap.size w w') => function_any (HBS.out.keep h) (by omega))
  obtain ⟨t, ht⟩ : ∃ t, t = tn f L := ⟨_, rfl⟩
  rw [← ht] at HFN hlt ⊢
  have ht0 : (0 : Int) ≤ t := by omega
  have ht1 : (t : Int) < N := by omega
  clear ht
  go_enter Try.func24, Try.ntmps24
  go_wp2_with (first
    | (go_at_call 49; refine HL.out.mono ?_; rintro e w2 ⟨E, g, rfl, h1, h2, h3, h4⟩; have H2 := Lib.hid h2; have H3 := Lib.hid h3; have H4 := Lib.hid h4; have ct : w2.cell? ⟨g, t * 5, none⟩ = some (I (cs E t)) := (h1.cell (i := t * 5) (by omega)).trans (congrArg some (Es_cell E t 0 (by decide))); clear h1 h2 h3 h4)
    | (go_at_call 51; refine (HFN.out _ H4.out).mono ?_; rintro e w3 ⟨rfl, rfl⟩))
  go_ret2
  exact ⟨E, rfl, H2.out, H3.out, H4.out⟩
set_option maxHeartbeats 2000000 in
theorem binary_bad {w : World} {a : Option Addr} {len cap : Nat} (hl : len < 8192) {n : Int} (h : Inp len n false) : Calls Try.prog 24 #[.slice a len cap] w fun e w' => e = .returned (.tuple #[I 0, I 1]) ∧ Below w.heap.size w w' := by
  have HL := Lib.hid (fun fv => least_bad (w := w) (a := a) (cap := cap) hl h 1 true fv)
  clear h
  go_enter Try.func24, Try.ntmps24
  go_wp2_with (go_at_call 49; refine (HL.out _).mono ?_; rintro e w' ⟨rfl, hb⟩; have HB := Lib.hid hb; clear hb)
  go_ret2
  exact ⟨rfl, HB.out⟩
set_option maxHeartbeats 2000000 in
theorem binary_big {w : World} {a : Option Addr} {len cap : Nat} (hl : len < 8192) {n : Int} (hn : 3 < n) (h : Inp len n true) : Calls Try.prog 24 #[.slice a len cap] w fun e w' => e = .returned (.tuple #[I 0, I 5]) ∧ Below w.heap.size w w' := by
  have HL := Lib.hid (fun fv => least_big (w := w) (a := a) (cap := cap) hl hn h 1 true fv)
  clear h
  go_enter Try.func24, Try.ntmps24
  go_wp2_with (go_at_call 49; refine (HL.out _).mono ?_; rintro e w' ⟨rfl, hb⟩; have HB := Lib.hid hb; clear hb)
  go_ret2
  exact ⟨rfl, HB.out⟩
end Go.Proofs.Ytpmjpkpaclmpbaa
