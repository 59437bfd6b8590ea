/- least, LeastSize, LeastDepth, Binary; Plain: the parity of two inputs costs 4 leaves, depth 2, and 2 leaves with xor; Lists of numbers in memory; the reference's Inputs; the closure of Khrapchenko; The reference's Set; Copies of lists of bools and of numbers; Edges: the pairs that differ in one bit. -/
import Derived.Test.YtpfbommaddaijaaZfTd
import Derived.Test.YtpfbommaddaijaaZfTe
import Derived.Test.YtpfbommaddaijaaZfKa
import Derived.OwnWalk
import Derived.ArgAppend
namespace Go.Proofs.Ytpfbommaddaijaa
open Go.RowKit
set_option linter.unusedVariables false
set_option linter.unusedSimpArgs false

theorem hp1 : ∀ n : Fin 4, IntKind.u64.wrap ((2 : Int) ^ n.val) = ((2 ^ n.val : Nat) : Int) := by decide +kernel
theorem hp2 : ∀ n : Fin 4, wrap64 ((2 : Int) ^ min (2 ^ n.val) 64) = ((2 ^ 2 ^ n.val : Nat) : Int) := by decide +kernel
theorem hp3 : ∀ n : Fin 4, (2 ^ 2 ^ n.val - 1 = 1 ∨ 2 ^ 2 ^ n.val - 1 = 3 ∨ 2 ^ 2 ^ n.val - 1 = 15 ∨ 2 ^ 2 ^ n.val - 1 = 255) ∧ 2 ^ 2 ^ n.val - 1 + 1 = 2 ^ 2 ^ n.val ∧ 2 ^ 2 ^ n.val ≤ 256 := by decide
abbrev Jm : Int → Int → Int := fun a b => 1 + max a b
abbrev Js : Int → Int → Int := fun a b => a + b
theorem best50_any {w : World} (n : Nat) (hn : n ≤ 3) (leaf : Int) (xor : Bool) (hl : 0 ≤ leaf) : Calls Try.prog 121 #[I n, I leaf, .bool xor, .func (.func 72) #[] #[]] w (BestR w n (2 ^ 2 ^ n - 1) (2 ^ 2 ^ n) leaf xor Jm) := by
  have q := hp3 ⟨n, by omega⟩
  simp only at q
  exact best50 n (2 ^ n) (2 ^ 2 ^ n - 1) (2 ^ 2 ^ n) leaf xor join_max hl q.1 (fun l h => by have := LS_lt hn h; omega) ⟨2 ^ n, q.2.1⟩ (fun w a b => join50 w a b) hn (hp1 ⟨n, by omega⟩) (hp2 ⟨n, by omega⟩) q.2.1 q.2.2
/-- what least answers for a table of at most three inputs -/
def Lr50 (w : World) (n : Nat) (leaf : Int) (xor : Bool) (e : Ending) (w' : World) : Prop :=
  ∃ E g, e = .returned (.tuple #[.slice (some ⟨g, 0, none⟩) (2 ^ 2 ^ n) (2 ^ 2 ^ n), I n, I 0]) ∧ w'.rowIs g 95 (5 * 2 ^ 2 ^ n) (Es E) ∧ Inv n (2 ^ 2 ^ n - 1) leaf xor Jm E ∧ Clo n (2 ^ 2 ^ n - 1) leaf xor Jm E ∧ Below w.heap.size w w'
set_option maxHeartbeats 2000000 in
theorem least50_ok {w : World} {a : Option Addr} {len cap : Nat} (hl : len < 8192) {n : Nat} (hn : n ≤ 3) (h : Inp len n true) (leaf : Int) (xor : Bool) (hl0 : 0 ≤ leaf) : Calls Try.prog 71 #[.slice a len cap, I leaf, .bool xor, .func (.func 72) #[] #[]] w (Lr50 w n leaf xor) := by
  have HI := Lib.hid (fun w : World => inputs_any (w := w) (a := a) (cap := cap) hl h)
  have HB := Lib.hid (fun w : World => best50_any (w := w) n hn leaf xor hl0)
  have hd : decide ((3 : Int) < n) = false := decide_eq_false (by omega)
  clear h
  unfold Lr50
  obtain ⟨N, hN⟩ : ∃ N, N = 2 ^ 2 ^ n := ⟨_, rfl⟩
  rw [← hN] at HB ⊢
  clear hN
  go_enter Try.func71, Try.ntmps71
  go_wp2_with (first
    | (go_at_call 84; refine (HI.out _).mono ?_; rintro e w' ⟨rfl, mm, rfl⟩)
    | (go_at_call 121; refine (HB.out _).mono ?_; rintro e w2 ⟨E, g, rfl, h1, h2, h3, h4⟩; have H1 := Lib.hid h1; have H2 := Lib.hid h2; have H3 := Lib.hid h3; have H4 := Lib.hid h4; clear h1 h2 h3 h4))
  go_ret3
  exact ⟨E, g, rfl, H1.out, H2.out, H3.out, (below_drewN (Below.refl _ _) mm).trans H4.out⟩
theorem best55_any {w : World} (n : Nat) (hn : n ≤ 3) (leaf : Int) (xor : Bool) (hl : 0 ≤ leaf) : Calls Try.prog 121 #[I n, I leaf, .bool xor, .func (.func 77) #[] #[]] w (BestR w n (2 ^ 2 ^ n - 1) (2 ^ 2 ^ n) leaf xor Js) := by
  have q := hp3 ⟨n, by omega⟩
  simp only at q
  exact best55 n (2 ^ n) (2 ^ 2 ^ n - 1) (2 ^ 2 ^ n) leaf xor join_sum hl q.1 (fun l h => by have := LS_lt hn h; omega) ⟨2 ^ n, q.2.1⟩ (fun w a b => join55 w a b) hn (hp1 ⟨n, by omega⟩) (hp2 ⟨n, by omega⟩) q.2.1 q.2.2
/-- what least answers for a table of at most three inputs -/
def Lr55 (w : World) (n : Nat) (leaf : Int) (xor : Bool) (e : Ending) (w' : World) : Prop :=
  ∃ E g, e = .returned (.tuple #[.slice (some ⟨g, 0, none⟩) (2 ^ 2 ^ n) (2 ^ 2 ^ n), I n, I 0]) ∧ w'.rowIs g 95 (5 * 2 ^ 2 ^ n) (Es E) ∧ Inv n (2 ^ 2 ^ n - 1) leaf xor Js E ∧ Clo n (2 ^ 2 ^ n - 1) leaf xor Js E ∧ Below w.heap.size w w'
set_option maxHeartbeats 2000000 in
theorem least55_ok {w : World} {a : Option Addr} {len cap : Nat} (hl : len < 8192) {n : Nat} (hn : n ≤ 3) (h : Inp len n true) (leaf : Int) (xor : Bool) (hl0 : 0 ≤ leaf) : Calls Try.prog 71 #[.slice a len cap, I leaf, .bool xor, .func (.func 77) #[] #[]] w (Lr55 w n leaf xor) := by
  have HI := Lib.hid (fun w : World => inputs_any (w := w) (a := a) (cap := cap) hl h)
  have HB := Lib.hid (fun w : World => best55_any (w := w) n hn leaf xor hl0)
  have hd : decide ((3 : Int) < n) = false := decide_eq_false (by omega)
  clear h
  unfold Lr55
  obtain ⟨N, hN⟩ : ∃ N, N = 2 ^ 2 ^ n := ⟨_, rfl⟩
  rw [← hN] at HB ⊢
  clear hN
  go_enter Try.func71, Try.ntmps71
  go_wp2_with (first
    | (go_at_call 84; refine (HI.out _).mono ?_; rintro e w' ⟨rfl, mm, rfl⟩)
    | (go_at_call 121; refine (HB.out _).mono ?_; rintro e w2 ⟨E, g, rfl, h1, h2, h3, h4⟩; have H1 := Lib.hid h1; have H2 := Lib.hid h2; have H3 := Lib.hid h3; have H4 := Lib.hid h4; clear h1 h2 h3 h4))
  go_ret3
  exact ⟨E, g, rfl, H1.out, H2.out, H3.out, (below_drewN (Below.refl _ _) mm).trans H4.out⟩

theorem inp_pow {k : Nat} (hk : k ≤ 12) : Inp (2 ^ k) k true := by
  have h : ∀ c : Fin 13, bl 13 (2 ^ c.val) = c.val + 1 := by decide +kernel
  have h1 : bl 13 (2 ^ k) = k + 1 := h ⟨k, by omega⟩
  refine ⟨by rw [h1]; omega, by simp⟩

/-- what leastSize answers -/
def R_leastSize (w : World) (n : Nat) (f : Nat → Bool) (e : Ending) (w' : World) : Prop :=
  ∃ E, e = .returned (.tuple #[I (cs E (tn f (2 ^ n))), I 0]) ∧ Inv n (2 ^ 2 ^ n - 1) 1 false Js E ∧ Clo n (2 ^ 2 ^ n - 1) 1 false Js E ∧ Below w.heap.size w w'
set_option maxHeartbeats 2000000 in
theorem leastSize_ok {w : World} {v : Value} {n : Nat} {f : Nat → Bool} (hn : n ≤ 3) (hb : Bs w v (2 ^ n) f) : Calls Try.prog 27 #[v] w (R_leastSize w n f) := by
  obtain ⟨a, cap, rfl⟩ := hb.shape
  have h8 : 2 ^ n ≤ 2 ^ 3 := Nat.pow_le_pow_right (by decide) hn
  have HL := Lib.hid (least55_ok (w := w) (a := a) (cap := cap) (len := 2 ^ n) (by omega) hn (inp_pow (by omega)) 1 false (by decide))
  have hlt := tn_lt f (2 ^ n)
  have HBS := Lib.hid hb
  have h256 := (hp3 ⟨n, by omega⟩).2.2
  simp only at h256
  clear hb
  unfold R_leastSize
  unfold Lr55 at HL
  obtain ⟨L, hL⟩ : ∃ L, L = 2 ^ n := ⟨_, rfl⟩
  rw [← hL] at HL HBS h8 hlt h256 ⊢
  clear hL
  obtain ⟨N, hN⟩ : ∃ N, N = 2 ^ L := ⟨_, rfl⟩
  rw [← hN] at HL hlt h256 ⊢
  clear hN
  have HFN := Lib.hid (fun (w' : World) (h : Below w.heap.size w w') => function_any (HBS.out.keep h) (by omega))
  obtain ⟨t, ht⟩ : ∃ t, t = tn f L := ⟨_, rfl⟩
  rw [← ht] at HFN hlt ⊢
  have ht0 : (0 : Int) ≤ t := by omega
  have ht1 : (t : Int) < N := by omega
  clear ht
  go_enter Try.func27, Try.ntmps27
  go_wp2_with (first
    | (go_at_call 71; refine HL.out.mono ?_; rintro e w2 ⟨E, g, rfl, h1, h2, h3, h4⟩; have H2 := Lib.hid h2; have H3 := Lib.hid h3; have H4 := Lib.hid h4; have ct : w2.cell? ⟨g, t * 5, none⟩ = some (I (cs E t)) := (h1.cell (i := t * 5) (by omega)).trans (congrArg some (Es_cell E t 0 (by decide))); clear h1 h2 h3 h4)
    | (go_at_call 73; refine (HFN.out _ H4.out).mono ?_; rintro e w3 ⟨rfl, rfl⟩))
  go_ret2
  exact ⟨E, rfl, H2.out, H3.out, H4.out⟩
/-- what leastDepth answers -/
def R_leastDepth (w : World) (n : Nat) (f : Nat → Bool) (e : Ending) (w' : World) : Prop :=
  ∃ E, e = .returned (.tuple #[I (cs E (tn f (2 ^ n))), I 0]) ∧ Inv n (2 ^ 2 ^ n - 1) 0 false Jm E ∧ Clo n (2 ^ 2 ^ n - 1) 0 false Jm E ∧ Below w.heap.size w w'
set_option maxHeartbeats 2000000 in
theorem leastDepth_ok {w : World} {v : Value} {n : Nat} {f : Nat → Bool} (hn : n ≤ 3) (hb : Bs w v (2 ^ n) f) : Calls Try.prog 22 #[v] w (R_leastDepth w n f) := by
  obtain ⟨a, cap, rfl⟩ := hb.shape
  have h8 : 2 ^ n ≤ 2 ^ 3 := Nat.pow_le_pow_right (by decide) hn
  have HL := Lib.hid (least50_ok (w := w) (a := a) (cap := cap) (len := 2 ^ n) (by omega) hn (inp_pow (by omega)) 0 false (by decide))
  have hlt := tn_lt f (2 ^ n)
  have HBS := Lib.hid hb
  have h256 := (hp3 ⟨n, by omega⟩).2.2
  simp only at h256
  clear hb
  unfold R_leastDepth
  unfold Lr50 at HL
  obtain ⟨L, hL⟩ : ∃ L, L = 2 ^ n := ⟨_, rfl⟩
  rw [← hL] at HL HBS h8 hlt h256 ⊢
  clear hL
  obtain ⟨N, hN⟩ : ∃ N, N = 2 ^ L := ⟨_, rfl⟩
  rw [← hN] at HL hlt h256 ⊢
  clear hN
  have HFN := Lib.hid (fun (w' : World) (h : Below w.heap.size w w') => function_any (HBS.out.keep h) (by omega))
  obtain ⟨t, ht⟩ : ∃ t, t = tn f L := ⟨_, rfl⟩
  rw [← ht] at HFN hlt ⊢
  have ht0 : (0 : Int) ≤ t := by omega
  have ht1 : (t : Int) < N := by omega
  clear ht
  go_enter Try.func22, Try.ntmps22
  go_wp2_with (first
    | (go_at_call 71; refine HL.out.mono ?_; rintro e w2 ⟨E, g, rfl, h1, h2, h3, h4⟩; have H2 := Lib.hid h2; have H3 := Lib.hid h3; have H4 := Lib.hid h4; have ct : w2.cell? ⟨g, t * 5, none⟩ = some (I (cs E t)) := (h1.cell (i := t * 5) (by omega)).trans (congrArg some (Es_cell E t 0 (by decide))); clear h1 h2 h3 h4)
    | (go_at_call 73; refine (HFN.out _ H4.out).mono ?_; rintro e w3 ⟨rfl, rfl⟩))
  go_ret2
  exact ⟨E, rfl, H2.out, H3.out, H4.out⟩
/-- what binary answers -/
def R_binary (w : World) (n : Nat) (f : Nat → Bool) (e : Ending) (w' : World) : Prop :=
  ∃ E, e = .returned (.tuple #[I (cs E (tn f (2 ^ n))), I 0]) ∧ Inv n (2 ^ 2 ^ n - 1) 1 true Js E ∧ Clo n (2 ^ 2 ^ n - 1) 1 true Js E ∧ Below w.heap.size w w'
set_option maxHeartbeats 2000000 in
theorem binary_ok {w : World} {v : Value} {n : Nat} {f : Nat → Bool} (hn : n ≤ 3) (hb : Bs w v (2 ^ n) f) : Calls Try.prog 29 #[v] w (R_binary w n f) := by
  obtain ⟨a, cap, rfl⟩ := hb.shape
  have h8 : 2 ^ n ≤ 2 ^ 3 := Nat.pow_le_pow_right (by decide) hn
  have HL := Lib.hid (least55_ok (w := w) (a := a) (cap := cap) (len := 2 ^ n) (by omega) hn (inp_pow (by omega)) 1 true (by decide))
  have hlt := tn_lt f (2 ^ n)
  have HBS := Lib.hid hb
  have h256 := (hp3 ⟨n, by omega⟩).2.2
  simp only at h256
  clear hb
  unfold R_binary
  unfold Lr55 at HL
  obtain ⟨L, hL⟩ : ∃ L, L = 2 ^ n := ⟨_, rfl⟩
  rw [← hL] at HL HBS h8 hlt h256 ⊢
  clear hL
  obtain ⟨N, hN⟩ : ∃ N, N = 2 ^ L := ⟨_, rfl⟩
  rw [← hN] at HL hlt h256 ⊢
  clear hN
  have HFN := Lib.hid (fun (w' : World) (h : Below w.heap.size w w') => function_any (HBS.out.keep h) (by omega))
  obtain ⟨t, ht⟩ : ∃ t, t = tn f L := ⟨_, rfl⟩
  rw [← ht] at HFN hlt ⊢
  have ht0 : (0 : Int) ≤ t := by omega
  have ht1 : (t : Int) < N := by omega
  clear ht
  go_enter Try.func29, Try.ntmps29
  go_wp2_with (first
    | (go_at_call 71; refine HL.out.mono ?_; rintro e w2 ⟨E, g, rfl, h1, h2, h3, h4⟩; have H2 := Lib.hid h2; have H3 := Lib.hid h3; have H4 := Lib.hid h4; have ct : w2.cell? ⟨g, t * 5, none⟩ = some (I (cs E t)) := (h1.cell (i := t * 5) (by omega)).trans (congrArg some (Es_cell E t 0 (by decide))); clear h1 h2 h3 h4)
    | (go_at_call 73; refine (HFN.out _ H4.out).mono ?_; rintro e w3 ⟨rfl, rfl⟩))
  go_ret2
  exact ⟨E, rfl, H2.out, H3.out, H4.out⟩
end Go.Proofs.Ytpfbommaddaijaa
namespace Go.Proofs.Ytpfbommaddaijaa
set_option linter.unusedVariables false
set_option linter.unusedSimpArgs false

def Ts : Fin 16 → Nat := fun f => [1, 2, 2, 1, 2, 1, 4, 2, 2, 4, 1, 2, 1, 2, 2, 1].getD f.val 0
def Td : Fin 16 → Nat := fun f => [0, 1, 1, 0, 1, 0, 2, 1, 1, 2, 0, 1, 0, 1, 1, 0].getD f.val 0
def Tx : Fin 16 → Nat := fun f => [1, 2, 2, 1, 2, 1, 2, 2, 2, 2, 1, 2, 1, 2, 2, 1].getD f.val 0
theorem LS2 {l : Nat} (h : LS 2 l) : l = 0 ∨ l = 10 ∨ l = 12 := by
  rcases h with h | ⟨v, h1, h2⟩
  · exact .inl h
  · have : v = 0 ∨ v = 1 := by omega
    rcases this with rfl | rfl
    · exact .inr (.inl (by rw [h2]; decide))
    · exact .inr (.inr (by rw [h2]; decide))
theorem and16 (x y : Fin 16) : x.val &&& y.val < 16 := by revert x y; decide
theorem xor16 (x y : Fin 16) : x.val ^^^ y.val < 16 := by revert x y; decide
/-- a table of lower bounds -/
theorem low {leaf : Int} {xor : Bool} {J : Int → Int → Int} (T : Fin 16 → Nat) (hJ : Join J) (h0 : (T 0 : Int) ≤ leaf ∧ (T 10 : Int) ≤ leaf ∧ (T 12 : Int) ≤ leaf) (hn : ∀ f : Fin 16, T ⟨15 - f.val, by omega⟩ = T f)
    (ha : ∀ x y : Fin 16, (T ⟨x.val &&& y.val, and16 x y⟩ : Int) ≤ J (T x) (T y)) (hx : xor = true → ∀ x y : Fin 16, (T ⟨x.val ^^^ y.val, xor16 x y⟩ : Int) ≤ J (T x) (T y)) :
    ∀ {f : Nat} {c : Int}, Der 2 15 leaf xor J f c → ∃ h : f < 16, (T ⟨f, h⟩ : Int) ≤ c := by
  intro f c hd
  induction hd with
  | leaf hl =>
    rcases LS2 hl with rfl | rfl | rfl
    · exact ⟨by decide, h0.1⟩
    · exact ⟨by decide, h0.2.1⟩
    · exact ⟨by decide, h0.2.2⟩
  | @neg f c hf _ ih =>
    obtain ⟨h1, h2⟩ := ih
    exact ⟨by omega, by rw [hn ⟨f, h1⟩]; exact h2⟩
  | @and x y a b hx hy _ _ i1 i2 =>
    obtain ⟨h1, h2⟩ := i1
    obtain ⟨h3, h4⟩ := i2
    exact ⟨and16 ⟨x, h1⟩ ⟨y, h3⟩, Int.le_trans (ha ⟨x, h1⟩ ⟨y, h3⟩) (hJ.mono _ _ _ _ (by omega) (by omega) h2 h4)⟩
  | @xor x y a b hxo hx' hy _ _ i1 i2 =>
    obtain ⟨h1, h2⟩ := i1
    obtain ⟨h3, h4⟩ := i2
    exact ⟨xor16 ⟨x, h1⟩ ⟨y, h3⟩, Int.le_trans (hx hxo ⟨x, h1⟩ ⟨y, h3⟩) (hJ.mono _ _ _ _ (by omega) (by omega) h2 h4)⟩
theorem ls10 : LS 2 10 := .inr ⟨0, by decide, by decide⟩
theorem ls12 : LS 2 12 := .inr ⟨1, by decide, by decide⟩
theorem par_der {leaf : Int} {xor : Bool} {J : Int → Int → Int} : Der 2 15 leaf xor J 6 (J (J leaf leaf) (J leaf leaf)) := by
  have d10 : Der 2 15 leaf xor J 10 leaf := .leaf ls10
  have d12 : Der 2 15 leaf xor J 12 leaf := .leaf ls12
  have d5 : Der 2 15 leaf xor J (15 - 10) leaf := .neg (by decide) d10
  have d3 : Der 2 15 leaf xor J (15 - 12) leaf := .neg (by decide) d12
  have a1 : Der 2 15 leaf xor J (10 &&& (15 - 12)) (J leaf leaf) := .and (by decide) (by decide) d10 d3
  have a2 : Der 2 15 leaf xor J ((15 - 10) &&& 12) (J leaf leaf) := .and (by decide) (by decide) d5 d12
  have b1 : Der 2 15 leaf xor J (15 - (10 &&& (15 - 12))) (J leaf leaf) := .neg (by decide) a1
  have b2 : Der 2 15 leaf xor J (15 - ((15 - 10) &&& 12)) (J leaf leaf) := .neg (by decide) a2
  have c1 : Der 2 15 leaf xor J ((15 - (10 &&& (15 - 12))) &&& (15 - ((15 - 10) &&& 12))) (J (J leaf leaf) (J leaf leaf)) := .and (by decide) (by decide) b1 b2
  exact .neg (f := ((15 - (10 &&& (15 - 12))) &&& (15 - ((15 - 10) &&& 12)))) (by decide) c1
theorem par_xor {leaf : Int} {J : Int → Int → Int} : Der 2 15 leaf true J 6 (J leaf leaf) :=
  .xor (x := 10) (y := 12) rfl (by decide) (by decide) (.leaf ls10) (.leaf ls12)
theorem par_at {leaf : Int} {xor : Bool} {J : Int → Int → Int} (T : Fin 16 → Nat) (hJ : Join J) {E : Nat → Ent} (hi : Inv 2 15 leaf xor J E) (hc : Clo 2 15 leaf xor J E) (hlow : ∀ {f : Nat} {c : Int}, Der 2 15 leaf xor J f c → ∃ h : f < 16, (T ⟨f, h⟩ : Int) ≤ c) {c : Int} (hd : Der 2 15 leaf xor J 6 c) (hcB : c < BIG) (hT : (T 6 : Int) = c) : cs E 6 = c := by
  have h1 := (hc.least hi hJ ⟨4, by decide⟩ (fun l hl => by rcases LS2 hl with h | h | h <;> omega) hd).2 hcB
  obtain ⟨_, h2⟩ := hlow (hi.hd 6 (by decide) (by omega))
  have h3 : (T ⟨6, by decide⟩ : Int) = c := hT
  omega
theorem par_size {E : Nat → Ent} (hi : Inv 2 15 1 false Js E) (hc : Clo 2 15 1 false Js E) : cs E 6 = 4 :=
  par_at Ts join_sum hi hc (low Ts join_sum (by decide) (by decide) (by decide) (fun h => by cases h)) (par_der (leaf := 1) (J := Js)) (by decide) (by decide)
theorem par_depth {E : Nat → Ent} (hi : Inv 2 15 0 false Jm E) (hc : Clo 2 15 0 false Jm E) : cs E 6 = 2 :=
  par_at Td join_max hi hc (low Td join_max (by decide) (by decide) (by decide) (fun h => by cases h)) (par_der (leaf := 0) (J := Jm)) (by decide) (by decide)
theorem par_bin {E : Nat → Ent} (hi : Inv 2 15 1 true Js E) (hc : Clo 2 15 1 true Js E) : cs E 6 = 2 :=
  par_at Tx join_sum hi hc (low Tx join_sum (by decide) (by decide) (by decide) (fun _ => by decide)) (par_xor (leaf := 1) (J := Js)) (by decide) (by decide)
end Go.Proofs.Ytpfbommaddaijaa
namespace Go.Proofs.Ytpfbommaddaijaa
open Go.RowKit
set_option linter.unusedVariables false
set_option linter.unusedSimpArgs false

/-- a list of numbers in memory -/
structure Is (w : World) (v : Value) (n : Nat) (Z : Nat → Int) : Prop where
  ex : ∃ (a : Option Addr) (cap : Nat), v = .slice a n cap ∧ n ≤ cap ∧ cap ≤ maxLen ∧ (0 < n → ∃ b, a = some b) ∧ ∀ b, a = some b → ∀ i, i < n → w.cell? (b.add i) = some (I (Z i))
theorem Is.shape {w : World} {v : Value} {n : Nat} {Z : Nat → Int} (h : Is w v n Z) : ∃ a c, v = .slice a n c := by
  obtain ⟨a, c, h1, _⟩ := h.ex
  exact ⟨a, c, h1⟩
theorem Is.at' {w : World} {a : Option Addr} {n k c : Nat} {Z : Nat → Int} (h : Is w (.slice a k c) n Z) {i : Nat} (hi : i < n) : ∃ b, a = some b ∧ w.cell? (b.add i) = some (I (Z i)) := by
  obtain ⟨a', c', h1, h2, h3, h4, h5⟩ := h.ex
  cases h1
  obtain ⟨b, rfl⟩ := h4 (by omega)
  exact ⟨b, rfl, h5 b rfl i hi⟩
theorem Is.keep {w w' : World} {v : Value} {n : Nat} {Z : Nat → Int} (h : Is w v n Z) (hb : Below w.heap.size w w') : Is w' v n Z := by
  obtain ⟨a, c, h1, h2, h3, h4, h5⟩ := h.ex
  exact ⟨a, c, h1, h2, h3, h4, fun b hb' i hi => by have := h5 b hb' i hi; exact (hb.cell (World.block_lt_of_cell? _ _ this)).trans this⟩
/-- what is asked of element j -/
def At (len : Nat) (f : Nat → Bool) (Z : Nat → Int) (is : Bool) (j : Nat) : Prop := 0 ≤ Z j ∧ Z j < len ∧ f (Z j).toNat = is ∧ (0 < j → Z (j - 1) < Z j)
def Al (len : Nat) (f : Nat → Bool) (Z : Nat → Int) (is : Bool) (k : Nat) : Prop := 0 < k ∧ ∀ j, j < k → At len f Z is j
set_option maxHeartbeats 4000000 in
set_option maxRecDepth 100000 in
theorem of_any {w : World} {g len k : Nat} {tv lv : Value} {f : Nat → Bool} {Z : Nat → Int} (hc : w.cell? ⟨g, 0, none⟩ = some tv) (ht : Bs w tv len f) (hz : Is w lv k Z) (hl : len < 8192) (hk : k ≤ 2 ^ 50) (is : Bool) {r : Bool} (hr : r = true ↔ Al len f Z is k) :
    Calls Try.prog 88 #[lv, .bool is, .pointer (some ⟨g, 0, none⟩)] w fun e w' => e = .returned (.bool r) ∧ ∃ m, w' = w.drewN m := by
  obtain ⟨ta, tc, rfl⟩ := ht.shape
  obtain ⟨la, lc, rfl⟩ := hz.shape
  have HT := Lib.hid ht
  have HZ := Lib.hid hz
  have HR := Lib.hid hr
  clear ht hz hr
  go_enter Try.func88, Try.ntmps88
  go_wp2
  go_loopw [6, 7, 10] (fun _ _ x wr => ∃ i : Nat, i ≤ k ∧ x = I i ∧ Hid (∀ j, j < i → At len f Z is j) ∧ ∃ m, wr = w.drewN m) (fun _ _ x _ => k - (intOf x).toNat)
  case atStart => exact ⟨0, by omega, rfl, Lib.hid (fun j hj => by omega), 0, rfl⟩
  case round =>
    obtain ⟨i, hi, rfl, HA, m, rfl⟩ := hrel
    by_cases hik : i < k
    · obtain ⟨lb, rfl, cl⟩ := HZ.out.at' hik
      have hi0 : (0 : Int) ≤ i := by omega
      have hi1 : (i : Int) < k := by omega
      obtain ⟨z, hz⟩ : ∃ z, z = Z i := ⟨_, rfl⟩
      have HZI := Lib.hid hz
      rw [← hz] at cl
      clear hz
      by_cases hz0 : z < 0
      · have hd : decide (z < 0) = true := decide_eq_true hz0
        have hres : Hid (r = false) := Lib.hid (eq_false_of_ne_true fun hrt => by have hat := (HR.out.1 hrt).2 i hik; have h1 := hat.1; rw [← HZI.out] at h1; omega)
        clear HA HR
        go_wp2
        go_ret
        exact ⟨rb hres.out.symm, _, by first | rfl | rw [World.drewN_drewN]⟩
      · have hd : decide (z < 0) = false := decide_eq_false hz0
        by_cases hzl : (len : Int) ≤ z
        · have hd2 : decide ((len : Int) ≤ z) = true := decide_eq_true hzl
          have hres : Hid (r = false) := Lib.hid (eq_false_of_ne_true fun hrt => by have hat := (HR.out.1 hrt).2 i hik; have h1 := hat.2.1; rw [← HZI.out] at h1; omega)
          clear HA HR
          go_wp2
          go_ret
          exact ⟨rb hres.out.symm, _, by first | rfl | rw [World.drewN_drewN]⟩
        · have hd2 : decide ((len : Int) ≤ z) = false := decide_eq_false hzl
          obtain ⟨zn, rfl⟩ : ∃ zn : Nat, z = zn := ⟨z.toNat, by omega⟩
          have hzn : zn < len := by omega
          obtain ⟨tb, rfl, ct⟩ := HT.out.at' hzn
          have hzi0 : (0 : Int) ≤ zn := by omega
          have hzi1 : (zn : Int) < len := by omega
          obtain ⟨fz, hfz⟩ : ∃ fz, fz = f zn := ⟨_, rfl⟩
          rw [← hfz] at ct
          have HFZ := Lib.hid hfz
          clear hfz
          by_cases hne : fz = is
          · have hb1 : (fz != is) = false := by rw [hne]; simp
            have HNE := Lib.hid hne
            by_cases hi00 : i = 0
            · subst hi00
              clear hne
              have cl0 : w.cell? lb = some (I (zn : Int)) := by simpa [Addr.add] using cl
              have hnx : Hid (∀ j, j < 0 + 1 → At len f Z is j) := Lib.hid (fun j hj => by
                have e : j = 0 := by omega
                subst e
                exact ⟨by rw [← HZI.out]; omega, by rw [← HZI.out]; omega, by rw [← HZI.out, Int.toNat_natCast, ← HFZ.out]; exact HNE.out, fun h => by omega⟩)
              clear HA HR
              go_wp2
              go_roundw
              case rel => exact ⟨0 + 1, by omega, by go_num, hnx, _, by first | rfl | rw [World.drewN_drewN]⟩
              case measure => simp [intOf]; omega
            · obtain ⟨lb', e1, cp⟩ := HZ.out.at' (i := i - 1) (by omega)
              cases e1
              have hip : (0 : Int) < i := by omega
              have hip1 : (0 : Int) ≤ (i : Int) - 1 := by omega
              have hip2 : (i : Int) - 1 < k := by omega
              have hip3 : ((i : Int) - 1).toNat = i - 1 := by omega
              have hdi : decide ((0 : Int) < (i : Int)) = true := decide_eq_true hip
              obtain ⟨y, hy⟩ : ∃ y, y = Z (i - 1) := ⟨_, rfl⟩
              have HY := Lib.hid hy
              rw [← hy] at cp
              clear hy hne
              by_cases hzy : (zn : Int) ≤ y
              · have hd3 : decide ((zn : Int) ≤ y) = true := decide_eq_true hzy
                have hres : Hid (r = false) := Lib.hid (eq_false_of_ne_true fun hrt => by have hat := (HR.out.1 hrt).2 i hik; have h1 := hat.2.2.2 (by omega); rw [← HZI.out, ← HY.out] at h1; omega)
                clear HA HR
                go_wp2
                go_ret
                exact ⟨rb hres.out.symm, _, by first | rfl | rw [World.drewN_drewN]⟩
              · have hd3 : decide ((zn : Int) ≤ y) = false := decide_eq_false hzy
                have hnx : Hid (∀ j, j < i + 1 → At len f Z is j) := Lib.hid (fun j hj => by
                  by_cases e : j = i
                  · rw [e]; exact ⟨by rw [← HZI.out]; omega, by rw [← HZI.out]; omega, by rw [← HZI.out, Int.toNat_natCast, ← HFZ.out]; exact HNE.out, fun h => by rw [← HZI.out, ← HY.out]; omega⟩
                  · exact HA.out j (by omega))
                clear HA HR
                go_wp2
                go_roundw
                case rel => exact ⟨i + 1, by omega, by go_num, hnx, _, by first | rfl | rw [World.drewN_drewN]⟩
                case measure => simp [intOf]; omega
          · have hres : Hid (r = false) := Lib.hid (eq_false_of_ne_true fun hrt => by have hat := (HR.out.1 hrt).2 i hik; have h1 := hat.2.2.1; rw [← HZI.out, Int.toNat_natCast, ← HFZ.out] at h1; exact hne h1)
            clear HA HR HFZ
            cases is with
            | false =>
              obtain rfl : fz = true := by cases fz <;> simp at hne ⊢
              clear hne
              go_wp2
              go_ret
              exact ⟨rb hres.out.symm, _, by first | rfl | rw [World.drewN_drewN]⟩
            | true =>
              obtain rfl : fz = false := by cases fz <;> simp at hne ⊢
              clear hne
              go_wp2
              go_ret
              exact ⟨rb hres.out.symm, _, by first | rfl | rw [World.drewN_drewN]⟩
    · obtain rfl : i = k := by omega
      have hres : Hid (r = decide (0 < i)) := Lib.hid (by
        rw [Bool.eq_iff_iff, HR.out, decide_eq_true_iff]
        exact ⟨fun h => h.1, fun h => ⟨h, HA.out⟩⟩)
      go_wp2
      go_ret
      exact ⟨rb hres.out.symm, _, by first | rfl | rw [World.drewN_drewN]⟩
end Go.Proofs.Ytpfbommaddaijaa
namespace Go.Proofs.Ytpfbommaddaijaa
open Go.RowKit
set_option linter.unusedVariables false
set_option linter.unusedSimpArgs false

end Go.Proofs.Ytpfbommaddaijaa
namespace Go.Proofs.Ytpfbommaddaijaa
open Go.RowKit
set_option linter.unusedVariables false
set_option linter.unusedSimpArgs false

theorem Try.info4 : (Try.prog.info? 4).map (fun i => (i.zero, i.size, i.bytes)) = some (some (.bool false), 1, 1) := by kernel_rfl
theorem Try.info3 : (Try.prog.info? 3).map (fun i => (i.zero, i.size, i.bytes)) = some (some (.int .i64 0), 1, 8) := by kernel_rfl
theorem own_bs {w : World} {B n : Nat} {v : Value} {f : Nat → Bool} (h : w.ownsRow B 4 1 v n ((List.range n).map fun i => .bool (f i))) : Bs w v n f := by
  rcases h.2 with ⟨h1, h0⟩ | ⟨g, cap, cur, h1, h2, h3, h4, h5, h6, h7⟩
  · exact ⟨none, 0, by rw [h1, h0], by omega, by decide, fun h => by omega, fun b hb => by cases hb⟩
  · refine ⟨some ⟨g, 0, none⟩, cap, h1, h4, h5, fun _ => ⟨_, rfl⟩, fun b hb i hi => ?_⟩
    cases hb
    exact h.cells (g := g) (by rw [h1]; rfl) i _ (by simp [hi])
theorem bools_some {w : World} {b : Addr} {n cap : Nat} {f : Nat → Bool} (h : Bs w (.slice (some b) n cap) n f) (hn : n ≤ 8192) : Calls Try.prog 23 #[.slice (some b) n cap] w fun e w' => ∃ v, e = .returned v ∧ Bs w' v n f ∧ Below w.heap.size w w' := by
  obtain ⟨i0, hi, hz0, hz1, hz2⟩ := info_parts Try.info4
  have hcell : ∀ j u, ((List.range n).map fun i => Value.bool (f i))[j]? = some u → w.cell? (b.add j) = some u := fun j u hj => by
    have hjn : j < n := by have := (List.getElem?_eq_some_iff.1 hj).1; simpa using this
    simp [hjn] at hj
    subst hj
    obtain ⟨b', e, c⟩ := h.at' hjn
    cases e
    exact c
  have HC := Lib.hid (fun j u hj => cell_alloc (hcell j u hj) (.cells #[] 4))
  have hB : Hid (Below w.heap.size w (w.alloc (.cells #[] 4))) := Lib.hid ((Below.refl _ _).alloc (Nat.le_refl _) _)
  have HOW := Lib.hid (World.ownsRow_made (base := w.heap.size) (e := 4) (size := 1) w #[] 0 (Nat.le_refl _) (by decide) rfl)
  clear h hcell
  go_enter Try.func23, Try.ntmps23
  go_wp2_with (at_builtin; refine wpList_append_own _ rfl (.tmp 3) (.tmp 4) 29 rfl w.heap.size 4 i0 _ 1 1 Try.underlying29 hi hz0 hz1 hz2 rfl (by decide) _ 0 [] rfl HOW.out b n cap ((List.range n).map fun i => Value.bool (f i)) rfl (by simp) HC.out (fun u hu => by simp at hu; obtain ⟨i, _, rfl⟩ := hu; rfl) (by unfold maxLen; omega) (by omega) (by simp) ?_; intro v' w' ho hgr _; have HO := Lib.hid ho; have HG := Lib.hid (hB.out.grown hgr (by simp) (fun x hx => by cases hx; exact Nat.le_refl _)); clear ho hgr)
  go_ret
  exact ⟨_, rfl, own_bs (by simpa using HO.out), HG.out⟩
end Go.Proofs.Ytpfbommaddaijaa
namespace Go.Proofs.Ytpfbommaddaijaa
open Go.RowKit
set_option linter.unusedVariables false
set_option linter.unusedSimpArgs false

/-- one bit set -/
def ob (d : Nat) : Bool := decide (0 < d) && ((d &&& (d - 1)) == 0)
def xr (x y : Int) : Nat := x.toNat ^^^ y.toNat
/-- how many of the first j differ from x in one bit -/
def er (Zb : Nat → Int) (x : Int) : Nat → Nat
  | 0 => 0
  | j + 1 => er Zb x j + if ob (xr x (Zb j)) = true then 1 else 0
def es (Za Zb : Nat → Int) (kb : Nat) : Nat → Nat
  | 0 => 0
  | i + 1 => es Za Zb kb i + er Zb (Za i) kb
theorem er_le (Zb : Nat → Int) (x : Int) : ∀ j, er Zb x j ≤ j
  | 0 => Nat.le_refl _
  | j + 1 => by have := er_le Zb x j; simp only [er]; split <;> omega
theorem es_le (Za Zb : Nat → Int) (kb : Nat) : ∀ i, es Za Zb kb i ≤ i * kb
  | 0 => by simp [es]
  | i + 1 => by
    have := es_le Za Zb kb i
    have := er_le Zb (Za i) kb
    have e : (i + 1) * kb = i * kb + kb := Nat.succ_mul ..
    simp only [es]
    omega
theorem xor_i64' (a b : Nat) (ha : a < 4096) (hb : b < 4096) : bits .xor .i64 (a : Int) (b : Int) = ((a ^^^ b : Nat) : Int) := by
  have hx : a ^^^ b < 2 ^ 12 := Nat.xor_lt_two_pow (by omega) (by omega)
  have h1 : (BitVec.ofInt 64 (a : Int)).toNat = a := by
    rw [BitVec.ofInt_natCast, BitVec.toNat_ofNat]; exact Nat.mod_eq_of_lt (by omega)
  have h2 : (BitVec.ofInt 64 (b : Int)).toNat = b := by
    rw [BitVec.ofInt_natCast, BitVec.toNat_ofNat]; exact Nat.mod_eq_of_lt (by omega)
  show IntKind.i64.wrap ((BitVec.ofInt 64 (a : Int) ^^^ BitVec.ofInt 64 (b : Int)).toNat : Int) = _
  rw [BitVec.toNat_xor, h1, h2, IntKind.wrap_i64]
  omega
def In (Z : Nat → Int) (k : Nat) : Prop := ∀ j, j < k → 0 ≤ Z j ∧ Z j < 4096
end Go.Proofs.Ytpfbommaddaijaa

