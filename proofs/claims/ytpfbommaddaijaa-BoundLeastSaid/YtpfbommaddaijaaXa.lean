/- Plain: the reference's Size over the printed functions; The reference's put and code; the entries of the leaves; The reference's Size; Plain: every function of at most three inputs has a formula. -/
import Derived.Test.YtpfbommaddaijaaKb
import Derived.Test.YtpfbommaddaijaaPSizex1
import Derived.Test.YtpfbommaddaijaaN1
namespace Go.Proofs.Ytpfbommaddaijaa
open Go.RowKit Go.Proofs.YtpfbommaddaijaaW.PrintWords Go.Proofs.YtpfbommaddaijaaW.PrintMore PSize
set_option linter.unusedVariables false
set_option linter.unusedSimpArgs false

theorem q64 {a : Int} (h0 : -9223372036854775808 ≤ a) (h : a ≤ 9223372036854775807) : wrap64 a = a := by unfold wrap64; omega
/-- an element -/
def at' (X : List Int) (f : Nat) : Int := X.getD f 0
theorem rd_at (X : List Int) (f : Nat) : rd X (f : Int) = at' X f := by simp [rd, at']
theorem at_set {X : List Int} {f u : Nat} {s : Int} (hf : f < X.length) : at' (X.set f s) u = if u = f then s else at' X u := by
  simp only [at', List.getD_eq_getElem?_getD, List.getElem?_set]
  by_cases e : f = u
  · subst e; simp [hf]
  · rw [if_neg e, if_neg (fun h => e h.symm)]
/-- what put does -/
def putL (M : Nat) (X : List Int) (f : Nat) (s : Int) : List Int := if at' X f = 0 then (X.set f s).set (M - f) s else X
theorem put_some {M f : Nat} {X : List Int} {s : Int} (hl : X.length = M + 1) (hf : f ≤ M) (hM : M ≤ 255) : commodatumref23_put.f X f s = some (putL M X f s) := by
  unfold commodatumref23_put.f putL
  rw [if_pos (by omega), if_pos (by omega), rd_at]
  by_cases h : at' X f = 0
  · have e : wrap64 (wrap64 ((X.length : Int) - 1) - f) = ((M - f : Nat) : Int) := by
      rw [hl, q64 (a := ((M + 1 : Nat) : Int) - 1) (by omega) (by omega), q64 (by omega) (by omega)]; omega
    rw [if_pos h, if_pos h, e, if_pos (by omega), if_pos (by omega)]
    simp
  · rw [if_neg h, if_neg h]
theorem putL_len {M f : Nat} {X : List Int} {s : Int} : (putL M X f s).length = X.length := by unfold putL; split <;> simp
theorem at_put {M f u : Nat} {X : List Int} {s : Int} (hl : X.length = M + 1) (hf : f ≤ M) : at' (putL M X f s) u = if at' X f = 0 then (if u = M - f ∨ u = f then s else at' X u) else at' X u := by
  unfold putL
  by_cases h : at' X f = 0
  · rw [if_pos h, if_pos h, at_set (by simp; omega), at_set (by omega)]
    by_cases h1 : u = M - f <;> by_cases h2 : u = f <;> simp [h1, h2]
  · rw [if_neg h, if_neg h]
/-- costs -/
theorem der_pos {n M : Nat} {xor : Bool} {f : Nat} {c : Int} (h : Der n M 1 xor Js f c) : 1 ≤ c := by
  induction h with
  | leaf _ => omega
  | neg _ _ ih => exact ih
  | and _ _ _ _ i1 i2 => show 1 ≤ _ + _; omega
  | xor _ _ _ _ _ i1 i2 => show 1 ≤ _ + _; omega
/-- the entries ahead of size s -/
structure Good (n M : Nat) (xor : Bool) (X : List Int) (s : Int) : Prop where
  len : X.length = M + 1
  sound : ∀ f, f ≤ M → at' X f ≠ 0 → at' X f < s ∧ Der n M 1 xor Js f (at' X f)
  full : ∀ f c, Der n M 1 xor Js f c → c < s → at' X f ≠ 0 ∧ at' X f ≤ c
  sym : ∀ f, f ≤ M → at' X (M - f) = at' X f
/-- within a round: the pairs up to (a, b) are done -/
structure Mid (n M : Nat) (xor : Bool) (X0 X : List Int) (s : Int) (a b : Nat) : Prop where
  len : X.length = M + 1
  old : ∀ f, f ≤ M → at' X0 f ≠ 0 → at' X f = at' X0 f
  new : ∀ f, f ≤ M → at' X0 f = 0 → at' X f = 0 ∨ (at' X f = s ∧ Der n M 1 xor Js f s)
  sym : ∀ f, f ≤ M → at' X (M - f) = at' X f
  did : ∀ x y, y ≤ x → x ≤ M → (x < a ∨ (x = a ∧ y < b)) → at' X0 x ≠ 0 → at' X0 y ≠ 0 → at' X0 x + at' X0 y = s → at' X (x &&& y) ≠ 0 ∧ (xor = true → at' X (x ^^^ y) ≠ 0)
section
variable {n M : Nat} {xor : Bool} {X0 X : List Int} {s : Int} {a b : Nat}
theorem Mid.start (h : Good n M xor X s) : Mid n M xor X X s 0 0 := ⟨h.len, fun _ _ _ => rfl, fun _ _ h => .inl h, h.sym, fun x y _ _ h => by omega⟩
theorem Mid.put (h : Mid n M xor X0 X s a b) (hs : s ≠ 0) {f : Nat} (hf : f ≤ M) (hd : Der n M 1 xor Js f s) : Mid n M xor X0 (putL M X f s) s a b ∧ at' (putL M X f s) f ≠ 0 ∧ ∀ u, at' X u ≠ 0 → at' (putL M X f s) u ≠ 0 := by
  have hp : ∀ u, at' (putL M X f s) u = if at' X f = 0 then (if u = M - f ∨ u = f then s else at' X u) else at' X u := fun u => at_put h.len hf
  have hnz : ∀ u, at' X u ≠ 0 → at' (putL M X f s) u ≠ 0 := fun u hu => by
    rw [hp u]
    split
    · split
      · exact hs
      · exact hu
    · exact hu
  refine ⟨⟨by rw [putL_len]; exact h.len, fun u hu h0 => ?_, fun u hu h0 => ?_, fun u hu => ?_, fun x y h1 h2 h3 h4 h5 h6 => ?_⟩, ?_, hnz⟩
  · rw [hp u]
    have ho := h.old u hu h0
    by_cases e : at' X f = 0
    · rw [if_pos e, if_neg]
      · exact ho
      · rintro (rfl | rfl)
        · rw [h.sym f hf] at ho; rw [ho] at e; exact h0 e
        · rw [ho] at e; exact h0 e
    · rw [if_neg e]; exact ho
  · rw [hp u]
    by_cases e : at' X f = 0
    · rw [if_pos e]
      by_cases e2 : u = M - f ∨ u = f
      · rw [if_pos e2]
        rcases e2 with rfl | rfl
        · exact .inr ⟨rfl, .neg hf hd⟩
        · exact .inr ⟨rfl, hd⟩
      · rw [if_neg e2]; exact h.new u hu h0
    · rw [if_neg e]; exact h.new u hu h0
  · rw [hp, hp]
    have hsy := h.sym u hu
    by_cases e : at' X f = 0
    · rw [if_pos e, if_pos e]
      by_cases e2 : u = M - f ∨ u = f
      · rw [if_pos (by omega), if_pos e2]
      · rw [if_neg (by omega), if_neg e2]; exact hsy
    · rw [if_neg e, if_neg e]; exact hsy
  · have := h.did x y h1 h2 h3 h4 h5 h6
    exact ⟨hnz _ this.1, fun hx => hnz _ (this.2 hx)⟩
  · rw [hp f]
    by_cases e : at' X f = 0
    · rw [if_pos e, if_pos (.inr rfl)]; exact hs
    · rw [if_neg e]; exact e
theorem or_neg {k x y : Nat} (hx : x < 2 ^ k) (hy : y < 2 ^ k) : 2 ^ k - 1 - ((2 ^ k - 1 - x) &&& (2 ^ k - 1 - y)) = x ||| y := by
  apply Nat.eq_of_testBit_eq
  intro i
  have e : ∀ z, z < 2 ^ k → 2 ^ k - 1 - z = 2 ^ k - (z + 1) := fun z _ => by omega
  have hxy : (2 ^ k - 1 - x) &&& (2 ^ k - 1 - y) < 2 ^ k := Nat.and_lt_two_pow _ (by have := Nat.two_pow_pos k; omega)
  rw [e _ hxy, Nat.testBit_two_pow_sub_succ hxy, Nat.testBit_and, e x hx, e y hy, Nat.testBit_two_pow_sub_succ hx, Nat.testBit_two_pow_sub_succ hy, Nat.testBit_or]
  by_cases hi : i < k
  · simp [hi]
  · have h1 : x.testBit i = false := Nat.testBit_lt_two_pow (Nat.lt_of_lt_of_le hx (Nat.pow_le_pow_right (by decide) (by omega)))
    have h2 : y.testBit i = false := Nat.testBit_lt_two_pow (Nat.lt_of_lt_of_le hy (Nat.pow_le_pow_right (by decide) (by omega)))
    simp [hi, h1, h2]
theorem Der.or {leaf : Int} {J : Int → Int → Int} {k x y : Nat} {c d : Int} (hM : M + 1 = 2 ^ k) (hx : x ≤ M) (hy : y ≤ M) (h1 : Der n M leaf xor J x c) (h2 : Der n M leaf xor J y d) : Der n M leaf xor J (x ||| y) (J c d) := by
  have e : M = 2 ^ k - 1 := by omega
  have := or_neg (k := k) (x := x) (y := y) (by omega) (by omega)
  rw [← e] at this
  rw [← this]
  exact .neg (Nat.le_trans Nat.and_le_left (by omega)) (.and (by omega) (by omega) (.neg hx h1) (.neg hy h2))
/-- a pair that is passed over -/
theorem Mid.skip (h : Mid n M xor X0 X s a b) (hno : at' X a = 0 ∨ at' X b = 0 ∨ at' X a + at' X b ≠ s) (hb : b ≤ a) : Mid n M xor X0 X s a (b + 1) :=
  ⟨h.len, h.old, h.new, h.sym, fun x y h1 h2 h3 h4 h5 h6 => by
    by_cases e : x = a ∧ y = b
    · obtain ⟨rfl, rfl⟩ := e
      have e4 := h.old x h2 h4
      have e5 := h.old y (by omega) h5
      rw [← e4] at h4 h6
      rw [← e5] at h5 h6
      rcases hno with hno | hno | hno
      · exact absurd hno h4
      · exact absurd hno h5
      · exact absurd h6 hno
    · exact h.did x y h1 h2 (by omega) h4 h5 h6⟩
/-- .. that is taken -/
theorem Mid.take (hg : Good n M xor X0 s) (h : Mid n M xor X0 X s a b) {k : Nat} (hM : M + 1 = 2 ^ k) (hs : 2 ≤ s) (hb : b ≤ a) (ha : a ≤ M) (h1 : at' X a ≠ 0) (h2 : at' X b ≠ 0) (h3 : at' X a + at' X b = s) :
    let Y := putL M (putL M X (a &&& b) s) (a ||| b) s
    Mid n M xor X0 (if xor = true then putL M Y (a ^^^ b) s else Y) s a (b + 1) := by
  have val : ∀ u, u ≤ M → at' X u ≠ 0 → 1 ≤ at' X u ∧ (at' X u < s → Der n M 1 xor Js u (at' X u)) := fun u hu h0 => by
    by_cases e : at' X0 u = 0
    · rcases h.new u hu e with h5 | ⟨h5, h6⟩
      · exact absurd h5 h0
      · rw [h5]; exact ⟨by omega, fun hlt => absurd hlt (by omega)⟩
    · have ho := h.old u hu e
      obtain ⟨h5, h6⟩ := hg.sound u hu e
      rw [ho]
      exact ⟨der_pos h6, fun _ => h6⟩
  obtain ⟨a1, a2⟩ := val a ha h1
  obtain ⟨b1, b2⟩ := val b (by omega) h2
  have da := a2 (by omega)
  have db := b2 (by omega)
  have dand : Der n M 1 xor Js (a &&& b) s := by have := Der.and ha (by omega) da db; rw [← h3]; exact this
  have dor : Der n M 1 xor Js (a ||| b) s := by have := Der.or hM ha (by omega) da db; rw [← h3]; exact this
  have hand : a &&& b ≤ M := Nat.le_trans Nat.and_le_left ha
  have hor : a ||| b ≤ M := by have := Nat.or_lt_two_pow (n := k) (x := a) (y := b) (by omega) (by omega); omega
  have hxo : a ^^^ b ≤ M := by have := Nat.xor_lt_two_pow (n := k) (x := a) (y := b) (by omega) (by omega); omega
  obtain ⟨m1, n1, z1⟩ := h.put (by omega) hand dand
  obtain ⟨m2, n2, z2⟩ := m1.put (by omega) hor dor
  have fin : ∀ Z, Mid n M xor X0 Z s a b → at' Z (a &&& b) ≠ 0 → (xor = true → at' Z (a ^^^ b) ≠ 0) → Mid n M xor X0 Z s a (b + 1) := fun Z hZ q1 q2 =>
    ⟨hZ.len, hZ.old, hZ.new, hZ.sym, fun x y h1 h2 h3 h4 h5 h6 => by
      by_cases e : x = a ∧ y = b
      · obtain ⟨rfl, rfl⟩ := e; exact ⟨q1, q2⟩
      · exact hZ.did x y h1 h2 (by omega) h4 h5 h6⟩
  intro Y
  cases xor with
  | false => exact fin _ m2 (z2 _ n1) (fun h => by cases h)
  | true =>
    have dxo : Der n M 1 true Js (a ^^^ b) s := by have := Der.xor rfl ha (by omega) da db; rw [← h3]; exact this
    obtain ⟨m3, n3, z3⟩ := m2.put (by omega) hxo dxo
    exact fin _ m3 (z3 _ (z2 _ n1)) (fun _ => n3)
theorem Mid.row (h : Mid n M xor X0 X s a (a + 1)) : Mid n M xor X0 X s (a + 1) 0 :=
  ⟨h.len, h.old, h.new, h.sym, fun x y h1 h2 h3 h4 h5 h6 => h.did x y h1 h2 (by omega) h4 h5 h6⟩
theorem Mid.done (hg : Good n M xor X0 s) (h : Mid n M xor X0 X s (M + 1) 0) (hle : ∀ {f : Nat} {c : Int}, Der n M 1 xor Js f c → f ≤ M) (hs : 2 ≤ s) : Good n M xor X (s + 1) := by
  have hnz : ∀ f, f ≤ M → at' X0 f ≠ 0 → at' X f ≠ 0 ∧ at' X f = at' X0 f := fun f hf h0 => by rw [h.old f hf h0]; exact ⟨h0, rfl⟩
  refine ⟨h.len, fun f hf h0 => ?_, fun f c hd hc => ?_, h.sym⟩
  · by_cases e : at' X0 f = 0
    · rcases h.new f hf e with h5 | ⟨h5, h6⟩
      · exact absurd h5 h0
      · rw [h5]; exact ⟨by omega, h6⟩
    · rw [h.old f hf e]
      obtain ⟨h5, h6⟩ := hg.sound f hf e
      exact ⟨by omega, h6⟩
  · have hf := hle hd
    by_cases hcs : c < s
    · obtain ⟨h5, h6⟩ := hg.full f c hd hcs
      obtain ⟨h7, h8⟩ := hnz f hf h5
      exact ⟨h7, by rw [h8]; exact h6⟩
    · have hceq : c = s := by omega
      have main : at' X f ≠ 0 := by
        clear hcs
        induction hd with
        | leaf hl => exact absurd hceq (by omega)
        | @neg f c hf' hd ih => rw [h.sym f hf']; exact ih hc hf' hceq
        | @and x y a b hx hy h1 h2 _ _ =>
          have e : a + b = s := hceq
          have p1 := der_pos h1
          have p2 := der_pos h2
          obtain ⟨n1, l1⟩ := hg.full x a h1 (by omega)
          obtain ⟨n2, l2⟩ := hg.full y b h2 (by omega)
          have d1 := (hg.sound x hx n1).2
          have d2 := (hg.sound y hy n2).2
          by_cases e2 : at' X0 x + at' X0 y = s
          · rcases Nat.le_total y x with hyx | hyx
            · exact (h.did x y hyx hx (by omega) n1 n2 e2).1
            · rw [Nat.and_comm]; exact (h.did y x hyx hy (by omega) n2 n1 (by omega)).1
          · exact (hnz _ hf (hg.full _ _ (.and hx hy d1 d2) (by show at' X0 x + at' X0 y < s; omega)).1).1
        | @xor x y a b hxo hx hy h1 h2 _ _ =>
          have e : a + b = s := hceq
          have p1 := der_pos h1
          have p2 := der_pos h2
          obtain ⟨n1, l1⟩ := hg.full x a h1 (by omega)
          obtain ⟨n2, l2⟩ := hg.full y b h2 (by omega)
          have d1 := (hg.sound x hx n1).2
          have d2 := (hg.sound y hy n2).2
          by_cases e2 : at' X0 x + at' X0 y = s
          · rcases Nat.le_total y x with hyx | hyx
            · exact (h.did x y hyx hx (by omega) n1 n2 e2).2 hxo
            · rw [Nat.xor_comm]; exact (h.did y x hyx hy (by omega) n2 n1 (by omega)).2 hxo
          · exact (hnz _ hf (hg.full _ _ (.xor hxo hx hy d1 d2) (by show at' X0 x + at' X0 y < s; omega)).1).1
      refine ⟨main, ?_⟩
      by_cases e : at' X0 f = 0
      · rcases h.new f hf e with h5 | ⟨h5, h6⟩
        · exact absurd h5 main
        · rw [h5]; omega
      · rw [h.old f hf e]
        have := (hg.sound f hf e).1
        omega
end
end Go.Proofs.Ytpfbommaddaijaa
namespace Go.Proofs.Ytpfbommaddaijaa
open Go.RowKit Go.Proofs.YtpfbommaddaijaaW.PrintWords Go.Proofs.YtpfbommaddaijaaW.PrintMore PSize
set_option linter.unusedVariables false
set_option linter.unusedSimpArgs false

theorem Bs.C {w : World} {a : Option Addr} {n c : Nat} {f : Nat → Bool} (h : Bs w (.slice a n c) n f) : Kd.C Kd.bool w a ((List.range n).map f).length ((List.range n).map f) := by
  obtain ⟨a', c', h1, h2, h3, h4, h5⟩ := h.ex
  cases h1
  have hm : maxLen ≤ 9223372036854775807 := by decide
  refine ⟨rfl, by simp; omega, fun hn => ?_⟩
  simp only [List.length_map, List.length_range] at hn
  obtain ⟨b, rfl⟩ := h4 hn
  refine ⟨b, rfl, fun j p hj => ⟨[.bool p], rfl, rfl, fun i u hu => ?_⟩⟩
  obtain rfl : i = 0 := by have := (List.getElem?_eq_some_iff.1 hu).1; simpa using this
  have hjn : j < n := by have := (List.getElem?_eq_some_iff.1 hj).1; simpa using this
  simp [hjn] at hj
  simp at hu
  subst hu
  subst hj
  have hsz : Kd.bool.sz = 1 := rfl
  rw [hsz, Nat.mul_one, Nat.add_zero]
  exact h5 b rfl j hjn
theorem shl_one {x : Nat} (hx : x ≤ 8) : shl .i64 1 (x : Int) = ((2 ^ x : Nat) : Int) := by
  have : ∀ c : Fin 9, shl .i64 1 ((c.val : Nat) : Int) = ((2 ^ c.val : Nat) : Int) := by decide +kernel
  exact this ⟨x, by omega⟩
theorem tn_add (f : Nat → Bool) (i : Nat) : tn f (i + 1) = tn f i + if f i = true then 2 ^ i else 0 := by
  rw [tn]
  cases h : f i
  · simp
  · have := Nat.two_pow_add_eq_or_of_lt (tn_lt f i) 1
    rw [Nat.or_comm]
    simp at this ⊢
    omega
theorem code_runs (f : Nat → Bool) (L : Nat) (hL : L ≤ 8) : ∀ d i, i + d = L → commodatumref23_code.l0 (d + 1) ((List.range L).map f) (tn f i : Int) i = some (tn f L : Int)
  | 0, i, hi => by
    rw [commodatumref23_code.l0, if_neg (by simp; omega)]
    rw [show i = L by omega]
  | d + 1, i, hi => by
    have hlt := tn_lt f (i + 1)
    have hp : 2 ^ (i + 1) ≤ 2 ^ 8 := Nat.pow_le_pow_right (by decide) (by omega)
    have e : rdOf false ((List.range L).map f) (i : Int) = f i := by simp [rdOf, show i < L by omega]
    rw [commodatumref23_code.l0, if_pos (by simp; omega), if_pos (by omega), e]
    have ih := code_runs f L hL d (i + 1) (by omega)
    have ha := tn_add f i
    by_cases h : f i = true
    · rw [if_pos h] at ha ⊢
      rw [shl_one (by omega), q64 (by omega) (by omega), q64 (by omega) (by omega)]
      rw [ha] at ih
      exact_mod_cast ih
    · rw [if_neg h] at ha ⊢
      rw [q64 (by omega) (by omega)]
      rw [ha, Nat.add_zero] at ih
      exact_mod_cast ih
theorem code_any {w : World} {v : Value} {L : Nat} {f : Nat → Bool} (h : Bs w v L f) (hL : L ≤ 8) : Calls Try.prog 75 #[v] w fun e w' => e = .returned (I (tn f L)) ∧ ∃ m, w' = w.drewN m := by
  obtain ⟨a, c, rfl⟩ := h.shape
  obtain ⟨a', c', h1, h2, _⟩ := h.ex
  cases h1
  have hc := commodatumref23_code.calls (L + 1) a c ((List.range L).map f) (tn f L) w h.C (by simpa using h2) (by
    have := code_runs f L hL L 0 (by omega)
    exact this)
  have hl : ((List.range L).map f).length = L := by simp
  rw [hl] at hc
  refine hc.mono ?_
  rintro e w' ⟨rfl, ⟨m, rfl⟩⟩
  exact ⟨rfl, m, rfl⟩
/-- the entries lie in block g -/
def Lr (w : World) (g N : Nat) (X : List Int) : Prop := w.rowIs g 3 N (fun u => I (at' X u))
set_option maxHeartbeats 4000000 in
theorem put_any {w : World} {g M f : Nat} {X : List Int} {s : Int} (h : Lr w g (M + 1) X) (hl : X.length = M + 1) (hf : f ≤ M) (hM : M ≤ 255) :
    Calls Try.prog 76 #[.slice (some ⟨g, 0, none⟩) (M + 1) (M + 1), I f, I s] w fun e w' => e = .returned (.tuple #[]) ∧ Lr w' g (M + 1) (putL M X f s) ∧ w.grownBy w' (some g) := by
  have H := Lib.hid h
  have c1 := h.cell (i := f) (by omega)
  have q1 := h.frozen f
  have q2 := h.frozen (M - f)
  have hf0 : (0 : Int) ≤ f := by omega
  have hf1 : (f : Int) ≤ M := by omega
  obtain ⟨d, hd⟩ : ∃ d, d = M - f := ⟨_, rfl⟩
  have c2 := h.cell (i := d) (by omega)
  rw [← hd] at q2
  have hdm : (M : Int) - f = d := by omega
  have HD := Lib.hid hd
  have hP : Hid (at' X f = 0 → ∀ W : World, Lr W g (M + 1) X → Lr ((W.setCell ⟨g, f, none⟩ (I s)).setCell ⟨g, d, none⟩ (I s)) g (M + 1) (putL M X f s)) := Lib.hid (fun h0 W hW => by
    refine ((hW.set f (I s)).set d (I s)).congr fun u hu => ?_
    rw [at_put hl hf, if_pos h0, ← hd]
    by_cases e1 : u = d
    · rw [if_pos e1, if_pos (.inl e1)]
    · rw [if_neg e1]
      by_cases e2 : u = f
      · rw [if_pos e2, if_pos (.inr e2)]
      · rw [if_neg e2, if_neg (by rintro (h | h); exact e1 h; exact e2 h)])
  have hQ : Hid (at' X f ≠ 0 → putL M X f s = X) := Lib.hid (fun h0 => by unfold putL; rw [if_neg h0])
  clear h hd
  obtain ⟨z, hz⟩ : ∃ z, z = at' X f := ⟨_, rfl⟩
  rw [← hz] at c1 hP hQ
  clear hz
  by_cases h0 : z = 0
  · subst h0
    have hP' : Hid (∀ W : World, Lr W g (M + 1) X → Lr ((W.setCell ⟨g, f, none⟩ (I s)).setCell ⟨g, d, none⟩ (I s)) g (M + 1) (putL M X f s)) := Lib.hid (hP.out rfl)
    clear hP hQ
    go_enter Try.func76, Try.ntmps76
    have h3 := H.out.set f (I s)
    have c3 := h3.cell (i := d) (by have := HD.out; omega)
    have q3 := h3.frozen d
    obtain ⟨z3, hz3⟩ : ∃ z3, z3 = (if d = f then I s else I (at' X d)) := ⟨_, rfl⟩
    rw [← hz3] at c3
    clear hz3 h3
    go_wp2
    first | go_end0 | ((try simp only [Exit.inBlock, Exit.then]); refine bodyPost_ret (results_none rfl _ _ _) rfl ?_)
    exact ⟨rfl, hP'.out _ H.out, grown_set (grown_set (World.grownBy.refl _ _) (.inl rfl) _ _) (.inl rfl) _ _⟩
  · have ht : (z == 0) = false := by simpa using h0
    have hQ' : Hid (putL M X f s = X) := Lib.hid (hQ.out h0)
    clear h0 hP hQ
    go_enter Try.func76, Try.ntmps76
    go_wp2
    first | go_end0 | ((try simp only [Exit.inBlock, Exit.then]); refine bodyPost_ret (results_none rfl _ _ _) rfl ?_)
    exact ⟨rfl, by rw [hQ'.out]; exact H.out, World.grownBy.refl _ _⟩
end Go.Proofs.Ytpfbommaddaijaa
namespace Go.Proofs.Ytpfbommaddaijaa
open Go.RowKit Go.Proofs.YtpfbommaddaijaaW.PrintWords
set_option linter.unusedVariables false
set_option linter.unusedSimpArgs false

def set2 (M : Nat) (X : List Int) (l : Nat) : List Int := (X.set l 1).set (M - l) 1
def ini (M L : Nat) : Nat → List Int
  | 0 => List.replicate (M + 1) 0
  | v + 1 => set2 M (ini M L v) (lf v L)
theorem set2_len {M l : Nat} {X : List Int} : (set2 M X l).length = X.length := by simp [set2]
theorem at_set2 {M l u : Nat} {X : List Int} (hl : X.length = M + 1) (h : l ≤ M) : at' (set2 M X l) u = if u = M - l ∨ u = l then 1 else at' X u := by
  rw [set2, at_set (by simp; omega), at_set (by omega)]
  by_cases h1 : u = M - l <;> by_cases h2 : u = l <;> simp [h1, h2]
theorem ini_len (M L : Nat) : ∀ v, (ini M L v).length = M + 1
  | 0 => by simp [ini]
  | v + 1 => by rw [ini, set2_len, ini_len M L v]
theorem ini_at {M L : Nat} (u : Nat) : ∀ v, (∀ t, t < v → lf t L ≤ M) → (at' (ini M L v) u = 0 ∨ at' (ini M L v) u = 1) ∧ (at' (ini M L v) u ≠ 0 ↔ ∃ t, t < v ∧ (u = lf t L ∨ u = M - lf t L))
  | 0, _ => by
    have : at' (ini M L 0) u = 0 := by simp only [at', ini, List.getD_eq_getElem?_getD, List.getElem?_replicate]; split <;> rfl
    rw [this]
    exact ⟨.inl rfl, ⟨fun h => absurd rfl h, fun ⟨t, ht, _⟩ => by omega⟩⟩
  | v + 1, h => by
    obtain ⟨h1, h2⟩ := ini_at (M := M) (L := L) u v fun t ht => h t (by omega)
    rw [ini, at_set2 (ini_len M L v) (h v (by omega))]
    by_cases e : u = M - lf v L ∨ u = lf v L
    · rw [if_pos e]
      exact ⟨.inr rfl, ⟨fun _ => ⟨v, by omega, e.symm⟩, fun _ => by decide⟩⟩
    · rw [if_neg e]
      refine ⟨h1, h2.trans ⟨fun ⟨t, ht, h3⟩ => ⟨t, by omega, h3⟩, fun ⟨t, ht, h3⟩ => ⟨t, ?_, h3⟩⟩⟩
      by_cases et : t = v
      · subst et; exact absurd h3.symm e
      · omega
/-- the entries of the leaves -/
def st (n M : Nat) : List Int := set2 M (ini M (2 ^ n) n) 0
theorem st_at {n M : Nat} (hM : ∀ l, LS n l → l ≤ M) {u : Nat} (hu : u ≤ M) : (at' (st n M) u = 0 ∨ at' (st n M) u = 1) ∧ (at' (st n M) u ≠ 0 ↔ LS n u ∨ LS n (M - u)) := by
  have hv : ∀ t, t < n → lf t (2 ^ n) ≤ M := fun t ht => hM _ (.inr ⟨t, ht, rfl⟩)
  obtain ⟨h1, h2⟩ := ini_at (M := M) (L := 2 ^ n) u n hv
  rw [st, at_set2 (ini_len M _ n) (by omega)]
  by_cases e : u = M - 0 ∨ u = 0
  · rw [if_pos e]
    refine ⟨.inr rfl, ⟨fun _ => ?_, fun _ => by decide⟩⟩
    rcases e with rfl | rfl
    · exact .inr (.inl (by omega))
    · exact .inl (.inl rfl)
  · rw [if_neg e]
    refine ⟨h1, h2.trans ⟨fun ⟨t, ht, h3⟩ => ?_, fun h3 => ?_⟩⟩
    · have := hv t ht
      rcases h3 with rfl | rfl
      · exact .inl (.inr ⟨t, ht, rfl⟩)
      · exact .inr (.inr ⟨t, ht, Nat.sub_sub_self this⟩)
    · rcases h3 with (rfl | ⟨t, ht, rfl⟩) | (h3 | ⟨t, ht, h4⟩)
      · exact absurd (.inr rfl) e
      · exact ⟨t, ht, .inl rfl⟩
      · exact absurd (.inl (by omega)) e
      · exact ⟨t, ht, .inr (by omega)⟩
theorem leafish {n M : Nat} {xor : Bool} (hM : ∀ l, LS n l → l ≤ M) {f : Nat} {c : Int} (h : Der n M 1 xor Js f c) : c < 2 → f ≤ M ∧ (LS n f ∨ LS n (M - f)) := by
  induction h with
  | leaf hl => exact fun _ => ⟨hM _ hl, .inl hl⟩
  | @neg f c hf _ ih =>
    intro hc
    obtain ⟨_, h2⟩ := ih hc
    refine ⟨by omega, ?_⟩
    rw [show M - (M - f) = f by omega]
    exact h2.symm
  | and _ _ h1 h2 _ _ => intro hc; have := der_pos h1; have := der_pos h2; have : Js _ _ < 2 := hc; simp only [Js] at this; omega
  | xor _ _ _ h1 h2 _ _ => intro hc; have := der_pos h1; have := der_pos h2; have : Js _ _ < 2 := hc; simp only [Js] at this; omega
theorem good_st {n M : Nat} {xor : Bool} (hM : ∀ l, LS n l → l ≤ M) : Good n M xor (st n M) 2 where
  len := by rw [st, set2_len, ini_len]
  sound f hf h := by
    obtain ⟨h1, h2⟩ := st_at hM hf
    have e : at' (st n M) f = 1 := by rcases h1 with h1 | h1; exact absurd h1 h; exact h1
    rw [e]
    refine ⟨by decide, ?_⟩
    rcases h2.1 h with h3 | h3
    · exact .leaf h3
    · have := Der.neg (xor := xor) (leaf := 1) (J := Js) (M := M) (n := n) (f := M - f) (by omega) (.leaf h3)
      rwa [show M - (M - f) = f by omega] at this
  full f c h hc := by
    obtain ⟨h1, h2⟩ := leafish hM h hc
    obtain ⟨h3, h4⟩ := st_at hM h1
    have h5 := h4.2 h2
    have := der_pos h
    exact ⟨h5, by rcases h3 with h3 | h3; exact absurd h3 h5; omega⟩
  sym f hf := by
    obtain ⟨h1, h2⟩ := st_at hM hf
    obtain ⟨h3, h4⟩ := st_at hM (u := M - f) (by omega)
    rw [show M - (M - f) = f by omega] at h4
    by_cases e : LS n f ∨ LS n (M - f)
    · have := h2.2 e
      have := h4.2 e.symm
      rcases h1 with h1 | h1 <;> rcases h3 with h3 | h3 <;> omega
    · have e1 : at' (st n M) f = 0 := Decidable.byContradiction fun h => e (h2.1 h)
      have e2 : at' (st n M) (M - f) = 0 := Decidable.byContradiction fun h => e (h4.1 h).symm
      rw [e1, e2]
theorem Mid.bd {n M : Nat} {xor : Bool} {X0 X : List Int} {s : Int} {a b : Nat} (hg : Good n M xor X0 s) (h : Mid n M xor X0 X s a b) (hs : 2 ≤ s) {u : Nat} (hu : u ≤ M) : 0 ≤ at' X u ∧ at' X u ≤ s := by
  by_cases e : at' X0 u = 0
  · rcases h.new u hu e with h5 | ⟨h5, _⟩ <;> omega
  · rw [h.old u hu e]
    obtain ⟨h5, h6⟩ := hg.sound u hu e
    have := der_pos h6
    omega
theorem xor_k {a b : Nat} (ha : a < 8192) (hb : b < 8192) : bits BinOp.xor .i64 (a : Int) (b : Int) = ((a ^^^ b : Nat) : Int) := by
  have hx : a ^^^ b < 2 ^ 13 := Nat.xor_lt_two_pow (by omega) (by omega)
  have h1 : (BitVec.ofInt 64 (a : Int)).toNat = a := by
    rw [BitVec.ofInt_natCast, BitVec.toNat_ofNat]; exact Nat.mod_eq_of_lt (by omega)
  have h2 : (BitVec.ofInt 64 (b : Int)).toNat = b := by
    rw [BitVec.ofInt_natCast, BitVec.toNat_ofNat]; exact Nat.mod_eq_of_lt (by omega)
  show IntKind.i64.wrap ((BitVec.ofInt 64 (a : Int) ^^^ BitVec.ofInt 64 (b : Int)).toNat : Int) = _
  rw [BitVec.toNat_xor, h1, h2, IntKind.wrap_i64]
  omega
end Go.Proofs.Ytpfbommaddaijaa
namespace Go.Proofs.Ytpfbommaddaijaa
set_option linter.unusedVariables false
set_option linter.unusedSimpArgs false

/-- the functions that the pairs of a level give -/
def lvl (M S : Nat) : List (Nat × Nat) → Nat → Nat
  | [], T => T
  | p :: r, T => lvl M S r (if S.testBit p.1 && S.testBit p.2 && decide (p.1 ≤ M) && decide (p.2 ≤ M) then T ||| 2 ^ (p.1 &&& p.2) ||| 2 ^ (M - (p.1 &&& p.2)) else T)
def lvls (M : Nat) : List (List (Nat × Nat)) → Nat → Nat
  | [], S => S
  | w :: r, S => lvls M r (lvl M S w S)
def lv0 (n M : Nat) : Nat → Nat
  | 0 => 1 ||| 2 ^ M
  | v + 1 => lv0 n M v ||| 2 ^ lf v (2 ^ n) ||| 2 ^ (M - lf v (2 ^ n))
def Wn : Nat → List (List (Nat × Nat))
  | 2 => [[(5, 3), (10, 3), (12, 5), (12, 10)], [(13, 11)]]
  | 3 => [[(51, 15), (85, 15), (85, 51), (170, 15), (170, 51), (204, 15), (204, 85), (204, 170), (240, 51), (240, 85), (240, 170), (240, 204)], [(5, 3), (10, 3), (12, 5), (12, 10), (48, 17), (48, 34), (80, 68), (85, 63), (95, 51), (95, 63), (119, 15), (119, 63), (119, 95), (160, 136), (170, 63), (175, 51), (175, 63), (175, 119), (187, 15), (187, 63), (187, 95), (187, 175), (204, 95), (204, 175), (207, 85), (207, 95), (207, 119), (207, 170), (207, 175), (207, 187), (221, 15), (221, 63), (221, 95), (221, 175), (221, 187), (221, 207), (238, 15), (238, 63), (238, 95), (238, 175), (238, 207), (243, 95), (243, 175), (243, 207), (245, 63), (245, 175), (245, 207)], [(13, 11), (14, 7), (29, 27), (46, 39), (49, 35), (50, 19), (53, 39), (53, 46), (55, 31), (58, 27), (58, 29), (59, 47), (60, 21), (60, 29), (60, 42), (60, 46), (60, 53), (60, 58), (78, 71), (81, 69), (83, 71), (83, 78), (90, 76), (90, 78), (90, 83), (92, 90), (93, 79), (112, 102), (114, 102), (116, 102), (117, 115), (141, 139), (162, 138), (163, 139), (163, 141), (165, 140), (165, 141), (165, 163), (172, 165), (176, 153), (177, 153), (184, 153), (197, 195), (202, 195), (213, 191), (220, 191), (223, 179), (223, 186), (241, 239), (242, 223), (244, 191), (247, 143), (247, 174), (247, 206), (251, 205), (253, 171)], [(30, 23), (45, 43), (77, 75), (101, 99), (108, 106), (123, 111), (125, 111), (125, 123), (215, 190)]]
  | _ => []
theorem all_full : ∀ n : Fin 4, lvls (2 ^ 2 ^ n.val - 1) (Wn n.val) (lv0 n.val (2 ^ 2 ^ n.val - 1) n.val) = 2 ^ 2 ^ 2 ^ n.val - 1 := by decide +kernel
section
variable {n M : Nat} {leaf : Int} {xor : Bool} {J : Int → Int → Int}
theorem lvl_ok (hJ : ∀ a b, 0 ≤ a → 0 ≤ b → 0 ≤ J a b ∧ J a b ≤ a + b + 1) {S : Nat} {B : Int} (hS : ∀ f, S.testBit f = true → f ≤ M → ∃ c, Der n M leaf xor J f c ∧ 0 ≤ c ∧ c ≤ B) :
    ∀ (W : List (Nat × Nat)) (T : Nat), (∀ f, T.testBit f = true → f ≤ M → ∃ c, Der n M leaf xor J f c ∧ 0 ≤ c ∧ c ≤ 2 * B + 1) → ∀ f, (lvl M S W T).testBit f = true → f ≤ M → ∃ c, Der n M leaf xor J f c ∧ 0 ≤ c ∧ c ≤ 2 * B + 1
  | [], T, hT => hT
  | p :: r, T, hT => by
    rw [lvl]
    refine lvl_ok hJ hS r _ fun f hf hM => ?_
    by_cases e : (S.testBit p.1 && S.testBit p.2 && decide (p.1 ≤ M) && decide (p.2 ≤ M)) = true
    · rw [if_pos e] at hf
      simp only [Bool.and_eq_true, decide_eq_true_eq] at e
      obtain ⟨⟨⟨e1, e2⟩, e3⟩, e4⟩ := e
      obtain ⟨a, d1, a0, a1⟩ := hS _ e1 e3
      obtain ⟨b, d2, b0, b1⟩ := hS _ e2 e4
      have hj := hJ a b a0 b0
      have da := Der.and e3 e4 d1 d2
      have hle : p.1 &&& p.2 ≤ M := Nat.le_trans Nat.and_le_left e3
      rw [Nat.testBit_or, Nat.testBit_or, Nat.testBit_two_pow, Nat.testBit_two_pow] at hf
      simp only [Bool.or_eq_true, decide_eq_true_eq] at hf
      rcases hf with (hf | hf) | hf
      · exact hT f hf hM
      · rw [← hf]; exact ⟨_, da, hj.1, by omega⟩
      · rw [← hf]; exact ⟨_, .neg hle da, hj.1, by omega⟩
    · rw [if_neg e] at hf
      exact hT f hf hM
theorem lvls_ok (hJ : ∀ a b, 0 ≤ a → 0 ≤ b → 0 ≤ J a b ∧ J a b ≤ a + b + 1) : ∀ (W : List (List (Nat × Nat))) (S : Nat) (B : Int), 0 ≤ B → (∀ f, S.testBit f = true → f ≤ M → ∃ c, Der n M leaf xor J f c ∧ 0 ≤ c ∧ c ≤ B) →
    ∀ f, (lvls M W S).testBit f = true → f ≤ M → ∃ c, Der n M leaf xor J f c ∧ 0 ≤ c ∧ c ≤ (B + 1) * 2 ^ W.length - 1
  | [], S, B, _, hS => fun f hf hM => by obtain ⟨c, h1, h2, h3⟩ := hS f hf hM; exact ⟨c, h1, h2, by simp; omega⟩
  | w :: r, S, B, hB, hS => fun f hf hM => by
    rw [lvls] at hf
    obtain ⟨c, h1, h2, h3⟩ := lvls_ok hJ r _ (2 * B + 1) (by omega) (lvl_ok hJ hS w S fun f hf hM => by obtain ⟨c, h1, h2, h3⟩ := hS f hf hM; exact ⟨c, h1, h2, by omega⟩) f hf hM
    refine ⟨c, h1, h2, ?_⟩
    have e : (2 * B + 1 + 1) * 2 ^ r.length = (B + 1) * 2 ^ (w :: r).length := by
      rw [List.length_cons, Int.pow_succ]
      have : 2 * B + 1 + 1 = (B + 1) * 2 := by omega
      rw [this, Int.mul_assoc, Int.mul_comm 2]
    rw [e] at h3
    exact h3
theorem lv0_ok (hM : ∀ l, LS n l → l ≤ M) (h0 : 0 ≤ leaf) : ∀ v, v ≤ n → ∀ f, (lv0 n M v).testBit f = true → f ≤ M → ∃ c, Der n M leaf xor J f c ∧ 0 ≤ c ∧ c ≤ leaf
  | 0, _, f, hf, hfM => by
    rw [lv0, Nat.testBit_or, Nat.testBit_two_pow, show (1 : Nat) = 2 ^ 0 from rfl, Nat.testBit_two_pow] at hf
    simp only [Bool.or_eq_true, decide_eq_true_eq] at hf
    rcases hf with hf | hf
    · rw [← hf]; exact ⟨leaf, .leaf (.inl rfl), h0, by omega⟩
    · rw [← hf]; exact ⟨leaf, .neg (f := 0) (by omega) (.leaf (.inl rfl)), h0, by omega⟩
  | v + 1, hv, f, hf, hfM => by
    rw [lv0, Nat.testBit_or, Nat.testBit_or, Nat.testBit_two_pow, Nat.testBit_two_pow] at hf
    simp only [Bool.or_eq_true, decide_eq_true_eq] at hf
    have hl : LS n (lf v (2 ^ n)) := .inr ⟨v, by omega, rfl⟩
    rcases hf with (hf | hf) | hf
    · exact lv0_ok hM h0 v (by omega) f hf hfM
    · rw [← hf]; exact ⟨leaf, .leaf hl, h0, by omega⟩
    · rw [← hf]; exact ⟨leaf, .neg (hM _ hl) (.leaf hl), h0, by omega⟩
/-- there is a formula -/
theorem der_ex (hn : n ≤ 3) (hM : M + 1 = 2 ^ 2 ^ n) (hJ : ∀ a b, 0 ≤ a → 0 ≤ b → 0 ≤ J a b ∧ J a b ≤ a + b + 1) (h0 : 0 ≤ leaf) (h1 : leaf ≤ 1) {f : Nat} (hf : f ≤ M) : ∃ c, Der n M leaf xor J f c ∧ c < BIG := by
  have hLS : ∀ l, LS n l → l ≤ M := fun l h => by have := LS_lt hn h; omega
  have e : M = 2 ^ 2 ^ n - 1 := by omega
  have hfull := all_full ⟨n, by omega⟩
  simp only at hfull
  rw [← e] at hfull
  have hb : (lvls M (Wn n) (lv0 n M n)).testBit f = true := by
    rw [hfull, ← hM, Nat.testBit_two_pow_sub_one]
    simp
    omega
  obtain ⟨c, d, c0, c1⟩ := lvls_ok (xor := xor) hJ (Wn n) _ leaf h0 (lv0_ok hLS h0 n (Nat.le_refl _)) f hb hf
  have hl : (Wn n).length ≤ 8 := by
    have : ∀ m : Fin 4, (Wn m.val).length ≤ 8 := by decide +kernel
    exact this ⟨n, by omega⟩
  have hp : (2 : Int) ^ (Wn n).length ≤ 256 := by
    have : (2 : Nat) ^ (Wn n).length ≤ 2 ^ 8 := Nat.pow_le_pow_right (by decide) hl
    have h2 : ((2 : Nat) : Int) ^ (Wn n).length = ((2 ^ (Wn n).length : Nat) : Int) := by push_cast; rfl
    have h3 : (2 : Int) = ((2 : Nat) : Int) := rfl
    rw [h3, h2]
    omega
  have hm : (leaf + 1) * 2 ^ (Wn n).length ≤ 2 * 256 := Int.mul_le_mul (by omega) hp (Int.pow_nonneg (by decide)) (by decide)
  exact ⟨c, d, by show c < 1048576; omega⟩
end
/-- the least cost of a function: what the search of the program says -/
theorem least_is {n M : Nat} {leaf : Int} {xor : Bool} {J : Int → Int → Int} {E : Nat → Ent} (hn : n ≤ 3) (hM : M + 1 = 2 ^ 2 ^ n) (hJ : Join J) (hJ2 : ∀ a b, 0 ≤ a → 0 ≤ b → 0 ≤ J a b ∧ J a b ≤ a + b + 1) (h0 : 0 ≤ leaf) (h1 : leaf ≤ 1) (hi : Inv n M leaf xor J E) (hc : Clo n M leaf xor J E) {f : Nat} (hf : f ≤ M) :
    cs E f < BIG ∧ Der n M leaf xor J f (cs E f) ∧ ∀ c, Der n M leaf xor J f c → cs E f ≤ c := by
  have hLS : ∀ l, LS n l → l ≤ M := fun l h => by have := LS_lt hn h; omega
  obtain ⟨c, hd, hcB⟩ := der_ex (xor := xor) hn hM hJ2 h0 h1 hf
  have hle := (hc.least hi hJ ⟨_, hM⟩ hLS hd).2 hcB
  have hlt : cs E f < BIG := by have : BIG = 1048576 := rfl; omega
  refine ⟨hlt, hi.hd f hf hlt, fun c' hd' => ?_⟩
  by_cases h : c' < BIG
  · exact (hc.least hi hJ ⟨_, hM⟩ hLS hd').2 h
  · have : BIG = 1048576 := rfl; omega
theorem js_ok : ∀ a b : Int, 0 ≤ a → 0 ≤ b → 0 ≤ Js a b ∧ Js a b ≤ a + b + 1 := fun a b h1 h2 => by show 0 ≤ a + b ∧ a + b ≤ a + b + 1; omega
theorem jm_ok : ∀ a b : Int, 0 ≤ a → 0 ≤ b → 0 ≤ Jm a b ∧ Jm a b ≤ a + b + 1 := fun a b h1 h2 => by show 0 ≤ 1 + max a b ∧ 1 + max a b ≤ a + b + 1; omega
end Go.Proofs.Ytpfbommaddaijaa
