/- Walks through the functions of the field and of its reference: what each call returns; no memory that was there is changed. -/
import Derived.Test.YtbddhccbmieokaaTd
import Derived.Deep.RegionHeld3
import Derived.Deep.DeepCutAuto
namespace Go.Proofs.Ytbddhccbmieokaa
open Go.RowKit FieldMath
set_option linter.unusedVariables false
set_option linter.unusedSimpArgs false

def irrTo (m a b : Nat) : Prop := ∀ c, c < b → 2 ≤ c → rst a c ≠ 0
theorem half_sz {m b : Nat} (hb : 0 < b) : (2 * ((sz b : Nat) - 1 : Int) ≤ m) ↔ b < 2 ^ (m / 2 + 1) := by
  have h1 := sz_spec hb
  have h2 := sz_pos hb
  constructor
  · intro h
    exact Nat.lt_of_lt_of_le (lt_sz b) (Nat.pow_le_pow_right (by omega) (by omega))
  · intro h
    have := sz_lt h
    omega

set_option maxHeartbeats 4000000 in
theorem rmodulus (m : Nat) (h1 : 2 ≤ m) (h2 : m ≤ 16) : Fs 11 #[I m] (I (modT m)) := by
  intro w
  have Hf := Lib.hid (modT_first h1 h2)
  have hb := modT_bd h1 h2
  have hge := (top_sz (modT_top h1 h2)).1
  have hp0 : (0 : Int) < 2 ^ m := Int.pow_pos (by omega)
  have hp1 : (2 : Int) ^ m ≤ 65536 := by have := pow2_bd h2; have e : (2 : Int) ^ m = ((2 ^ m : Nat) : Int) := by rw [Int.natCast_pow]; rfl
                                         omega
  have He := Lib.hid (show (2 : Int) ^ m = ((2 ^ m : Nat) : Int) by rw [Int.natCast_pow]; rfl)
  have hhalf : 2 ^ (m / 2 + 1) ≤ 2 ^ 9 := Nat.pow_le_pow_right (by omega) (by omega)
  have h9 : (2 : Nat) ^ 9 = 512 := by decide
  obtain ⟨B, HB⟩ : ∃ B, Hid (2 ^ (m / 2 + 1) = B) := ⟨_, Lib.hid rfl⟩
  rw [HB.out] at hhalf
  have Hh := Lib.hid (fun b (hb : 0 < b) => half_sz (m := m) hb)
  rw [h9] at hhalf
  clear h9
  generalize modT m = T at *
  go_enter Try.func11, Try.ntmps11
  go_wp2
  go_loop [3] (fun v => ∃ a : Nat, a ≤ T ∧ Hid (2 ^ m ≤ a) ∧ v = I a) (fun v => T - (intOf v).toNat)
  case atStart => exact ⟨2 ^ m, hge, Lib.hid (Nat.le_refl _), iv (by simp)⟩
  case round =>
    obtain ⟨a, ha1, Ha2, rfl⟩ := hrel
    go_wp2
    go_loop [4, 5] (fun u v => ∃ (e : Bool) (b : Nat), 2 ≤ b ∧ b ≤ B ∧ Hid (e = true ↔ irrTo m a b) ∧ u = .bool e ∧ v = I b) (fun _ v => B + 5 - (intOf v).toNat)
    case atStart => exact ⟨true, 2, by omega, by have h := Nat.pow_le_pow_right (show 0 < 2 by omega) (show 1 ≤ m / 2 + 1 by omega); rw [HB.out] at h; omega, Lib.hid ⟨fun _ c hc h2 => by omega, fun _ => rfl⟩, rfl, rfl⟩
    case round =>
      obtain ⟨e, b, hb1, hb2, Hi, rfl, rfl⟩ := hrel
      have Hdeg := Lib.hid (degree_any b (by omega))
      have hsb := sz_lt (show b < 2 ^ 20 by omega)
      have hsp := sz_pos (show 0 < b by omega)
      by_cases hlt : b < B
      · have hc := (Hh.out b (by omega)).2 (by rw [HB.out]; exact hlt)
        cases e with
        | true =>
          have Hrest := Lib.hid (rest_any a b (by omega) (by omega) (by omega))
          by_cases h0 : rst a b = 0
          · have hz : (((rst a b : Nat) : Int) != 0) = false := by rw [bne_eq_false_iff_eq]; exact_mod_cast h0
            have Hs := Lib.hid (show ¬ irrTo m a (b + 1) from fun h => h b (by omega) hb1 h0)
            clear h0
            go_wp2_with (first
              | (go_at_call 37; refine (Hdeg.out _).mono ?_; rintro e w' ⟨rfl, rfl⟩)
              | (go_at_call 38; refine (Hrest.out _).mono ?_; rintro e w' ⟨rfl, rfl⟩))
            go_round
            case rel => exact ⟨false, b + 1, by omega, by omega, Lib.hid ⟨fun h => by simp at h, fun h => absurd h Hs.out⟩, rfl, by go_num⟩
            case measure => simp [intOf]; omega
          · have hz : (((rst a b : Nat) : Int) != 0) = true := by rw [bne_iff_ne]; exact_mod_cast h0
            have Hs := Lib.hid (show irrTo m a (b + 1) from fun c hc h2 => by
              rcases Nat.lt_or_ge c b with hl | hl
              · exact Hi.out.1 rfl c hl h2
              · obtain rfl : c = b := by omega
                exact h0)
            clear h0
            go_wp2_with (first
              | (go_at_call 37; refine (Hdeg.out _).mono ?_; rintro e w' ⟨rfl, rfl⟩)
              | (go_at_call 38; refine (Hrest.out _).mono ?_; rintro e w' ⟨rfl, rfl⟩))
            go_round
            case rel => exact ⟨true, b + 1, by omega, by omega, Lib.hid ⟨fun _ => Hs.out, fun _ => rfl⟩, rfl, by go_num⟩
            case measure => simp [intOf]; omega
        | false =>
          have Hlt := Lib.hid (show a < T by
            rcases Nat.lt_or_ge a T with hl | hl
            · exact hl
            · exfalso
              obtain rfl : a = T := by omega
              have : irrTo m a b := fun c hc h2 => Hf.out.1 c (by rw [HB.out]; omega) h2
              simpa using Hi.out.2 this)
          go_wp2_with (go_at_call 37; refine (Hdeg.out _).mono ?_; rintro e w' ⟨rfl, rfl⟩)
          go_round
          case rel => exact ⟨a + 1, Hlt.out, Lib.hid (by have := Ha2.out; omega), by go_num⟩
          case measure => have := Hlt.out; simp [intOf]; omega
      · have hc : ¬ (2 * (((sz b : Nat) : Int) - 1) ≤ m) := fun h => by have := (Hh.out b (by omega)).1 h; rw [HB.out] at this; omega
        cases e with
        | true =>
          have Hr := Lib.hid (show a = T by
            rcases Nat.lt_or_ge a T with hl | hl
            · refine absurd ?_ (Hf.out.2 a Ha2.out hl)
              intro c hc h2
              exact Hi.out.1 rfl c (by rw [HB.out] at hc; omega) h2
            · omega)
          go_wp2_with (go_at_call 37; refine (Hdeg.out _).mono ?_; rintro e w' ⟨rfl, rfl⟩)
          go_ret
          exact ⟨ri (by rw [Hr.out]), rfl⟩
        | false =>
          have Hlt := Lib.hid (show a < T by
            rcases Nat.lt_or_ge a T with hl | hl
            · exact hl
            · exfalso
              obtain rfl : a = T := by omega
              have : irrTo m a b := fun c hc h2 => Hf.out.1 c (by rw [HB.out]; omega) h2
              simpa using Hi.out.2 this)
          go_wp2_with (go_at_call 37; refine (Hdeg.out _).mono ?_; rintro e w' ⟨rfl, rfl⟩)
          go_round
          case rel => exact ⟨a + 1, Hlt.out, Lib.hid (by have := Ha2.out; omega), by go_num⟩
          case measure => have := Hlt.out; simp [intOf]; omega

section
variable {W x y : World} {g : Nat} {p q : Value}
theorem ks_self (h0 : W.cell? ⟨g, 0, none⟩ = some p) (h1 : W.cell? ⟨g, 1, none⟩ = some q) : W.drew.cell? ⟨g, 0, none⟩ = some p ∧ W.drew.cell? ⟨g, 1, none⟩ = some q ∧ Below W.heap.size W W.drew :=
  ⟨h0, h1, (Below.refl _ _).drew⟩
theorem ks_drew (h : x.cell? ⟨g, 0, none⟩ = some p ∧ x.cell? ⟨g, 1, none⟩ = some q ∧ Below W.heap.size W x) : x.drew.cell? ⟨g, 0, none⟩ = some p ∧ x.drew.cell? ⟨g, 1, none⟩ = some q ∧ Below W.heap.size W x.drew :=
  ⟨h.1, h.2.1, h.2.2.drew⟩
theorem ks_alloc (o : Obj) (hs : g < W.heap.size) (h : x.cell? ⟨g, 0, none⟩ = some p ∧ x.cell? ⟨g, 1, none⟩ = some q ∧ Below W.heap.size W x) :
    (x.alloc o).cell? ⟨g, 0, none⟩ = some p ∧ (x.alloc o).cell? ⟨g, 1, none⟩ = some q ∧ Below W.heap.size W (x.alloc o) := by
  have := h.2.2.size
  exact ⟨(World.cell?_alloc_lt x o ⟨g, 0, none⟩ (by simp; omega)).trans h.1, (World.cell?_alloc_lt x o ⟨g, 1, none⟩ (by simp; omega)).trans h.2.1, h.2.2.alloc h.2.2.size _⟩
theorem ks_call (hs : g < W.heap.size) (h : x.cell? ⟨g, 0, none⟩ = some p ∧ x.cell? ⟨g, 1, none⟩ = some q ∧ Below W.heap.size W x) (hb : Below x.heap.size x y) :
    y.cell? ⟨g, 0, none⟩ = some p ∧ y.cell? ⟨g, 1, none⟩ = some q ∧ Below W.heap.size W y := by
  have := h.2.2.size
  exact ⟨(hb.cell (p := ⟨g, 0, none⟩) (by simp; omega)).trans h.1, (hb.cell (p := ⟨g, 1, none⟩) (by simp; omega)).trans h.2.1, h.2.2.trans (hb.mono h.2.2.size)⟩
theorem ks_swap (o o' : Obj) (hs : g < W.heap.size) (hz : W.heap.size ≤ x.heap.size) (h : (x.alloc o).cell? ⟨g, 0, none⟩ = some p ∧ (x.alloc o).cell? ⟨g, 1, none⟩ = some q ∧ Below W.heap.size W (x.alloc o)) :
    (x.alloc o').cell? ⟨g, 0, none⟩ = some p ∧ (x.alloc o').cell? ⟨g, 1, none⟩ = some q ∧ Below W.heap.size W (x.alloc o') := by
  have e : ∀ i, (x.alloc o').cell? ⟨g, i, none⟩ = (x.alloc o).cell? ⟨g, i, none⟩ := fun i =>
    (World.cell?_alloc_lt x o' ⟨g, i, none⟩ (by simp; omega)).trans (World.cell?_alloc_lt x o ⟨g, i, none⟩ (by simp; omega)).symm
  refine ⟨(e 0).trans h.1, (e 1).trans h.2.1, ⟨h.2.2.os, h.2.2.tape, h.2.2.output, by simp; omega, fun k hk => ?_⟩⟩
  rw [← h.2.2.block k hk, Below.heap_alloc x o' k (by omega), Below.heap_alloc x o k (by omega)]
theorem ks_set {a : Addr} {v : Value} (hs : g < W.heap.size) (ha : W.heap.size ≤ a.block) (h : x.cell? ⟨g, 0, none⟩ = some p ∧ x.cell? ⟨g, 1, none⟩ = some q ∧ Below W.heap.size W x) :
    (x.setCell a v).cell? ⟨g, 0, none⟩ = some p ∧ (x.setCell a v).cell? ⟨g, 1, none⟩ = some q ∧ Below W.heap.size W (x.setCell a v) :=
  ⟨(World.cell?_setCell_other x a ⟨g, 0, none⟩ v (fun e => by subst e; simp at ha; omega)).trans h.1, (World.cell?_setCell_other x a ⟨g, 1, none⟩ v (fun e => by subst e; simp at ha; omega)).trans h.2.1, h.2.2.setCell ha v⟩
end
theorem zeros_of {W w' : World} (hb : Below (W.alloc (.cells #[I 0, I 0, I 0, I 0] 35)).drew.heap.size ((W.alloc (.cells #[I 0, I 0, I 0, I 0] 35)).drew) w') :
    w'.cell? ⟨W.heap.size, 0, none⟩ = some (I 0) ∧ w'.cell? ⟨W.heap.size, 1, none⟩ = some (I 0) ∧ w'.cell? ⟨W.heap.size, 2, none⟩ = some (I 0) ∧ w'.cell? ⟨W.heap.size, 3, none⟩ = some (I 0) ∧
      (∀ i, w'.frozen? ⟨W.heap.size, i, none⟩ = false) ∧ W.heap.size ≤ w'.heap.size := by
  obtain ⟨hc, hf⟩ := bcell hb
  have hz := hb.size
  refine ⟨?_, ?_, ?_, ?_, fun i => ?_, Nat.le_trans (Nat.le_succ _) (by simpa using hz)⟩
  · rw [hc _ _ (by simp)]; simp [go_sem]
  · rw [hc _ _ (by simp)]; simp [go_sem]
  · rw [hc _ _ (by simp)]; simp [go_sem]
  · rw [hc _ _ (by simp)]; simp [go_sem]
  · rw [hf _ _ (by simp)]; simp [go_sem]
abbrev W2 (w : World) (P M : Int) : World := (w.alloc (Obj.cells #[I P, I M] 23)).alloc (Obj.cells #[I 0, I 0, I 0, I 0] 35)
/-- the world behind the kit's making: block g is the kit -/
structure OFa (w : World) (P M q : Int) (g : Nat) (X : World) : Prop where
  b1 : X.cell? ⟨w.heap.size, 1, none⟩ = some (I M)
  r0 : X.cell? ⟨w.heap.size + 1, 0, none⟩ = some (I 0)
  r1 : X.cell? ⟨w.heap.size + 1, 1, none⟩ = some (I 0)
  r2 : X.cell? ⟨w.heap.size + 1, 2, none⟩ = some (I 0)
  r3 : X.cell? ⟨w.heap.size + 1, 3, none⟩ = some (I 0)
  rf : ∀ i, X.frozen? ⟨w.heap.size + 1, i, none⟩ = false
  c0 : X.cell? ⟨g, 0, none⟩ = some (I P)
  c1 : X.cell? ⟨g, 1, none⟩ = some (I M)
  c2 : X.cell? ⟨g, 2, none⟩ = some (I q)
  c3 : X.cell? ⟨g, 3, none⟩ = some (I 0)
  cf : ∀ i, X.frozen? ⟨g, i, none⟩ = false
  hg : w.heap.size + 1 < g
  hb : Below w.heap.size w X
theorem w2_below (w : World) (P M : Int) : Below w.heap.size w (W2 w P M) := ((Below.refl _ _).alloc (Nat.le_refl _) _).alloc (by simp) _
theorem of_way1 {w w' : World} {P M q : Int} (hb : Below (W2 w P M).drew.heap.size (W2 w P M).drew w') : OFa w P M q w'.heap.size (w'.alloc (Obj.cells #[I P, I M, I q, I 0] 35)) := by
  obtain ⟨hc, hf⟩ := bcell hb
  have hz : w.heap.size + 2 ≤ w'.heap.size := by have := hb.size; simpa using this
  have hn : ∀ i, (w'.alloc (Obj.cells #[I P, I M, I q, I 0] 35)).cell? ⟨w.heap.size + 1, i, none⟩ = (W2 w P M).cell? ⟨w.heap.size + 1, i, none⟩ := fun i =>
    (World.cell?_alloc_lt _ _ ⟨w.heap.size + 1, i, none⟩ (by simp; omega)).trans (hc _ _ (by simp))
  constructor
  · rw [World.cell?_alloc_lt _ _ ⟨w.heap.size, 1, none⟩ (by simp; omega), hc _ _ (by simp; omega)]; simp [go_sem]
  · rw [hn]; simp [go_sem]
  · rw [hn]; simp [go_sem]
  · rw [hn]; simp [go_sem]
  · rw [hn]; simp [go_sem]
  · intro i
    rw [World.frozen?_of_block (w := w') (Below.heap_alloc w' _ _ (show w.heap.size + 1 < w'.heap.size by omega)), hf _ _ (by simp)]; simp [go_sem]
  · simp [go_sem]
  · simp [go_sem]
  · simp [go_sem]
  · simp [go_sem]
  · intro i; simp [go_sem]
  · omega
  · exact ((w2_below w P M).drew.trans (hb.mono (by simp; omega))).alloc (by omega) _
theorem of_way2 {w w' : World} {P M q : Int} (hb : Below ((W2 w P M).alloc (.cells #[I 0, I 0, I 0, I 0] 35)).drew.heap.size ((W2 w P M).alloc (.cells #[I 0, I 0, I 0, I 0] 35)).drew w') :
    OFa w P M q (W2 w P M).heap.size ((((w'.setCell ⟨(W2 w P M).heap.size, 0, none⟩ (I P)).setCell ⟨(W2 w P M).heap.size, 1, none⟩ (I M)).setCell ⟨(W2 w P M).heap.size, 2, none⟩ (I q)).setCell ⟨(W2 w P M).heap.size, 3, none⟩ (I 0)) := by
  obtain ⟨hc, hf⟩ := bcell hb
  have hW : (W2 w P M).heap.size = w.heap.size + 2 := by simp
  have hz : w.heap.size + 3 ≤ w'.heap.size := by have := hb.size; simpa using this
  obtain ⟨z0, z1, z2, z3, zf, _⟩ := zeros_of hb
  rw [hW] at *
  have h2 : ∀ j i, j < w.heap.size + 2 → w'.cell? ⟨j, i, none⟩ = (W2 w P M).cell? ⟨j, i, none⟩ := fun j i hj =>
    (hc _ _ (by simp; omega)).trans (World.cell?_alloc_lt _ _ ⟨j, i, none⟩ (by simp; omega))
  have h3 : ∀ j i, j < w.heap.size + 2 → w'.frozen? ⟨j, i, none⟩ = (W2 w P M).frozen? ⟨j, i, none⟩ := fun j i hj =>
    (hf _ _ (by simp; omega)).trans (World.frozen?_of_block (w := W2 w P M) (Below.heap_alloc (W2 w P M) _ _ (by simp; omega)))
  have b1 := h2 w.heap.size 1 (by omega)
  have r0 := h2 (w.heap.size + 1) 0 (by omega)
  have r1 := h2 (w.heap.size + 1) 1 (by omega)
  have r2 := h2 (w.heap.size + 1) 2 (by omega)
  have r3 := h2 (w.heap.size + 1) 3 (by omega)
  have rf := fun i => h3 (w.heap.size + 1) i (by omega)
  simp [go_sem] at b1 r0 r1 r2 r3
  constructor
  · simp [go_sem, b1]
  · simp [go_sem, r0]
  · simp [go_sem, r1]
  · simp [go_sem, r2]
  · simp [go_sem, r3]
  · intro i; have := rf i; simp [go_sem] at this; simp [go_sem, this]
  · simp [go_sem, z0]
  · simp [go_sem, z1]
  · simp [go_sem, z2]
  · simp [go_sem, z3]
  · intro i; simp [go_sem, zf]
  · omega
  · have h4 : Below w.heap.size w w' := (((w2_below w P M).alloc (by simp; omega) _).drew).trans (hb.mono (by simp; omega))
    exact ((((h4.setCell (by simp) _).setCell (by simp) _).setCell (by simp) _).setCell (by simp) _)
set_option maxHeartbeats 1000000 in
theorem of_kit (P M : Nat) (hv : FV P M) : Fn 20 #[A2 P M] (KV P M) := by
  intro w
  have Ho := Lib.hid (show ∀ w : World, Calls Try.prog 10 #[A2 P M] w fun e w' => e = .returned (I (fq P M)) ∧ Below w.heap.size w w' by rw [← ord_fq hv]; exact rorder_any P M)
  go_enter Try.func20, Try.ntmps20
  go_wp2
  obtain ⟨W, hW⟩ : ∃ W : World, W = (w.alloc (Obj.cells #[I P, I M] 23)).alloc (Obj.cells #[Value.int IntKind.i64 0, Value.int IntKind.i64 0, Value.int IntKind.i64 0, Value.int IntKind.i64 0] 35) := ⟨_, rfl⟩
  have h0 : W.cell? ⟨w.heap.size, 0, none⟩ = some (I P) := by rw [hW]; simp [go_sem]
  have h1 : W.cell? ⟨w.heap.size, 1, none⟩ = some (I M) := by rw [hW]; simp [go_sem]
  have hsz : W.heap.size = w.heap.size + 2 := by rw [hW]; simp
  have hB : Below w.heap.size w W := by rw [hW]; exact ((Below.refl _ _).alloc (Nat.le_refl _) _).alloc (by simp) _
  rw [← hW]
  have HW := Lib.hid hW
  have Hsz := Lib.hid hsz
  have HB := Lib.hid hB
  have hs2 : w.heap.size < W.heap.size := by omega
  clear hW hsz hB
  go_region_held3 (fun w' => w'.cell? ⟨w.heap.size, 0, none⟩ = some (I P) ∧ w'.cell? ⟨w.heap.size, 1, none⟩ = some (I M) ∧ Below W.heap.size W w')
    (first
      | (with_reducible exact ks_self h0 h1)
      | (go_split_ands; (with_reducible refine ks_alloc _ hs2 ⟨?_, ?_, ?_⟩) <;> (with_reducible assumption))
      | ((with_reducible refine ks_alloc _ hs2 ⟨?_, ?_, ?_⟩) <;> (with_reducible assumption))
      | (go_split_ands; (with_reducible refine ks_call hs2 ⟨?_, ?_, ?_⟩ hb) <;> (with_reducible assumption))
      | ((with_reducible refine ks_call hs2 ⟨?_, ?_, ?_⟩ hb) <;> (with_reducible assumption))
      | (go_split_ands; (with_reducible refine ks_swap _ _ hs2 hz2 ⟨?_, ?_, ?_⟩) <;> (with_reducible assumption))
      | ((with_reducible refine ks_swap _ _ hs2 hz2 ⟨?_, ?_, ?_⟩) <;> (with_reducible assumption))
      | (go_split_ands; (repeat (with_reducible refine ks_set hs2 (by simp) ?_)); (with_reducible refine ⟨?_, ?_, ?_⟩) <;> (with_reducible assumption))
      | ((repeat (with_reducible refine ks_set hs2 (by simp) ?_)); (with_reducible refine ⟨?_, ?_, ?_⟩) <;> (with_reducible assumption))
      | (with_reducible exact ks_drew (ks_alloc _ hs2 ⟨h0, h1, Below.refl _ _⟩))
      | (with_reducible exact ks_alloc _ hs2 (ks_call hs2 (ks_self h0 h1) hb))
      | ((repeat (with_reducible refine ks_set hs2 (by simp) ?_)); exact ks_call hs2 (ks_drew (ks_alloc _ hs2 ⟨h0, h1, Below.refl _ _⟩)) hb))
    (first
      | (go_at_call 10; (with_reducible refine (Ho.out W.drew).mono ?_); rintro e w' ⟨rfl, hb⟩; have hz2 : W.heap.size ≤ w'.heap.size := hb.size)
      | (go_at_call 10; (with_reducible refine (Ho.out ((W.alloc (.cells #[I 0, I 0, I 0, I 0] 35)).drew)).mono ?_); rintro e w' ⟨rfl, hb⟩; have hz2 : W.heap.size ≤ w'.heap.size := (zeros_of hb).2.2.2.2.2; have z0 := (zeros_of hb).1; have z1 := (zeros_of hb).2.1; have z2 := (zeros_of hb).2.2.1; have z3 := (zeros_of hb).2.2.2.1; have zf0 := (zeros_of hb).2.2.2.2.1 0; have zf1 := (zeros_of hb).2.2.2.2.1 1; have zf2 := (zeros_of hb).2.2.2.2.1 2; have zf3 := (zeros_of hb).2.2.2.2.1 3))
  · have hWW := HW.out
    have F : OFa w P M (fq P M : Nat) w'.heap.size (w'.alloc (Obj.cells #[Value.int IntKind.i64 P, Value.int IntKind.i64 M, Value.int IntKind.i64 (fq P M : Nat), Value.int IntKind.i64 0] 35)) := of_way1 (by rw [hWW] at hb; exact hb)
    clear hb hz2 hWW HW Hsz HB h0 h1 hs2
    generalize (w'.alloc (Obj.cells #[Value.int IntKind.i64 P, Value.int IntKind.i64 M, Value.int IntKind.i64 (fq P M : Nat), Value.int IntKind.i64 0] 35)) = X at *
    generalize w'.heap.size = g at *
    obtain ⟨b1, r0, r1, r2, r3, rf, c0, c1, c2, c3, cf, hg, hb⟩ := F
    have rf0 := rf 0; have rf1 := rf 1; have rf2 := rf 2; have rf3 := rf 3
    have cf3 := cf 3
    have hne : ¬ g = w.heap.size := by omega
    have hne2 : ¬ w.heap.size = g := by omega
    have hne3 : ¬ g = w.heap.size + 1 := by omega
    have hne4 : ¬ w.heap.size + 1 = g := by omega
    have HB := Lib.hid hb
    clear rf cf hb
    have hs := hv.spec
    have hs4 := hs.2.2.2.1
    by_cases hM : M = 1
    · have H := Lib.hid (show KV P M = K4 P M (fq P M : Nat) 0 by unfold KV mdl; rw [if_pos hM]; rfl)
      have hM1 : ¬ (1 : Int) < M := by omega
      clear hv hs hM
      go_wp2
      refine bodyPost_ret (v := K4 P M (fq P M : Nat) 0) (by simp [results, Try.results20, go_sem, r0, r1, r2, r3, rf0, rf1, rf2, rf3]) rfl ⟨?_, ?_⟩
      · rw [H.out]
      · exact (((HB.out.setCell (by simp) _).setCell (by simp) _).setCell (by simp) _).setCell (by simp) _
    · have H := Lib.hid (show KV P M = K4 P M (fq P M : Nat) (modT M : Nat) by unfold KV mdl; rw [if_neg hM])
      have hM1 : (1 : Int) < M := by omega
      have Hmod := Lib.hid (rmodulus M (by omega) hs4)
      clear hv hs hM
      go_wp2_with (go_at_call 11; refine (Hmod.out _).mono ?_; rintro e w' ⟨rfl, rfl⟩)
      refine bodyPost_ret (v := K4 P M (fq P M : Nat) (modT M : Nat)) (by simp [results, Try.results20, go_sem, r0, r1, r2, r3, rf0, rf1, rf2, rf3, hne, hne2, hne3, hne4]) rfl ⟨?_, ?_⟩
      · rw [H.out]
      · exact ((((HB.out.setCell (p := ⟨g, 3, none⟩) (by simp; omega) _).setCell (by simp) _).setCell (by simp) _).setCell (by simp) _).setCell (by simp) _
  · have hWW := HW.out
    have F : OFa w P M (fq P M : Nat) W.heap.size ((((w'.setCell ⟨W.heap.size, 0, none⟩ (Value.int IntKind.i64 P)).setCell ⟨W.heap.size, 1, none⟩ (Value.int IntKind.i64 M)).setCell ⟨W.heap.size, 2, none⟩ (Value.int IntKind.i64 (fq P M : Nat))).setCell ⟨W.heap.size, 3, none⟩ (Value.int IntKind.i64 0)) := by rw [hWW] at hb ⊢; exact of_way2 hb
    clear hb hz2 hWW HW Hsz HB h0 h1 hs2 z0 z1 z2 z3 zf0 zf1 zf2 zf3
    generalize ((((w'.setCell ⟨W.heap.size, 0, none⟩ (Value.int IntKind.i64 P)).setCell ⟨W.heap.size, 1, none⟩ (Value.int IntKind.i64 M)).setCell ⟨W.heap.size, 2, none⟩ (Value.int IntKind.i64 (fq P M : Nat))).setCell ⟨W.heap.size, 3, none⟩ (Value.int IntKind.i64 0)) = X at *
    generalize W.heap.size = g at *
    obtain ⟨b1, r0, r1, r2, r3, rf, c0, c1, c2, c3, cf, hg, hb⟩ := F
    have rf0 := rf 0; have rf1 := rf 1; have rf2 := rf 2; have rf3 := rf 3
    have cf3 := cf 3
    have hne : ¬ g = w.heap.size := by omega
    have hne2 : ¬ w.heap.size = g := by omega
    have hne3 : ¬ g = w.heap.size + 1 := by omega
    have hne4 : ¬ w.heap.size + 1 = g := by omega
    have HB := Lib.hid hb
    clear rf cf hb
    have hs := hv.spec
    have hs4 := hs.2.2.2.1
    by_cases hM : M = 1
    · have H := Lib.hid (show KV P M = K4 P M (fq P M : Nat) 0 by unfold KV mdl; rw [if_pos hM]; rfl)
      have hM1 : ¬ (1 : Int) < M := by omega
      clear hv hs hM
      go_wp2
      refine bodyPost_ret (v := K4 P M (fq P M : Nat) 0) (by simp [results, Try.results20, go_sem, r0, r1, r2, r3, rf0, rf1, rf2, rf3]) rfl ⟨?_, ?_⟩
      · rw [H.out]
      · exact (((HB.out.setCell (by simp) _).setCell (by simp) _).setCell (by simp) _).setCell (by simp) _
    · have H := Lib.hid (show KV P M = K4 P M (fq P M : Nat) (modT M : Nat) by unfold KV mdl; rw [if_neg hM])
      have hM1 : (1 : Int) < M := by omega
      have Hmod := Lib.hid (rmodulus M (by omega) hs4)
      clear hv hs hM
      go_wp2_with (go_at_call 11; refine (Hmod.out _).mono ?_; rintro e w' ⟨rfl, rfl⟩)
      refine bodyPost_ret (v := K4 P M (fq P M : Nat) (modT M : Nat)) (by simp [results, Try.results20, go_sem, r0, r1, r2, r3, rf0, rf1, rf2, rf3, hne, hne2, hne3, hne4]) rfl ⟨?_, ?_⟩
      · rw [H.out]
      · exact ((((HB.out.setCell (p := ⟨g, 3, none⟩) (by simp; omega) _).setCell (by simp) _).setCell (by simp) _).setCell (by simp) _).setCell (by simp) _

end Go.Proofs.Ytbddhccbmieokaa
