/- The closure of Bennett, and Bennett. -/
import Derived.Test.YtihpdmchppcbfaaUa
import Derived.Test.YtihpdmchppcbfaaUb
import Derived.Deep.RegionHeld3
import Derived.BigQuiet
import Derived.Laws.EntriesVeiled
namespace Go.Proofs.Ytihpdmchppcbfaa
open Go.RowKit
set_option linter.unusedVariables false
set_option linter.unusedSimpArgs false

def Ben (w : World) (l : List (Bool × Int)) (e : Ending) (w' : World) : Prop := ∃ v, e = .returned v ∧ Pl w' v l ∧ Below w.heap.size w w'
def Cl (w : World) (g : Nat) : Prop := w.cell? ⟨g, 0, none⟩ = some (.func (.func 40) #[] #[.pointer (some ⟨g, 0, none⟩)])
theorem Cl.keep {w w' : World} {g : Nat} (h : Cl w g) (hb : Below w.heap.size w w') : Cl w' g := (hb.cell (World.block_lt_of_cell? _ _ h)).trans h
theorem Cl.drew {w : World} {g : Nat} (h : Cl w g) : Cl w.drew g := by
  unfold Cl at *
  exact h
theorem Cl.on {w w1 w' : World} {g : Nat} (h : Cl w g) (e : w1.heap = w.heap) (hb : Below w1.heap.size w1 w') : Cl w' g := by
  have h1 : Cl w1 g := by unfold Cl World.cell? at *; rw [e]; exact h
  exact h1.keep hb
theorem one_mv (w : World) (put : Bool) (a : Nat) : Pl (w.alloc (.cells #[.bool put, I a] 49)) (.slice (some ⟨w.heap.size, 0, none⟩) 1 1) [(put, (a : Int))] := by
  refine own_pl (B := w.heap.size) (n := 1) ⟨rfl, .inr ⟨w.heap.size, 1, _, rfl, Nat.le_refl _, Deep.blk_alloc_new _ _, Nat.le_refl _, by decide, rfl, rfl⟩⟩ rfl
theorem three_cells (w : World) (v0 v1 v2 : Value) : ∀ i, i < 3 → (w.alloc (.cells #[v0, v1, v2] 32)).cell? ((⟨w.heap.size, 0, none⟩ : Addr).add i) = some (if i = 0 then v0 else if i = 1 then v1 else v2) := by
  intro i hi
  have : i = 0 ∨ i = 1 ∨ i = 2 := by omega
  rcases this with rfl | rfl | rfl <;> simp [go_sem, Addr.add]
theorem concat3 {w : World} {v0 v1 v2 : Value} {l0 l1 l2 : List (Bool × Int)} (h0 : Pl w v0 l0) (h1 : Pl w v1 l1) (h2 : Pl w v2 l2) (n0 : 1 ≤ l0.length) (n1 : 1 ≤ l1.length) (n2 : 1 ≤ l2.length) (hl : l0.length + l1.length + l2.length ≤ 2 ^ 40) :
    Calls Try.prog 41 #[.slice (some ⟨w.heap.size, 0, none⟩) 3 3] (w.alloc (.cells #[v0, v1, v2] 32)) (Ben w (l0 ++ (l1 ++ l2))) := by
  have hb : Below w.heap.size w (w.alloc (.cells #[v0, v1, v2] 32)) := (Below.refl _ _).alloc (Nat.le_refl _) _
  have hcat : cat (fun i => if i = 0 then l0 else if i = 1 then l1 else l2) 3 = l0 ++ (l1 ++ l2) := by simp [cat]
  have h := concat_any (w := w.alloc (.cells #[v0, v1, v2] 32)) (b := ⟨w.heap.size, 0, none⟩) (q := 3) (c := 3) (by decide) (fun i => if i = 0 then l0 else if i = 1 then l1 else l2) _ (three_cells w v0 v1 v2) (fun i hi => by
    have : i = 0 ∨ i = 1 ∨ i = 2 := by omega
    rcases this with rfl | rfl | rfl
    · exact h0.keep hb
    · exact h1.keep hb
    · exact h2.keep hb) (fun i hi => by
    have : i = 0 ∨ i = 1 ∨ i = 2 := by omega
    rcases this with rfl | rfl | rfl
    · exact n0
    · exact n1
    · exact n2) (by decide) (by rw [hcat]; simp only [List.length_append]; omega)
  rw [hcat] at h
  refine h.mono ?_
  rintro e w' ⟨v, rfl, hp, hb2⟩
  exact ⟨v, rfl, hp, hb.trans (hb2.mono hb.size)⟩
set_option maxHeartbeats 2000000 in
theorem rec_one {w : World} {g : Nat} (a b : Nat) (put : Bool) (h : b - a = 1) (hb : b ≤ 1000) : Calls Try.prog 40 #[I a, I b, .bool put, .pointer (some ⟨g, 0, none⟩)] w (Ben w [(put, (a : Int))]) := by
  have hP := Lib.hid (one_mv w put a)
  have hB : Hid (Below w.heap.size w (w.alloc (.cells #[.bool put, I a] 49))) := Lib.hid ((Below.refl _ _).alloc (Nat.le_refl _) _)
  have hd : (((b : Int) - a) == 1) = true := by simp; omega
  go_enter Try.func40, Try.ntmps40
  go_wp2
  go_ret
  exact ⟨_, rfl, hP.out, hB.out⟩
set_option maxHeartbeats 8000000 in
set_option maxRecDepth 100000 in
theorem rec_two {w : World} {g k : Nat} (hc : Cl w g) (a b m : Nat) (put : Bool) (hm : m = a + (b - a) / 2) (h : ¬ b - a = 1) (hab : a < b) (hb : b ≤ 1000) (hk : k ≤ 9)
    (IH : ∀ {w : World} (a b : Nat) (put : Bool), Cl w g → a < b → b - a ≤ 2 ^ k → b ≤ 1000 → Calls Try.prog 40 #[I a, I b, .bool put, .pointer (some ⟨g, 0, none⟩)] w (Ben w (ben k a b put))) (h2 : b - a ≤ 2 ^ (k + 1)) :
    Calls Try.prog 40 #[I a, I b, .bool put, .pointer (some ⟨g, 0, none⟩)] w (Ben w (ben k a m true ++ (ben k m b put ++ ben k a m false))) := by
  have hpw : 2 ^ (k + 1) = 2 ^ k * 2 := Nat.pow_succ ..
  have q1 : Hid (∀ {w : World} (put : Bool), Cl w g → Calls Try.prog 40 #[I a, I m, .bool put, .pointer (some ⟨g, 0, none⟩)] w (Ben w (ben k a m put))) := Lib.hid fun put hc => IH a m put hc (by omega) (by omega) (by omega)
  have q2 : Hid (∀ {w : World}, Cl w g → Calls Try.prog 40 #[I m, I b, .bool put, .pointer (some ⟨g, 0, none⟩)] w (Ben w (ben k m b put))) := Lib.hid fun hc => IH m b put hc (by omega) (by omega) (by omega)
  have hd : (((b : Int) - a) == 1) = false := by simp; omega
  have hmi : (a : Int) + ((b : Int) - a) / 2 = (m : Int) := by omega
  have hlen : Hid ((ben k a m true).length + (ben k m b put).length + (ben k a m false).length ≤ 2 ^ 40) := Lib.hid (by
    have r1 := ben_len k a m true
    have r2 := ben_len k m b put
    have r3 := ben_len k a m false
    have r4 : 3 ^ k ≤ 3 ^ 9 := Nat.pow_le_pow_right (by decide) hk
    omega)
  have HC := Lib.hid hc
  clear IH hpw h2 hc
  go_enter Try.func40, Try.ntmps40
  go_upto_region 4 with fail
  have hmi2 : (a : Int) + ((b - a : Nat) : Int) / 2 = (m : Int) := by omega
  rw [hmi2]
  clear hm hd hmi hmi2 h hab
  have hc0 : w.cell? ⟨g, 0, none⟩ = some (.func (.func 40) #[] #[.pointer (some ⟨g, 0, none⟩)]) := HC.out
  go_region_held3 (fun W => W.cell? ⟨g, 0, none⟩ = some (.func (.func 40) #[] #[.pointer (some ⟨g, 0, none⟩)])) (first | exact hc0 | exact hc1 | exact hc2 | exact hc3 | exact hca3 _ | exact hc4 | go_keep)
    (first
      | (go_at_call 40; have _t := HC2; (with_reducible refine (q1.out false ?_).mono ?_); (first | exact HC2.out | exact HC2.out.drew); rintro e w3 ⟨v3, rfl, hp, hb⟩; obtain ⟨a3, c3, rfl⟩ := hp.shape; have P3 := Lib.hid hp; have B3 := Lib.hid hb; have HC3 : Hid (Cl w3 g) := Lib.hid (HC2.out.on (by rfl) hb); have hc3 : w3.cell? ⟨g, 0, none⟩ = some (.func (.func 40) #[] #[.pointer (some ⟨g, 0, none⟩)]) := HC3.out; have hca3 : ∀ o, (w3.alloc o).cell? ⟨g, 0, none⟩ = some (.func (.func 40) #[] #[.pointer (some ⟨g, 0, none⟩)]) := fun o => cell_alloc hc3 o; have R1 := Lib.hid ((P1.out.keep B2.out).keep B3.out); have R2 := Lib.hid (P2.out.keep B3.out); have HCT := Lib.hid (concat3 R1.out R2.out P3.out (ben_pos _ _ _ _) (ben_pos _ _ _ _) (ben_pos _ _ _ _) hlen.out); clear hp hb)
      | (go_at_call 41; refine HCT.out.mono ?_; rintro e w4 ⟨v4, rfl, hp, hb⟩; have P4 := Lib.hid hp; have B4 := Lib.hid hb; have hc4 := (hb.cell (p := ⟨g, 0, none⟩) (World.block_lt_of_cell? _ _ hc3)).trans hc3; clear hp hb)
      | (go_at_call 40; have _t := HC1; (with_reducible refine (q2.out ?_).mono ?_); (first | exact HC1.out | exact HC1.out.drew); rintro e w2 ⟨v2, rfl, hp, hb⟩; obtain ⟨a2, c2, rfl⟩ := hp.shape; have P2 := Lib.hid hp; have B2 := Lib.hid hb; have HC2 : Hid (Cl w2 g) := Lib.hid (HC1.out.on (by rfl) hb); have hc2 : w2.cell? ⟨g, 0, none⟩ = some (.func (.func 40) #[] #[.pointer (some ⟨g, 0, none⟩)]) := HC2.out; clear hp hb)
      | (go_at_call 40; have _t := HC; (with_reducible refine (q1.out true ?_).mono ?_); (first | exact HC.out | exact HC.out.drew); rintro e w1 ⟨v1, rfl, hp, hb⟩; obtain ⟨a1, c1, rfl⟩ := hp.shape; have P1 := Lib.hid hp; have B1 := Lib.hid hb; have HC1 : Hid (Cl w1 g) := Lib.hid (HC.out.on (by rfl) hb); have hc1 : w1.cell? ⟨g, 0, none⟩ = some (.func (.func 40) #[] #[.pointer (some ⟨g, 0, none⟩)]) := HC1.out; clear hp hb))
  go_wp2
  go_ret
  have z1 : w.heap.size ≤ w1.heap.size := B1.out.size
  have z2 := B2.out.size
  have z3 := B3.out.size
  have y1 : Below w.heap.size w w1 := (Below.refl _ _).drew.trans B1.out
  have y2 := y1.trans (B2.out.mono z1)
  have y3 := y2.trans (B3.out.mono (Nat.le_trans z1 z2))
  have y4 := y3.trans (B4.out.mono (Nat.le_trans z1 (Nat.le_trans z2 z3)))
  exact ⟨_, rfl, P4.out, y4⟩
theorem rec_any (g : Nat) : ∀ k, k ≤ 10 → ∀ {w : World} (a b : Nat) (put : Bool), Cl w g → a < b → b - a ≤ 2 ^ k → b ≤ 1000 → Calls Try.prog 40 #[I a, I b, .bool put, .pointer (some ⟨g, 0, none⟩)] w (Ben w (ben k a b put))
  | 0, hk, w, a, b, put, hc, h1, h2, h3 => by
    rw [ben]
    exact rec_one a b put (by simp at h2; omega) h3
  | k + 1, hk, w, a, b, put, hc, h1, h2, h3 => by
    rw [ben]
    by_cases h : b - a = 1
    · rw [if_pos h]
      exact rec_one a b put h h3
    · rw [if_neg h]
      exact rec_two hc a b _ put rfl h h1 h3 (by omega) (fun {w} a b put => rec_any g k (by omega) a b put) h2
def BenE (w : World) (l : List (Bool × Int)) (e : Ending) (w' : World) : Prop := ∃ v, e = .returned (.tuple #[v, I 0]) ∧ Pl w' v l ∧ Below w.heap.size w w'
set_option maxHeartbeats 2000000 in
theorem bennett_any {w : World} (n k : Nat) (h1 : 1 ≤ n) (h2 : n ≤ 1000) (hk : k ≤ 10) (hn : n ≤ 2 ^ k) : Calls Try.prog 29 #[I n] w (BenE w (ben k 0 n true)) := by
  have hd1 : decide ((n : Int) < 1) = false := decide_eq_false (by omega)
  have hd2 : decide ((1000 : Int) < n) = false := decide_eq_false (by omega)
  have hcl : Cl (w.alloc (.cells #[.func (.func 40) #[] #[.pointer (some ⟨w.heap.size, 0, none⟩)]] 65)) w.heap.size := by simp [Cl, go_sem]
  have HC : Hid (Calls Try.prog 40 #[I 0, I n, .bool true, .pointer (some ⟨w.heap.size, 0, none⟩)] (w.alloc (.cells #[.func (.func 40) #[] #[.pointer (some ⟨w.heap.size, 0, none⟩)]] 65)) (Ben (w.alloc (.cells #[.func (.func 40) #[] #[.pointer (some ⟨w.heap.size, 0, none⟩)]] 65)) (ben k 0 n true))) := Lib.hid (rec_any w.heap.size k hk 0 n true hcl (by omega) (by omega) h2)
  have HB : Hid (Below w.heap.size w (w.alloc (.cells #[.func (.func 40) #[] #[.pointer (some ⟨w.heap.size, 0, none⟩)]] 65))) := Lib.hid ((Below.refl _ _).alloc (Nat.le_refl _) _)
  clear hcl hn
  go_enter Try.func29, Try.ntmps29
  go_wp2_with (go_at_call 40; refine HC.out.mono ?_; rintro e w1 ⟨v, rfl, hg, hb⟩; have HG := Lib.hid hg; have HB1 := Lib.hid (HB.out.trans (hb.mono HB.out.size)); clear hg hb)
  go_ret2
  exact ⟨_, rfl, HG.out, HB1.out⟩
theorem bennett_bad {w : World} (x : Int) (h : x < 1 ∨ 1000 < x) : Calls Try.prog 29 #[I x] w (Bad w) := by
  by_cases h1 : x < 1
  · have d1 : decide (x < 1) = true := decide_eq_true h1
    go_enter Try.func29, Try.ntmps29
    go_wp2
    go_ret2
    exact ⟨rfl, rfl⟩
  · have d1 : decide (x < 1) = false := decide_eq_false h1
    have d2 : decide ((1000 : Int) < x) = true := decide_eq_true (by omega)
    go_enter Try.func29, Try.ntmps29
    go_wp2
    go_ret2
    exact ⟨rfl, rfl⟩
end Go.Proofs.Ytihpdmchppcbfaa
