/- The law PebbleReversed in a walk: it returns true. -/
import Derived.Test.YtihpdmchppcbfaaFd
import Derived.Test.YtihpdmchppcbfaaTo
import Derived.Deep.AppendLies
import Derived.Deep.RegionLaw
namespace Go.Proofs.Ytihpdmchppcbfaa
open Go.RowKit
set_option linter.unusedVariables false
set_option linter.unusedSimpArgs false

def neg (m : Bool × Int) : Bool × Int := (!m.1, m.2)
def lst : List (Bool × Int) → Int → Int
  | [], now => now
  | m :: ms, now => lst ms (step1 m now)
def tb : List (Bool × Int) → Int → Int → Int
  | [], _, q => q
  | m :: ms, now, q => max (tb ms (step1 m now) q) now
def tf : List (Bool × Int) → Int → Int → Int
  | [], _, q => q
  | m :: ms, now, q => tf ms (step1 m now) (max q (step1 m now))
theorem tf_max : ∀ ms x a b, tf ms x (max a b) = max a (tf ms x b)
  | [], x, a, b => rfl
  | m :: ms, x, a, b => by
    simp only [tf]
    rw [show max (max a b) (step1 m x) = max a (max b (step1 m x)) by omega]
    exact tf_max ms _ _ _
theorem tb_tf : ∀ ms now, tb ms now (lst ms now) = tf ms now now
  | [], now => rfl
  | m :: ms, now => by
    simp only [tb, lst, tf]
    rw [tb_tf ms, tf_max]
    omega
theorem run_tf {L : Nat → Nat} {Z : Nat → Nat → Int} {rev : Bool} : ∀ ms f now most f' mo, run L Z rev ms f now most = some (f', mo) → mo = tf ms now most
  | [], f, now, most, f', mo, h => by
    simp only [run, Option.some.injEq, Prod.mk.injEq] at h
    exact h.2.symm
  | m :: ms, f, now, most, f', mo, h => by
    rw [run] at h
    split at h
    · exact run_tf ms _ _ _ f' mo h
    · cases h
theorem step_back (m : Bool × Int) (now : Int) : step1 (neg m) (step1 m now) = now := by
  obtain ⟨p, z⟩ := m
  cases p <;> simp [step1, neg] <;> omega
theorem upd_back {f : Nat → Bool} {m : Bool × Int} (h : f m.2.toNat ≠ m.1) : upd (upd f m) (neg m) = f := by
  funext u
  simp only [upd, neg]
  by_cases e : u = m.2.toNat
  · subst e
    simp only [if_true]
    cases hf : f m.2.toNat <;> cases hm : m.1 <;> simp_all
  · simp [e]
theorem al_back {n : Nat} {L : Nat → Nat} {Z : Nat → Nat → Int} (hr : okDag n L Z) {f : Nat → Bool} {m : Bool × Int} (hm : okM n m) (h : AL L Z f m true) : AL L Z (upd f m) (neg m) true := by
  refine ⟨by simp [upd, neg], fun _ i hi => ?_⟩
  have hi' : i < L m.2.toNat := hi
  have hv : m.2.toNat < n := by have := hm.1; have := hm.2; omega
  have hk := hr.2.2 _ hv i hi'
  have h2 := h.2 (.inr rfl) i hi'
  have h3 : upd f m (Z m.2.toNat i).toNat = true := by
    simp only [upd]
    rw [if_neg (by have := hk.1; have := hk.2.1; omega)]
    exact h2
  exact h3
theorem run_back {n : Nat} {L : Nat → Nat} {Z : Nat → Nat → Int} (hr : okDag n L Z) : ∀ ms f now most f' mo, (∀ i, i < ms.length → okM n (ms.getD i dm)) → run L Z true ms f now most = some (f', mo) →
    ∀ rest q, run L Z true ((ms.map neg).reverse ++ rest) f' (lst ms now) q = run L Z true rest f now (tb ms now q)
  | [], f, now, most, f', mo, _, h, rest, q => by
    simp only [run, Option.some.injEq, Prod.mk.injEq] at h
    obtain ⟨rfl, rfl⟩ := h
    rfl
  | m :: ms, f, now, most, f', mo, hok, h, rest, q => by
    rw [run] at h
    split at h
    · rename_i hal
      have hm : okM n m := hok 0 (by simp)
      simp only [List.map_cons, List.reverse_cons, List.append_assoc, List.singleton_append, lst, tb]
      rw [run_back hr ms _ _ _ f' mo (fun i hi => hok (i + 1) (by simpa using hi)) h (neg m :: rest) q]
      rw [run, if_pos (al_back hr hm hal), upd_back hal.1, step_back]
    · cases h
theorem run_out {n : Nat} {L : Nat → Nat} {Z : Nat → Nat → Int} {rev : Bool} : ∀ ms f now most f' mo, (∀ i, i < ms.length → okM n (ms.getD i dm)) → run L Z rev ms f now most = some (f', mo) → ∀ u, n ≤ u → f' u = f u
  | [], f, now, most, f', mo, _, h, u, hu => by
    simp only [run, Option.some.injEq, Prod.mk.injEq] at h
    rw [h.1]
  | m :: ms, f, now, most, f', mo, hok, h, u, hu => by
    rw [run] at h
    split at h
    · have hm : okM n m := hok 0 (by simp)
      rw [run_out ms _ _ _ f' mo (fun i hi => hok (i + 1) (by simpa using hi)) h u hu]
      simp only [upd]
      rw [if_neg (by have := hm.1; have := hm.2; omega)]
    · cases h
theorem run_lst {n : Nat} {L : Nat → Nat} {Z : Nat → Nat → Int} {rev : Bool} : ∀ ms f now most f' mo, (∀ i, i < ms.length → okM n (ms.getD i dm)) → run L Z rev ms f now most = some (f', mo) → now = (cnt f n : Nat) → lst ms now = (cnt f' n : Nat)
  | [], f, now, most, f', mo, _, h, hn => by
    simp only [run, Option.some.injEq, Prod.mk.injEq] at h
    rw [← h.1]; exact hn
  | m :: ms, f, now, most, f', mo, hok, h, hn => by
    rw [run] at h
    split at h
    · rename_i hal
      have hm : okM n m := hok 0 (by simp)
      obtain ⟨p, z⟩ := m
      obtain ⟨x, rfl⟩ : ∃ x : Nat, z = x := ⟨z.toNat, by have := hm.1; simp only at this; omega⟩
      have hx : x < n := by have := hm.2; simp only at this; omega
      have hc := cnt_upd (f := f) (x := x) (p := p) (by have := hal.1; simpa using this) n
      rw [if_pos hx] at hc
      exact run_lst ms _ _ _ f' mo (fun i hi => hok (i + 1) (by simpa using hi)) h (by rw [hc, hn])
    · cases h
/-- the reverse of a complete play, from a single pebble on the target -/
theorem run_rev {n : Nat} {L : Nat → Nat} {Z : Nat → Nat → Int} {ms : List (Bool × Int)} {N : Int} (h : CNT n L Z true ms = (N, 0)) : run L Z true (ms.map neg).reverse (fun u => decide (u = n - 1)) 1 1 = some ((fun _ => false), N) := by
  obtain ⟨hr, hm, f, h1, h2⟩ := CNT_ok h
  have hf : f = fun u => decide (u = n - 1) := by
    funext u
    rcases Nat.lt_or_ge u n with hu | hu
    · exact h2 u hu
    · rw [run_out ms _ _ _ f N hm.2 h1 u hu]
      have := hr.1
      symm
      exact decide_eq_false (by omega)
  have hl := run_lst ms _ _ _ f N hm.2 h1 (by rw [cnt_zero]; rfl)
  have hc : cnt f n = 1 := ((one_iff hr.1).2 h2).1
  rw [hc] at hl
  have hb := run_back hr ms _ _ _ f N hm.2 h1 [] (lst ms 0)
  rw [List.append_nil, tb_tf, ← run_tf _ _ _ _ _ _ h1, hl, hf] at hb
  exact hb
theorem cnt_target {n : Nat} (hn : 1 ≤ n) : cnt (fun u => decide (u = n - 1)) n = 1 := ((one_iff hn).2 (fun u _ => rfl)).1

theorem mv_rev {n : Nat} {ms : List (Bool × Int)} (h : ∀ i, i < ms.length → okM n (ms.getD i dm)) : ∀ i, i < (ms.map neg).reverse.length → okM n ((ms.map neg).reverse.getD i dm) := by
  intro i hi
  have hi' : i < ms.length := by simpa using hi
  have := h (ms.length - 1 - i) (by omega)
  rw [List.getD_eq_getElem?_getD, List.getElem?_reverse (by simpa using hi')]
  simp only [List.length_map, List.getElem?_map]
  rw [List.getD_eq_getElem?_getD] at this
  rw [List.getElem?_eq_getElem (by omega)] at this ⊢
  exact this
def Bk (ms : List (Bool × Int)) (j : Nat) : List (Bool × Int) := ((ms.drop (ms.length - j)).map neg).reverse
theorem Bk_succ {ms : List (Bool × Int)} {i j : Nat} (h : i + j + 1 = ms.length) : Bk ms (j + 1) = Bk ms j ++ [neg (ms.getD i dm)] := by
  unfold Bk
  rw [show ms.length - (j + 1) = i by omega, show ms.length - j = i + 1 by omega, drop_cons dm (by omega)]
  simp
theorem Bk_len {ms : List (Bool × Int)} {j : Nat} (h : j ≤ ms.length) : (Bk ms j).length = j := by
  unfold Bk; simp; omega
theorem Bk_all (ms : List (Bool × Int)) : Bk ms ms.length = (ms.map neg).reverse := by unfold Bk; simp
theorem Bk_zero (ms : List (Bool × Int)) : Bk ms 0 = [] := by unfold Bk; simp

set_option maxHeartbeats 16000000 in
set_option maxRecDepth 100000 in
theorem pebbleReversed_any {w : World} {v : Value} {n : Nat} {A : Nat → Option Addr} {L C : Nat → Nat} {Z : Nat → Nat → Int} (hd : Dg w v n A L C Z) {pa : Option Addr} {k pc : Nat} {ms : List (Bool × Int)} (hp : Pl w (.slice pa k pc) ms) (hnil : pa = none → pc = 0) (hl : ms.length * 16 ≤ 140737488351232) :
    Calls Try.prog 7 #[v, .slice pa k pc] w fun e w' => e = .returned (.bool true) ∧ Below w.heap.size w w' := by
  obtain ⟨a', c', e1, _⟩ := hp.ex
  have hkl : k = ms.length := by cases e1; rfl
  clear e1
  have Hd := Lib.hid hd
  have Hw := Lib.hid (wide_any hd)
  obtain ⟨a, cap, rfl⟩ : ∃ a cap, v = .slice a n cap := by
    obtain ⟨a, cap, h, _⟩ := hd.top
    exact ⟨a, cap, h⟩
  have hsm := hd.small
  have HP := Lib.hid hp
  have HNIL := Lib.hid hnil
  have HKL := Lib.hid hkl
  have hk40 : k ≤ 2 ^ 44 := by omega
  have HL := Lib.hid hl
  clear hd hp hnil hkl hl
  by_cases hw : 20000 < tot n L n
  · have hwd : decide (20000 < tot n L n) = true := decide_eq_true hw
    rw [hwd] at Hw
    clear hwd hw
    go_enter Try.func7, Try.ntmps7
    go_wp2_with (first | (go_at_call 9; refine Hw.out.mono ?_; rintro e w1 ⟨rfl, rfl⟩) | (go_at_call 10; refine (awake_any _).mono ?_; rintro e w2 ⟨rfl, hb⟩))
    go_ret
    exact ⟨rfl, hb⟩
  have hwd : decide (20000 < tot n L n) = false := decide_eq_false hw
  rw [hwd] at Hw
  have hts := Lib.hid (tot_small (show tot n L n ≤ 20000 by omega)).2
  have hn := (tot_small (show tot n L n ≤ 20000 by omega)).1
  clear hwd hw
  by_cases hlen : 20000 < k
  · have h1 : (20000 : Int) < k := by omega
    clear hlen
    go_enter Try.func7, Try.ntmps7
    go_wp2_with (first | (go_at_call 9; refine Hw.out.mono ?_; rintro e w1 ⟨rfl, rfl⟩) | (go_at_call 10; refine (awake_any _).mono ?_; rintro e w2 ⟨rfl, hb⟩))
    go_ret
    exact ⟨rfl, hb⟩
  have h1 : ¬ (20000 : Int) < k := by omega
  have hk2 : k ≤ 20000 := by omega
  clear hlen
  obtain ⟨N1, E1, hres1⟩ : ∃ N E, CNT n L Z true ms = (N, E) := ⟨_, _, rfl⟩
  have HRES1 := Lib.hid hres1
  clear hres1
  go_enter Try.func7, Try.ntmps7
  go_upto_region 4 with (first | (go_at_call 9; refine Hw.out.mono ?_; rintro e w1 ⟨rfl, rfl⟩) | (go_at_call 15; refine (copy_any Hd.out hn hts.out).mono ?_; rintro e w3 ⟨v3, A3, C3, rfl, hd3, hb3⟩; have HD3 := Lib.hid hd3; have HB3 := Lib.hid hb3; clear hd3 hb3) | (at_builtin; refine wpList_copy_mv rfl (.tmp 25) (.tmp 26) rfl rfl rfl (HP.out.keep HB3.out) HNIL.out (by have := HL.out; omega) ?_; intro v4 w4 hp4 hb4; have HP4 := Lib.hid hp4; have HD4 := Lib.hid (HD3.out.keep hb4); have HB4 := Lib.hid (HB3.out.trans (hb4.mono HB3.out.size)); clear hp4 hb4) | (go_at_call 27; refine (count_any HD4.out HP4.out (by have := HL.out; omega) true HRES1.out).mono ?_; rintro e w5 ⟨rfl, hb5⟩; have HB5 := Lib.hid (HB4.out.trans (hb5.mono HB4.out.size)); clear hb5))
  clear HD3 HB3 HP4 HD4 HB4
  by_cases he : E1 = 0
  · subst he
    obtain ⟨hr, hmv, _⟩ := CNT_ok HRES1.out
    have HR := Lib.hid hr
    have HMV := Lib.hid hmv
    have HREV := Lib.hid (run_rev HRES1.out)
    have hn1 := hr.1
    have hn1000 := hr.2.1
    obtain ⟨i0, hi0, hz0, hz1, hz2⟩ := info_parts Try.info49
    have hmk := run_make_row' (P := Try.prog) 50 4 (.bool false) 1 Try.underlying50 Try.info4 rfl .i64 .i64 n (by omega) (by omega)
    clear hr hmv
    go_upto_block 0 with fail
    go_cut [7] from 8 (fun x wr => ∃ l, Hid (l = (ms.map neg).reverse) ∧ Hid (Pl wr x l) ∧ Hid (Below w.heap.size w wr))
    case first =>
      go_wp2
      go_loopw [7, 8] (fun x y wr => ∃ (j : Nat) (z : Int), j ≤ k ∧ z + j + 1 = k ∧ y = I z ∧ Hid (wr.ownsRow w.heap.size 49 2 x (Bk ms j).length (mc (Bk ms j))) ∧ Hid (Below w.heap.size w wr)) (fun _ y _ => (intOf y + 1).toNat)
      case atStart => exact ⟨0, (k : Int) - 1, by omega, by omega, rfl, Lib.hid (by rw [Bk_zero]; exact World.ownsRow_nil _ _ _ _), HB5⟩
      case round =>
        clear HB5
        obtain ⟨j, z, hj, hz, rfl, hown, hB⟩ := hrel
        by_cases hjk : j < k
        · obtain ⟨i, rfl⟩ : ∃ i : Nat, z = i := ⟨z.toNat, by omega⟩
          have hik : i < k := by omega
          have hpl := HP.out.keep hB.out
          obtain ⟨b, rfl, c0, c1⟩ := hpl.at' (i := i) (by rw [← HKL.out]; exact hik)
          have hbk := Bk_succ (ms := ms) (i := i) (j := j) (by rw [← HKL.out]; omega)
          obtain ⟨m, hm⟩ : ∃ m, m = ms.getD i dm := ⟨_, rfl⟩
          rw [← hm] at c0 c1 hbk
          obtain ⟨p, x⟩ := m
          simp only [neg] at c0 c1 hbk
          have HBK := Lib.hid hbk
          have hbl : (Bk ms j).length ≤ 2 ^ 40 := by rw [Bk_len (by rw [← HKL.out]; omega)]; omega
          have HBL := Lib.hid hbl
          have hi1 : (0 : Int) ≤ i := by omega
          have hi2 : (i : Int) < k := by omega
          have HZ := Lib.hid hz
          clear hm hbk hbl hpl hz
          go_upto_region 10 with fail
          go_region_law (refine step_append_lies _ rfl (.tmp 41) (.tmp 54) 32 rfl w.heap.size 49 i0 _ 2 16 Try.underlying32 hi0 hz0 hz1 hz2 rfl (by decide) _ _ (mc (Bk ms j)) rfl (by exact (own_far hown.out (fun k _ => rfl)).alloc _) ⟨wr.heap.size, 0, none⟩ 1 1 [.bool (!p), I x] rfl rfl (by exact cells_two _ _ _ _ rfl) (by intro u hu; simp at hu; rcases hu with rfl | rfl <;> rfl) (by decide) (by have := HBL.out; unfold maxLen; omega) (by have := HBL.out; omega) (by have := hB.out.size; simp; omega) _ rfl ?_; intro g cap w9 hown9 hgr9 hat9 hlt9)
          all_goals
            have hB9 : Below w.heap.size w w9 := by
              refine Below.grown (?_ : Below w.heap.size w _) hgr9 ?_ ?_
              · first | exact (hB.out.alloc hB.out.size _).drew | exact (hB.out.drew).alloc hB.out.size _
              · have := hB.out.size
                simp
                omega
              · intro y hy
                exact (hown.out.lt y hy).1
            have HB9 := Lib.hid hB9
            have HO9 := Lib.hid hown9
            clear hB9 hown9 hgr9 hat9 hlt9
            go_wp2
            go_roundw
            case rel => exact ⟨j + 1, (i : Int) - 1, by omega, by have := HZ.out; omega, rfl, Lib.hid (by
              rw [HBK.out, mc_app]
              simpa [mc] using HO9.out), HB9⟩
            case measure => first | (simp [intOf]; done) | (simp [intOf]; omega)
        · obtain rfl : j = k := by omega
          obtain rfl : z = -1 := by omega
          have hpl := own_pl hown.out rfl
          rw [HKL.out, Bk_all] at hpl
          have HPL := Lib.hid hpl
          clear hpl
          go_wp2
          go_meet
          exact ⟨_, Lib.hid rfl, HPL, hB⟩
    case rest =>
      clear HB5
      obtain ⟨l, hl, hpl, hB⟩ := hcut
      have hrow : Rw (wc.alloc (.cells (madeCells #[.bool false] n) 4)) wc.heap.size 4 n (fun _ => .bool false) := by
        obtain ⟨c, e1, e2, e3⟩ := World.rowIs_made wc (.bool false) n 4
        exact ⟨c, e1, by omega, e3⟩
      have hB1 : Below w.heap.size w (wc.alloc (.cells (madeCells #[.bool false] n) 4)) := hB.out.alloc hB.out.size _
      have cl := hrow.cell (i := n - 1) (by omega)
      have fl := hrow.frozen (n - 1)
      have hz1 : (0 : Int) ≤ (n : Int) - 1 := by omega
      have hz2 : (n : Int) - 1 < n := by omega
      have hz3 : ((n : Int) - 1).toNat = n - 1 := by omega
      have hz4 : 1 ≤ (n : Int) := by omega
      have HROW := Lib.hid hrow
      have HB1 := Lib.hid hB1
      clear hrow hB1
      go_upto_region 13 with fail
      obtain ⟨W, hW⟩ : ∃ W, W = wc.alloc (.cells ((madeCells #[.bool false] n).setIfInBounds (n - 1) (.bool true)) 4) := ⟨_, rfl⟩
      have hrw : Rw W wc.heap.size 4 n (fun u => .bool (decide (u = n - 1))) := by
        rw [hW]
        obtain ⟨c, e1, e2, e3⟩ := World.rowIs_made wc (.bool false) n 4
        rw [Deep.blk_alloc_new] at e1
        simp only [Option.some.injEq, Obj.cells.injEq] at e1
        obtain ⟨rfl, _⟩ := e1
        refine ⟨_, Deep.blk_alloc_new _ _, by simp; omega, fun i hi => ?_⟩
        rw [Array.getElem?_setIfInBounds]
        by_cases e : n - 1 = i
        · subst e
          rw [if_pos rfl, if_pos (by omega)]
          simp
        · rw [if_neg e, e3 i hi]
          simp
          omega
      have hbW : Below wc.heap.size wc W := by
        rw [hW]
        exact (Below.refl _ _).alloc (Nat.le_refl _) _
      rw [← hW]
      have HBW := Lib.hid (hB.out.trans (hbW.mono hB.out.size))
      obtain ⟨xa, xc, rfl⟩ := hpl.out.shape
      have HPY := Lib.hid (play_any (Hd.out.keep HBW.out) HR.out (rw_bs hrw (Nat.le_refl n) (by unfold maxLen; omega)) (hpl.out.keep hbW) (by rw [hl.out]; simpa using HMV.out.1) (by rw [hl.out]; exact mv_rev HMV.out.2) true)
      have hrun : run L Z true l (fun u => decide (u = n - 1)) (cnt (fun u => decide (u = n - 1)) n : Nat) (cnt (fun u => decide (u = n - 1)) n : Nat) = some ((fun _ => false), N1) := by
        rw [hl.out, cnt_target hn1]
        exact HREV.out
      rw [hrun] at HPY
      clear hrun hW hrw hbW cl fl HROW HB1 hB hpl hl HREV HMV
      generalize l.length = ll at *
      generalize wc.heap.size = gb at *
      go_upto_region 14 with (go_at_call 28; refine HPY.out.mono ?_; rintro e w8 ⟨bv, rfl, hbs, hb⟩; have HBS := Lib.hid hbs; have HB8 := Lib.hid (HBW.out.trans (hb.mono HBW.out.size)); clear hbs hb)
      obtain ⟨ba, bc, rfl⟩ := HBS.out.shape
      go_wp2
      go_loop [12, 13] (fun x y => x = .bool true ∧ ∃ i : Nat, i ≤ n ∧ y = I i) (fun _ y => n - (intOf y).toNat)
      case atStart => exact ⟨rfl, 0, by omega, rfl⟩
      case round =>
        obtain ⟨rfl, i, hi, rfl⟩ := hrel
        by_cases hin : i < n
        · obtain ⟨bb, rfl, cb⟩ := HBS.out.at' hin
          go_wp2
          go_round
          case rel => exact ⟨rfl, i + 1, by omega, by go_num⟩
          case measure => simp [intOf]; omega
        · obtain rfl : i = n := by omega
          go_wp2_with (go_at_call 10; refine (awake_any _).mono ?_; rintro e w6 ⟨rfl, hb⟩; have HB11 := Lib.hid (HB8.out.trans (hb.mono HB8.out.size)); clear hb)
          go_ret
          exact ⟨rfl, HB11.out⟩
  · have he1 : (E1 != 0) = true := by simp [he]
    clear he
    go_wp2_with (go_at_call 10; refine (awake_any _).mono ?_; rintro e w6 ⟨rfl, hb⟩; have HB11 := Lib.hid (HB5.out.trans (hb.mono HB5.out.size)); clear hb)
    go_ret
    exact ⟨rfl, HB11.out⟩
end Go.Proofs.Ytihpdmchppcbfaa
