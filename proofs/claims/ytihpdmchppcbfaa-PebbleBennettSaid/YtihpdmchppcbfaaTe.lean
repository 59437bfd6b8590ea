/- The search of the program: the sets of predecessors, the list of where a set of pebbles came from, and the way back. -/
import Derived.Test.YtihpdmchppcbfaaTg
namespace Go.Proofs.Ytihpdmchppcbfaa
open Go.RowKit
set_option linter.unusedVariables false
set_option linter.unusedSimpArgs false

set_option maxHeartbeats 8000000 in
set_option maxRecDepth 100000 in
theorem search_any {w : World} {v : Value} {n : Nat} {A : Nat → Option Addr} {L C : Nat → Nat} {Z : Nat → Nat → Int} (hd : Dg w v n A L C Z) (hr : okDag n L Z) (h14 : n ≤ 14) (k : Int) (rev : Bool) : Calls Try.prog 31 #[v, I k, .bool rev] w (Srch (Ed n (fun v => nd (Z v) (L v)) k rev) n w) := by
  obtain ⟨a, cap, rfl, h2, h3, h4, h5⟩ := hd.top
  obtain ⟨hn1, hn2, Hr⟩ := hr
  rcases a with _ | b
  · have := h4 rfl; omega
  have HR := Lib.hid Hr
  clear Hr
  have Hd := Lib.hid hd
  clear h4 h5 hd
  have hmk := run_make_row' (P := Try.prog) 67 57 (.int .u64 0) 8 Try.underlying67 Try.info57 rfl .i64 .i64 n (by omega) (by omega)
  go_enter Try.func31, Try.ntmps31
  go_upto_block 0 with fail
  obtain ⟨W, hW⟩ : ∃ W, W = w.alloc (Obj.cells (madeCells #[Value.int IntKind.u64 0] n) 57) := ⟨_, rfl⟩
  have hnw : Nw w W 57 n w.heap.size (fun _ => U 0) := by rw [hW]; exact ⟨Nat.le_refl _, World.rowIs_made w _ n 57⟩
  have hBW : Below w.heap.size w W := by rw [hW]; exact (Below.refl _ _).alloc (Nat.le_refl _) _
  rw [← hW]
  have HNW := Lib.hid hnw
  have HBW := Lib.hid hBW
  clear hnw hBW hW hmk
  go_cut [9] from 10 (fun x wr => x = .slice (some ⟨w.heap.size, 0, none⟩) n n ∧ Hid (Nw w wr 57 n w.heap.size (fun v => U (nd (Z v) (L v) : Nat))) ∧ Hid (Below w.heap.size w wr))
  case first =>
    go_wp2
    go_loopw [10, 11, 13, 30] (fun _ _ _ x wr => ∃ q : Nat, q ≤ n ∧ Hid (Nw w wr 57 n w.heap.size (fun v => if v < q then U (nd (Z v) (L v) : Nat) else U 0)) ∧ x = I q ∧ Hid (Below w.heap.size w wr)) (fun _ _ _ x _ => n - (intOf x).toNat)
    case atStart => exact ⟨0, by omega, Lib.hid (HNW.out.congr fun u hu => by simp), rfl, HBW⟩
    case round =>
      clear HNW HBW
      obtain ⟨q, hq, hx, rfl, hB⟩ := hrel
      by_cases hqn : q < n
      · have hd := Lib.hid (Hd.out.keep hB.out)
        have hck := hd.out.outer hqn
        have hl2 := (hd.out.row q hqn).2.1
        go_wp2
        go_loopw [13, 37] (fun _ x wr => ∃ i : Nat, i ≤ L q ∧ Hid (Nw w wr 57 n w.heap.size (fun v => if v < q then U (nd (Z v) (L v) : Nat) else if v = q then U (nd (Z q) i : Nat) else U 0)) ∧ x = I i ∧ Hid (Below w.heap.size w wr)) (fun _ x _ => L q - (intOf x).toNat)
        case atStart => exact ⟨0, by omega, Lib.hid (hx.out.congr fun u hu => by
          by_cases e : u < q
          · simp [e]
          · by_cases e2 : u = q
            · simp [e2, nd]
            · simp [e, e2]), rfl, hB⟩
        case round =>
          clear hck hd hB hx
          obtain ⟨i, hi, hx, rfl, hB⟩ := hrel
          have hd := Lib.hid (Hd.out.keep hB.out)
          by_cases hi' : i < L q
          · obtain ⟨e, hA⟩ := hd.out.some hqn hi'
            have hz := hd.out.elem hqn hi' hA
            obtain ⟨p, hp⟩ : ∃ p : Nat, Z q i = p := ⟨(Z q i).toNat, by have := (HR.out q hqn i hi').1; omega⟩
            have hpq : p < q := by have := (HR.out q hqn i hi').2.1; omega
            rw [hp] at hz
            have c1 := hx.out.cell hqn
            have f1 := hx.out.frozen q
            simp only [Nat.lt_irrefl, if_false, if_true] at c1
            have hlt : nd (Z q) i < 2 ^ 14 := Nat.lt_of_lt_of_le (nd_lt (n := q) i fun j hj => by have := HR.out q hqn j (by omega); unfold okAt at this; omega) (Nat.pow_le_pow_right (by omega) (by omega))
            generalize hnd : nd (Z q) i = x at *
            have Hnd := Lib.hid hnd
            have Hp := Lib.hid hp
            clear hnd hp
            go_upto_region 9 with fail
            go_region
            rw [or_step hlt (by omega)]
            have Nx : Nw w (wr.setCell ⟨w.heap.size, q, none⟩ (U (x ||| 2 ^ p : Nat))).drew 57 n w.heap.size (fun v => if v < q then U (nd (Z v) (L v) : Nat) else if v = q then U (nd (Z q) (i + 1) : Nat) else U 0) :=
              (hx.out.set q _ fun u => by
                by_cases e : u = q
                · subst e
                  simp [nd, Hnd.out, Hp.out]
                · simp [e]).drew 1
            have NB : Below w.heap.size w (wr.setCell ⟨w.heap.size, q, none⟩ (U (x ||| 2 ^ p : Nat))).drew := (hB.out.setCell (p := ⟨w.heap.size, q, none⟩) (Nat.le_refl _) _).drew
            have NX := Lib.hid Nx
            have NBB := Lib.hid NB
            clear Nx NB hd hz c1 f1 hx
            generalize (wr.setCell ⟨w.heap.size, q, none⟩ (U (x ||| 2 ^ p : Nat))).drew = w9 at *
            generalize (((x ||| 2 ^ p : Nat) : Int)) = y9 at *
            go_wp2
            go_roundw
            case rel => exact ⟨i + 1, by omega, NX, by go_num, NBB⟩
            case measure => simp [intOf]; omega
          · obtain rfl : i = L q := by omega
            go_wp2
            go_roundw
            case rel => exact ⟨q + 1, by omega, Lib.hid (hx.out.congr fun u hu => by
              by_cases e : u < q
              · simp [e, show u < q + 1 by omega]
              · by_cases e2 : u = q
                · simp [e2]
                · simp [e, e2, show ¬ u < q + 1 by omega]), by go_num, hB⟩
            case measure => simp [intOf]; omega
      · obtain rfl : q = n := by omega
        go_wp2
        go_meet
        exact ⟨rfl, Lib.hid (hx.out.congr fun u hu => by simp [hu]), hB⟩
  case rest =>
    obtain ⟨rfl, hnd, hB⟩ := hcut
    obtain ⟨N, hN⟩ : ∃ N : Nat, N = 2 ^ n := ⟨_, rfl⟩
    have hN14 : N ≤ 16384 := by rw [hN]; exact Nat.pow_le_pow_right (by omega) h14
    have hNp : 1 ≤ N := by rw [hN]; exact Nat.one_le_two_pow
    have hw : wrap64 ((2 : Int) ^ n) = (N : Int) := by
      have : ∀ c : Fin 15, wrap64 ((2 : Int) ^ c.val) = ((2 ^ c.val : Nat) : Int) := by decide +kernel
      rw [hN]
      exact this ⟨n, by omega⟩
    have hmk := run_make_row' (P := Try.prog) 56 3 (.int .i64 0) 8 Try.underlying56 Try.info3 rfl .i64 .i64 N (by omega) (by omega)
    have HN := Lib.hid hN
    clear hN
    go_upto_region 13 with fail
    obtain ⟨b2, hb2⟩ : ∃ b2, b2 = wc.heap.size := ⟨_, rfl⟩
    obtain ⟨W2, hW2⟩ : ∃ W2, W2 = wc.alloc (.cells (madeCells #[Value.int IntKind.i64 0] N) 3) := ⟨_, rfl⟩
    have hfr : Nw w W2 3 N b2 (fun _ => I 0) := by rw [hW2, hb2]; exact ⟨hB.out.size, World.rowIs_made wc _ N 3⟩
    have hnd2 : Nw w W2 57 n w.heap.size (fun v => U (nd (Z v) (L v) : Nat)) := by rw [hW2]; exact hnd.out.alloc _
    have hB2 : Below w.heap.size w W2 := by rw [hW2]; exact hB.out.alloc hB.out.size _
    have hne : w.heap.size < b2 := by rw [hb2]; exact hnd.out.lt
    rw [← hb2, ← hW2]
    have HFR := Lib.hid hfr
    have HND := Lib.hid hnd2
    have HB2 := Lib.hid hB2
    clear hfr hnd2 hB2 hb2 hW2 hnd hB hmk hw
    go_wp2
    go_loopw [15, 56] (fun _ x wr => ∃ i : Nat, i ≤ N ∧ Hid (Nw w wr 3 N b2 (fun t => if t < i then I (-1) else I 0)) ∧ Hid (Nw w wr 57 n w.heap.size (fun v => U (nd (Z v) (L v) : Nat))) ∧ x = I i ∧ Hid (Below w.heap.size w wr)) (fun _ x _ => N - (intOf x).toNat)
    case atStart => exact ⟨0, by omega, Lib.hid (HFR.out.congr fun u hu => by simp), HND, rfl, HB2⟩
    case round =>
      clear HFR HND HB2
      obtain ⟨i, hi, hfr, hnd, rfl, hB⟩ := hrel
      by_cases hiN : i < N
      · have c1 := hfr.out.cell hiN
        have f1 := hfr.out.frozen i
        go_wp2
        go_roundw
        case rel => exact ⟨i + 1, by omega, Lib.hid (hfr.out.set i (I (-1)) fun u => by
          by_cases e : u = i
          · simp [e]
          · by_cases e2 : u < i
            · simp [e, e2, show u < i + 1 by omega]
            · simp [e, e2, show ¬ u < i + 1 by omega]), Lib.hid (hnd.out.other (by omega) i _), by go_num, Lib.hid (hB.out.setCell (p := ⟨b2, i, none⟩) hfr.out.new _)⟩
        case measure => simp [intOf]; omega
      · obtain rfl : i = N := by omega
        have hfr0 : Nw w wr 3 i b2 (fun _ => I (-1)) := hfr.out.congr fun u hu => by simp [hu]
        have c0 := (hfr0.alloc (.cells #[U 0] 57)).cell (u := 0) (by omega)
        have f0 := (hfr0.alloc (.cells #[U 0] 57)).frozen 0
        go_upto_block 6 with fail
        have hwu := w2u (n - 1) (by omega)
        rw [hwu]
        obtain ⟨W3, hW3⟩ : ∃ W3, W3 = (wr.alloc (Obj.cells #[U 0] 57)).setCell ⟨b2, 0, none⟩ (I n) := ⟨_, rfl⟩
        have hfr3 : Nw w W3 3 i b2 (fun t => I (if t = 0 then (n : Int) else -1)) := by
          rw [hW3]
          exact (hfr0.alloc _).set 0 (I n) fun u => by by_cases e : u = 0 <;> simp [e]
        have hnd3 : Nw w W3 57 n w.heap.size (fun v => U (nd (Z v) (L v) : Nat)) := by rw [hW3]; exact (hnd.out.alloc _).other (by omega) 0 _
        have hB3 : Below w.heap.size w W3 := by rw [hW3]; exact (hB.out.alloc hB.out.size _).setCell (p := ⟨b2, 0, none⟩) hfr0.new _
        have hq3 : Qs b2 W3 (.slice (some ⟨wr.heap.size, 0, none⟩) 1 1) [0] := ⟨wr.heap.size, 0, 1, #[U 0], rfl, hfr0.lt, by
          rw [hW3, Deep.blk_setCell_other _ _ _ _ (by have := hfr0.lt; show wr.heap.size ≠ b2; omega)]
          exact Deep.blk_alloc_new _ _, by simp, by simp, by decide, fun j hj => by
            obtain rfl : j = 0 := by simpa using hj
            rfl⟩
        rw [← hW3]
        generalize wr.heap.size = g0 at hq3 ⊢
        have HFR3 := Lib.hid hfr3
        have HND3 := Lib.hid hnd3
        have HB3 := Lib.hid hB3
        have HQ3 := Lib.hid hq3
        clear hfr3 hnd3 hB3 hq3 hW3 hwu c0 f0 hfr0 hfr hnd hB
        go_cut [17] from 18 (fun x wr => ∃ Q h dep fr, Hid (Bfs (Ed n (fun v => nd (Z v) (L v)) k rev) Q h dep (fun _ => False)) ∧ Hid (Fr (Ed n (fun v => nd (Z v) (L v)) k rev) n Q dep fr) ∧ Hid (Nw w wr 3 i b2 (fun t => I (fr t))) ∧ Hid (Below w.heap.size w wr) ∧ Hid (h = Q.length ∨ 0 ≤ fr (2 ^ (n - 1))))
        case first =>
          go_wp2
          go_loopg [17, 18, 19, 20] i (fun g x _ _ _ wr => ∃ Q h dep fr, g = i - h ∧ Hid (Bfs (Ed n (fun v => nd (Z v) (L v)) k rev) Q h dep (fun _ => False)) ∧ Hid (Fr (Ed n (fun v => nd (Z v) (L v)) k rev) n Q dep fr) ∧ Hid (Nw w wr 3 i b2 (fun t => I (fr t))) ∧ Hid (Nw w wr 57 n w.heap.size (fun v => U (nd (Z v) (L v) : Nat))) ∧ Hid (Below w.heap.size w wr) ∧ Hid (Qs b2 wr x (Q.drop h)))
          case atStart => exact ⟨[0], 0, _, _, by omega, Lib.hid (Bfs.start _), Lib.hid (Fr.start _ n), HFR3, HND3, HB3, HQ3⟩
          case round =>
            clear HFR3 HND3 HB3 HQ3
            obtain ⟨Q, h, dep, fr, hg, hbf, hfr, hnw, hnd, hB, hqs⟩ := hrel
            have hgl : 2 ^ (n - 1) < i := by rw [HN.out]; exact Nat.pow_lt_pow_right (by omega) (by omega)
            have hgi : ((2 ^ (n - 1) : Nat) : Int) < (i : Int) := by omega
            have cg := hnw.out.cell hgl
            obtain ⟨go, off, qcap, cur, hu, hlo, hblk, hle, hfit, hmx, hel⟩ := hqs.out.ex
            subst hu
            have Hgo := Lib.hid hblk
            have Hel := Lib.hid hel
            generalize hG : 2 ^ (n - 1) = G at *
            have HG := Lib.hid hG
            clear hG hblk hel
            by_cases hh : h < Q.length
            · obtain ⟨s, hs⟩ : ∃ s, Q[h]? = some s := ⟨Q[h], List.getElem?_eq_getElem hh⟩
              have hdl : (Q.drop h).length = (Q.drop (h + 1)).length + 1 := by simp; omega
              have hd0 : (Q.drop h).getD 0 0 = s := by simp [List.getD, hs]
              have cq : wr.cell? ⟨go, off, none⟩ = some (U s) := by
                have := Hel.out 0 (by omega)
                rw [hd0] at this
                simp [World.cell?, Hgo.out]
                simpa using this
              rw [hdl]
              by_cases hgoal : 0 ≤ fr G
              · have hgd : decide (fr G < 0) = false := decide_eq_false (by omega)
                have Hgl := Lib.hid hgoal
                clear hgoal
                generalize (Q.drop (h + 1)).length = lq at *
                have hlq : (0 : Int) < (lq : Int) + 1 := by omega
                go_wp2
                go_meet
                exact ⟨Q, h, dep, fr, hbf, hfr, hnw, hB, Lib.hid (.inr Hgl.out)⟩
              · have hgd : decide (fr G < 0) = true := decide_eq_true (by omega)
                have hgn : fr G < 0 := by omega
                clear hgoal
                obtain ⟨lq, hlq0⟩ : ∃ lq, lq = (Q.drop (h + 1)).length := ⟨_, rfl⟩
                rw [← hlq0]
                have Hlq := Lib.hid hlq0
                have hlc : lq + 1 ≤ qcap := by omega
                clear hlq0 hdl
                have hlq : (0 : Int) < (lq : Int) + 1 := by omega
                have hq1 : Qs b2 wr (.slice (if qcap = 1 then some ⟨go, off, none⟩ else some ⟨go, off + 1, none⟩) lq (qcap - 1)) (Q.drop (h + 1)) := by
                  have hx : ∀ j, j < (Q.drop (h + 1)).length → cur[off + (j + 1)]? = some (U ((Q.drop (h + 1)).getD j 0 : Nat)) := fun j hj => by
                    have := Hel.out (j + 1) (by rw [← Hlq.out] at hj; simp at hle ⊢; have := Hlq.out; simp at this; omega)
                    rw [this]
                    simp [List.getD, Nat.add_comm, Nat.add_left_comm, Nat.add_assoc]
                  rw [Hlq.out]
                  by_cases e : qcap = 1
                  · rw [if_pos e]
                    exact ⟨go, off, qcap - 1, cur, rfl, hlo, Hgo.out, by rw [← Hlq.out]; omega, by omega, by omega, fun j hj => by rw [← Hlq.out] at hj; omega⟩
                  · rw [if_neg e]
                    exact ⟨go, off + 1, qcap - 1, cur, rfl, hlo, Hgo.out, by rw [← Hlq.out]; omega, by omega, by omega, fun j hj => by
                      have := hx j hj
                      rw [← this]
                      congr 1
                      omega⟩
                go_upto_block 8 with fail
                generalize (Value.slice (if qcap = 1 then some ⟨go, off, none⟩ else some ⟨go, off + 1, none⟩) lq (qcap - 1)) = u1 at *
                have hsN : s < i := by rw [HN.out]; exact hfr.out.lt s (List.mem_of_getElem? hs)
                have hQi : Q.length ≤ i := nodup_len hbf.out.nodup (fun x hx => by rw [HN.out]; exact hfr.out.lt x hx)
                have hhi : h < i := by omega
                clear hQi
                have Hs := Lib.hid hs
                have HQ1 := Lib.hid hq1
                clear hs hq1 cg cq hgd hlq hlc hle hfit hmx hlo hd0 hqs Hgo Hel Hlq
                go_wp2
                go_loopw [17, 19, 20, 86] (fun y _ _ x wi => ∃ v Q' dep' fr', v ≤ n ∧ Hid (Bfs (Ed n (fun v => nd (Z v) (L v)) k rev) Q' h dep' (fun t => ∃ u, u < v ∧ t = s ^^^ 2 ^ u)) ∧ Hid (Q'[h]? = some s) ∧ Hid (Fr (Ed n (fun v => nd (Z v) (L v)) k rev) n Q' dep' fr') ∧ Hid (Nw w wi 3 i b2 (fun t => I (fr' t))) ∧ Hid (Nw w wi 57 n w.heap.size (fun v => U (nd (Z v) (L v) : Nat))) ∧ Hid (Below w.heap.size w wi) ∧ Hid (Qs b2 wi y (Q'.drop (h + 1))) ∧ x = I v) (fun _ _ _ x _ => n - (intOf x).toNat)
                case atStart => exact ⟨0, Q, dep, fr, by omega, Lib.hid (Bfs.some_of (b := hbf.out) (fun t ht => by obtain ⟨u, hu, _⟩ := ht; omega)), Hs, hfr, hnw, hnd, hB, HQ1, rfl⟩
                case round =>
                  clear hbf hfr hnw hnd hB HQ1 Hs hgn
                  obtain ⟨v, Q', dep', fr', hv, hbf, Hs, hfr, hnw, hnd, hB, hqs, rfl⟩ := hrel
                  by_cases hvn : v < n
                  · have hlt14 : ∀ j, j < L v → (Z v j).toNat < 14 := fun j hj => by have := HR.out v hvn j hj; unfold okAt at this; omega
                    have hnl : nd (Z v) (L v) < 16384 := nd_lt (n := 14) (L v) hlt14
                    have hs14 : s < 16384 := by omega
                    obtain ⟨t, ht⟩ : ∃ t, t = s ^^^ 2 ^ v := ⟨_, rfl⟩
                    have htN : t < i := by rw [ht, HN.out]; exact xor_lt (by rw [← HN.out]; exact hsN) hvn
                    have hxr := xor_step hs14 (p := v) (by omega)
                    rw [← ht] at hxr
                    have cn := hnd.out.cell hvn
                    have ct := hnw.out.cell htN
                    have han := and_nat hs14 hnl
                    have HED : Hid (∀ t', t' = t → Ed n (fun v => nd (Z v) (L v)) k rev s t' → ((s < t ∨ rev = true) → s &&& nd (Z v) (L v) = nd (Z v) (L v)) ∧ (pc t : Int) ≤ k) := Lib.hid (fun t' e hE => by
                      obtain ⟨u, h1, h2, h3, h4⟩ := hE
                      rw [e] at h2 h3 h4
                      obtain rfl : u = v := by rw [ht] at h2; exact (xor_inj h2).symm
                      exact ⟨h3, h4⟩)
                    have HV : Hid (0 ≤ fr' t ↔ t ∈ Q') := Lib.hid (hfr.out.vis t (by rw [← HN.out]; exact htN))
                    have Ht := Lib.hid ht
                    have HO := Lib.hid (fun w => ones_any (s := t) (by omega) w)
                    generalize hnv : nd (Z v) (L v) = nv at *
                    have Hnv := Lib.hid hnv
                    clear ht hlt14 hnv
                    generalize hft : fr' t = ft at *
                    have Hft := Lib.hid hft
                    clear hft
                    go_upto_region 28 with fail
                    go_cut [86, 124] from 86 to 133 (fun z x wi => z = I v ∧ (∃ r : Bool, x = .bool r ∧ Hid (r = true → t ∈ Q' ∨ ¬ Ed n (fun v => nd (Z v) (L v)) k rev s t) ∧ Hid (r = false → t ∉ Q' ∧ Ed n (fun v => nd (Z v) (L v)) k rev s t)) ∧ ∃ m, wi = wr.drewN m)
                    case first =>
                      by_cases d1 : 0 ≤ ft
                      · have hd1 : decide (0 ≤ ft) = true := decide_eq_true d1
                        go_quiet (fail)
                        go_wp2_with fail
                        go_meet
                        exact ⟨rfl, ⟨true, rfl, Lib.hid (fun _ => .inl (HV.out.1 d1)), Lib.hid (fun h => by cases h)⟩, _, rfl⟩
                      · have hd1 : decide (0 ≤ ft) = false := decide_eq_false d1
                        have hnQ : Hid (t ∉ Q') := Lib.hid (fun hm => d1 (HV.out.2 hm))
                        by_cases hrv : rev = true
                        · subst hrv
                          by_cases d2 : s < t
                          · have hd2 : decide ((s : Int) < (t : Int)) = true := decide_eq_true (by omega)
                            by_cases d3 : s &&& nv = nv
                            · have hd3 : (((s &&& nv : Nat) : Int) != (nv : Int)) = false := by simp [d3]
                              have D3 := Lib.hid d3
                              clear d3
                              by_cases d4 : k < (pc t : Int)
                              · have hd4 : decide (k < (pc t : Int)) = true := decide_eq_true d4
                                go_quiet (first | (go_at_call 42; with_reducible exact Calls.quiet_of_same (HO.out _)))
                                go_wp2_with fail
                                go_meet
                                exact ⟨rfl, ⟨true, rfl, Lib.hid (fun _ => .inr (fun hE => by have := (HED.out t rfl hE).2; omega)), Lib.hid (fun h => by cases h)⟩, _, rfl⟩
                              · have hd4 : decide (k < (pc t : Int)) = false := decide_eq_false d4
                                go_quiet (first | (go_at_call 42; with_reducible exact Calls.quiet_of_same (HO.out _)))
                                go_wp2_with fail
                                go_meet
                                exact ⟨rfl, ⟨false, rfl, Lib.hid (fun h => by cases h), Lib.hid (fun _ => ⟨hnQ.out, ⟨v, hvn, Ht.out, (fun _ => by show s &&& nd (Z v) (L v) = nd (Z v) (L v); rw [Hnv.out]; exact D3.out), by omega⟩⟩)⟩, _, rfl⟩
                            · have hd3 : (((s &&& nv : Nat) : Int) != (nv : Int)) = true := by simp; omega
                              go_quiet (fail)
                              go_wp2_with fail
                              go_meet
                              exact ⟨rfl, ⟨true, rfl, Lib.hid (fun _ => Or.inr (fun hE => d3 ((HED.out t rfl hE).1 (by first | exact .inl d2 | exact .inr rfl | exact .inr trivial | simp)))), Lib.hid (fun h => by cases h)⟩, _, rfl⟩
                          · have hd2 : decide ((s : Int) < (t : Int)) = false := decide_eq_false (by omega)
                            by_cases d3 : s &&& nv = nv
                            · have hd3 : (((s &&& nv : Nat) : Int) != (nv : Int)) = false := by simp [d3]
                              have D3 := Lib.hid d3
                              clear d3
                              by_cases d4 : k < (pc t : Int)
                              · have hd4 : decide (k < (pc t : Int)) = true := decide_eq_true d4
                                go_quiet (first | (go_at_call 42; with_reducible exact Calls.quiet_of_same (HO.out _)))
                                go_wp2_with fail
                                go_meet
                                exact ⟨rfl, ⟨true, rfl, Lib.hid (fun _ => .inr (fun hE => by have := (HED.out t rfl hE).2; omega)), Lib.hid (fun h => by cases h)⟩, _, rfl⟩
                              · have hd4 : decide (k < (pc t : Int)) = false := decide_eq_false d4
                                go_quiet (first | (go_at_call 42; with_reducible exact Calls.quiet_of_same (HO.out _)))
                                go_wp2_with fail
                                go_meet
                                exact ⟨rfl, ⟨false, rfl, Lib.hid (fun h => by cases h), Lib.hid (fun _ => ⟨hnQ.out, ⟨v, hvn, Ht.out, (fun _ => by show s &&& nd (Z v) (L v) = nd (Z v) (L v); rw [Hnv.out]; exact D3.out), by omega⟩⟩)⟩, _, rfl⟩
                            · have hd3 : (((s &&& nv : Nat) : Int) != (nv : Int)) = true := by simp; omega
                              go_quiet (fail)
                              go_wp2_with fail
                              go_meet
                              exact ⟨rfl, ⟨true, rfl, Lib.hid (fun _ => Or.inr (fun hE => d3 ((HED.out t rfl hE).1 (by first | exact .inl d2 | exact .inr rfl | exact .inr trivial | simp)))), Lib.hid (fun h => by cases h)⟩, _, rfl⟩
                        · obtain rfl : rev = false := by simpa using hrv
                          clear hrv
                          by_cases d2 : s < t
                          · have hd2 : decide ((s : Int) < (t : Int)) = true := decide_eq_true (by omega)
                            by_cases d3 : s &&& nv = nv
                            · have hd3 : (((s &&& nv : Nat) : Int) != (nv : Int)) = false := by simp [d3]
                              have D3 := Lib.hid d3
                              clear d3
                              by_cases d4 : k < (pc t : Int)
                              · have hd4 : decide (k < (pc t : Int)) = true := decide_eq_true d4
                                go_quiet (first | (go_at_call 42; with_reducible exact Calls.quiet_of_same (HO.out _)))
                                go_wp2_with fail
                                go_meet
                                exact ⟨rfl, ⟨true, rfl, Lib.hid (fun _ => .inr (fun hE => by have := (HED.out t rfl hE).2; omega)), Lib.hid (fun h => by cases h)⟩, _, rfl⟩
                              · have hd4 : decide (k < (pc t : Int)) = false := decide_eq_false d4
                                go_quiet (first | (go_at_call 42; with_reducible exact Calls.quiet_of_same (HO.out _)))
                                go_wp2_with fail
                                go_meet
                                exact ⟨rfl, ⟨false, rfl, Lib.hid (fun h => by cases h), Lib.hid (fun _ => ⟨hnQ.out, ⟨v, hvn, Ht.out, (fun _ => by show s &&& nd (Z v) (L v) = nd (Z v) (L v); rw [Hnv.out]; exact D3.out), by omega⟩⟩)⟩, _, rfl⟩
                            · have hd3 : (((s &&& nv : Nat) : Int) != (nv : Int)) = true := by simp; omega
                              go_quiet (fail)
                              go_wp2_with fail
                              go_meet
                              exact ⟨rfl, ⟨true, rfl, Lib.hid (fun _ => Or.inr (fun hE => d3 ((HED.out t rfl hE).1 (by first | exact .inl d2 | exact .inr rfl | exact .inr trivial | simp)))), Lib.hid (fun h => by cases h)⟩, _, rfl⟩
                          · have hd2 : decide ((s : Int) < (t : Int)) = false := decide_eq_false (by omega)
                            by_cases d4 : k < (pc t : Int)
                            · have hd4 : decide (k < (pc t : Int)) = true := decide_eq_true d4
                              go_quiet (first | (go_at_call 42; with_reducible exact Calls.quiet_of_same (HO.out _)))
                              go_wp2_with fail
                              go_meet
                              exact ⟨rfl, ⟨true, rfl, Lib.hid (fun _ => .inr (fun hE => by have := (HED.out t rfl hE).2; omega)), Lib.hid (fun h => by cases h)⟩, _, rfl⟩
                            · have hd4 : decide (k < (pc t : Int)) = false := decide_eq_false d4
                              go_quiet (first | (go_at_call 42; with_reducible exact Calls.quiet_of_same (HO.out _)))
                              go_wp2_with fail
                              go_meet
                              exact ⟨rfl, ⟨false, rfl, Lib.hid (fun h => by cases h), Lib.hid (fun _ => ⟨hnQ.out, ⟨v, hvn, Ht.out, (fun h => by rcases h with h | h <;> first | exact absurd h d2 | cases h), by omega⟩⟩)⟩, _, rfl⟩
                    case rest =>
                      obtain ⟨rfl, ⟨r, rfl, hr1, hr2⟩, m, rfl⟩ := hcut
                      cases r with
                      | true =>
                        have HOLD := Lib.hid (hbf.out.old (t := t) Hs.out (hr1.out rfl))
                        clear hr1 hr2
                        go_wp2
                        go_roundw
                        case rel => exact ⟨v + 1, Q', dep', fr', by omega, Lib.hid (Bfs.some_of (b := HOLD.out) (fun x hx => by
                          obtain ⟨u, hu, hx⟩ := hx
                          rcases Nat.lt_or_ge u v with hl | hl
                          · exact .inl ⟨u, hl, hx⟩
                          · obtain rfl : u = v := by omega
                            exact .inr (by rw [Ht.out]; exact hx))), Hs, hfr, Lib.hid (hnw.out.drew _), Lib.hid (hnd.out.drew _), Lib.hid (below_drewN hB.out _), Lib.hid (hqs.out.drew _), by go_num⟩
                        case measure => simp [intOf]; omega
                      | false =>
                        have hE : Ed n (fun v => nd (Z v) (L v)) k rev s (s ^^^ 2 ^ v) := by rw [← Ht.out]; exact (hr2.out rfl).2
                        have hsQ : s ∈ Q' := List.mem_of_getElem? Hs.out
                        have hnt : s ^^^ 2 ^ v ∉ Q' := by rw [← Ht.out]; exact (hr2.out rfl).1
                        have NBF := Lib.hid (hbf.out.new Hs.out hnt hE)
                        have NFR := Lib.hid (hfr.out.new hsQ hvn hnt hE)
                        have hql : h + 1 ≤ Q'.length := (List.getElem?_eq_some_iff.1 Hs.out).1
                        have hQn : Q'.length ≤ i := nodup_len hbf.out.nodup (fun x hx => by rw [HN.out]; exact hfr.out.lt x hx)
                        have hxl : (Q'.drop (h + 1)).length ≤ 2 ^ 40 := by simp; omega
                        have hdrop : (Q' ++ [s ^^^ 2 ^ v]).drop (h + 1) = Q'.drop (h + 1) ++ [t] := by rw [List.drop_append_of_le_length hql, Ht.out]
                        have hs2 : (Q' ++ [s ^^^ 2 ^ v])[h]? = some s := by rw [List.getElem?_append_left (by omega)]; exact Hs.out
                        have HDR := Lib.hid hdrop
                        have HS2 := Lib.hid hs2
                        have HXL := Lib.hid hxl
                        have ftf := hnw.out.frozen t
                        have hne2 : w.heap.size ≠ b2 := by omega
                        have hb2s : b2 < wr.heap.size := hnw.out.lt
                        clear hr1 hr2 hE hsQ hnt hql hQn hdrop hs2 hxl
                        go_wp2_with (first
                          | (at_builtin; refine wpList_append_qs rfl (.tmp 129) (.tmp 131) rfl (lo := b2) (t := t) rfl (((hqs.out.drew _).other (a := ⟨b2, t, none⟩) (Nat.le_refl _) (I v)).alloc (.cells #[U t] 57)) (by rw [World.size_alloc, Deep.nblk_setCell]; exact Nat.lt_succ_of_lt hb2s) rfl (cells_one2 _ _ _ (Deep.nblk_setCell _ _ _)) HXL.out ?_; intro u9 w9 hq9 hb9; have HQ9 := Lib.hid hq9; have HN9 := Lib.hid (((hnw.out.drew m).set t (I v) (g := fun x => I (if x = s ^^^ 2 ^ v then (v : Int) else fr' x)) (fun x => by rw [← Ht.out]; split <;> rfl)).alloc (.cells #[U t] 57)); have HM9 := Lib.hid (((hnd.out.drew m).other (c := b2) hne2 t (I v)).alloc (.cells #[U t] 57)); have HB9 := Lib.hid (((below_drewN hB.out m).setCell (p := ⟨b2, t, none⟩) hnw.out.new (I v)).alloc (by rw [Deep.nblk_setCell]; exact (below_drewN hB.out m).size) (.cells #[U t] 57)); have HL9 := Lib.hid hb9; clear hq9 hb9))
                        go_roundw
                        case rel => exact ⟨v + 1, _, _, _, by omega, Lib.hid (Bfs.some_of (b := NBF.out) (fun x hx => by
                          obtain ⟨u, hu, hx⟩ := hx
                          rcases Nat.lt_or_ge u v with hl | hl
                          · exact .inl ⟨u, hl, hx⟩
                          · obtain rfl : u = v := by omega
                            exact .inr hx)), HS2, NFR, Lib.hid (nw_block HN9.out (HL9.out.block _ (by omega))), Lib.hid (nw_block HM9.out (HL9.out.block _ (by omega))), Lib.hid (HB9.out.trans (HL9.out.mono (by omega))), Lib.hid (by rw [HDR.out]; exact HQ9.out), by go_num⟩
                        case measure => simp [intOf]; omega
                  · obtain rfl : v = n := by omega
                    go_wp2
                    go_roundg (i - (h + 1))
                    case measure => omega
                    case rel => exact ⟨Q', h + 1, dep', fr', rfl, Lib.hid (hbf.out.next Hs.out (fun t ht => by obtain ⟨u, h1, h2, _⟩ := ht; exact ⟨u, h1, h2⟩)), hfr, hnw, hnd, hB, hqs⟩
            · obtain rfl : h = Q.length := by have := hbf.out.le; omega
              have hz : (Q.drop Q.length).length = 0 := by simp
              rw [hz]
              clear hz
              go_wp2
              go_meet
              exact ⟨Q, Q.length, dep, fr, hbf, hfr, hnw, hB, Lib.hid (.inl rfl)⟩
        case rest =>
          clear HFR3 HND3 HB3 HQ3
          obtain ⟨Q, h, dep, fr, hbf, hfr, hnw, hB, hfin⟩ := hcut
          have hgl : 2 ^ (n - 1) < i := by rw [HN.out]; exact Nat.pow_lt_pow_right (by omega) (by omega)
          have hgi : ((2 ^ (n - 1) : Nat) : Int) < (i : Int) := by omega
          have hgp : 1 ≤ 2 ^ (n - 1) := Nat.one_le_two_pow
          have cg := hnw.out.cell hgl
          have hvis := hfr.out.vis (2 ^ (n - 1)) (by rw [← HN.out]; exact hgl)
          by_cases hgoal : 0 ≤ fr (2 ^ (n - 1))
          · have HG := Lib.hid (hvis.1 hgoal)
            have hdl := dep_lt hbf.out hfr.out _ HG.out
            rw [← HN.out] at hdl
            have HDL := Lib.hid hdl
            clear hvis hfin hdl
            generalize hG : 2 ^ (n - 1) = G at *
            have HGG := Lib.hid hG
            clear hG
            have hb2s : b2 < wc.heap.size := hnw.out.lt
            go_wp2
            go_loopg [21, 22, 23] (dep G) (fun gh out y _ wr => ∃ (x : Nat) (O : List (Bool × Int)), gh = dep x ∧ y = U x ∧ Hid (x ∈ Q) ∧ Hid (O.length + dep x = dep G) ∧ Hid (Way (Ed n (fun v => nd (Z v) (L v)) k rev) n x O.reverse G) ∧ Hid (wr.ownsRow (b2 + 1) 49 2 out O.length (mc O)) ∧ Hid (Nw w wr 3 i b2 (fun t => I (fr t))) ∧ Hid (Below w.heap.size w wr))
            case atStart => exact ⟨G, [], rfl, rfl, HG, Lib.hid (by simp), Lib.hid rfl, Lib.hid (World.ownsRow_nil _ _ _ _), hnw, hB⟩
            case round =>
              clear hnw hB
              obtain ⟨x, O, rfl, rfl, hx, hlen, hway, hown, hnw, hB⟩ := hrel
              have hxi : x < i := by rw [HN.out]; exact hfr.out.lt x hx.out
              by_cases h0 : x = 0
              · subst h0
                have hO : O.length = dep G := by have := hlen.out; rw [hbf.out.root.2] at this; omega
                have HO := Lib.hid hO
                have hO1 : O.length < i := by have := HDL.out; omega
                have hO2 : 1 ≤ O.length := by
                  have h1 : O ≠ [] := fun e => by
                    have := hway.out
                    rw [e] at this
                    have : (0 : Nat) = G := this
                    omega
                  cases O with
                  | nil => exact absurd rfl h1
                  | cons y l => simp
                have hown' := hown.out
                obtain ⟨ao, co, hv⟩ : ∃ ao co, u21 = .slice (some ⟨ao, 0, none⟩) O.length co := by
                  rcases hown'.2 with ⟨_, h2⟩ | ⟨g', cap', cur, h1, _⟩
                  · omega
                  · exact ⟨g', cap', h1⟩
                subst hv
                obtain ⟨hg1, _, hg3, hg4, hmv⟩ := own_mv hown'
                have HMV := Lib.hid hmv
                clear hO hown' hmv
                go_wp2_with (go_at_call 43; refine (rev_any HMV.out hO2 (by omega)).mono ?_; rintro e w9 ⟨rfl, hm9, hb9⟩)
                go_ret2
                refine ⟨O.reverse, true, _, .inl ⟨rfl, by rw [HGG.out]; exact hway.out, ?_, fun m hm => ?_, ?_⟩, rfl, ?_, hB.out.trans (hb9.mono (by omega))⟩
                · rw [HGG.out, List.length_reverse, HO.out]
                  exact hbf.out.real _ HG.out
                · rw [HGG.out] at hm
                  rw [List.length_reverse, HO.out]
                  exact hbf.out.min _ HG.out m hm
                · rw [List.length_reverse, ← HN.out]; exact hO1
                · have h1 := mv_pl (w := w9) (g := ao) (l := O.reverse) (cap := co) (by
                    rw [List.length_reverse]
                    refine hm9.congr fun u hu => ?_
                    simp only [List.getD, List.getElem?_reverse hu]) (by rw [List.length_reverse]; exact hg3) hg4
                  rw [List.length_reverse] at h1
                  exact h1
              · obtain ⟨u, hu1, hu2, hu3, hu4, hu5⟩ := hfr.out.par x hx.out h0
                have cx := hnw.out.cell hxi
                rw [hu2] at cx
                have Hu2 := Lib.hid hu2
                have Hu3 := Lib.hid hu3
                have Hu4 := Lib.hid hu4
                have Hu5 := Lib.hid hu5
                clear hu2 hu3 hu4 hu5
                have hne : ((x : Int) != 0) = true := by simp; omega
                have hx14 : x < 16384 := by omega
                have hxr := xor_step hx14 (p := u) (by omega)
                have hbit := bit_at hx14 u
                generalize hbv : x.testBit u = bv at *
                have HBV := Lib.hid hbv
                have hdx : dep (x ^^^ 2 ^ u) + 1 = dep x := by have := Hu4.out; omega
                have HDX := Lib.hid hdx
                have hOl : O.length ≤ 2 ^ 40 := by have := hlen.out; have := HDL.out; omega
                have HOL := Lib.hid hOl
                have hx3 : Way (Ed n (fun v => nd (Z v) (L v)) k rev) n (x ^^^ 2 ^ u) (O ++ [(bv, (u : Int))]).reverse G := by
                  rw [List.reverse_append]
                  refine ⟨u, hu1, ?_, by rw [xor_back]; exact Hu5.out, by rw [xor_back]; exact hway.out⟩
                  rw [xor_bit, if_pos rfl, HBV.out, Bool.not_not]
                have HW3 := Lib.hid hx3
                have hb2r : b2 + 1 ≤ wr.heap.size := hnw.out.lt
                have HB2 := Lib.hid hb2r
                clear hbv hdx hOl hx3 hb2r
                obtain ⟨y, hy⟩ : ∃ y, y = x ^^^ 2 ^ u := ⟨_, rfl⟩
                rw [← hy] at hxr
                have HY := Lib.hid hy
                clear hy
                go_wp2_with (first
                  | (at_builtin; refine wpList_append_mv rfl (.tmp 146) (.tmp 154) rfl (B := b2 + 1) (l := O) (m := (bv, (u : Int))) rfl (hown.out.alloc _) (by rw [World.size_alloc]; exact Nat.le_succ_of_le HB2.out) rfl (cells_two _ _ _ _ rfl) HOL.out ?_; intro u9 w9 ho9 hb9; have HO9 := Lib.hid ho9; have HN9 := Lib.hid (nw_block (hnw.out.alloc (.cells #[.bool bv, I u] 49)) (hb9.block _ (Nat.lt_succ_self _))); have HBB9 := Lib.hid ((hB.out.alloc hB.out.size (.cells #[.bool bv, I u] 49)).trans (hb9.mono (by omega))); clear ho9 hb9))
                go_roundg (dep (x ^^^ 2 ^ u))
                case measure => have := HDX.out; omega
                case rel => exact ⟨y, O ++ [(bv, (u : Int))], by rw [HY.out], rfl, by rw [HY.out]; exact Hu3, Lib.hid (by rw [HY.out]; have := HDX.out; have := hlen.out; simp; omega), by rw [HY.out]; exact HW3, Lib.hid (by simpa using HO9.out), HN9, HBB9⟩
          · have HALL : Hid (∀ m, ¬ Rch (Ed n (fun v => nd (Z v) (L v)) k rev) m (2 ^ (n - 1))) := Lib.hid (fun m hm => by
              rcases hfin.out with h | h
              · exact hgoal (hvis.2 (hbf.out.all h hm))
              · exact hgoal h)
            have hneg : decide (fr (2 ^ (n - 1)) < 0) = true := decide_eq_true (by omega)
            have hneg2 : fr (2 ^ (n - 1)) < 0 := by omega
            clear hvis hfin hgoal
            generalize hG : 2 ^ (n - 1) = G at *
            have HGG := Lib.hid hG
            clear hG
            go_wp2
            go_ret2
            exact ⟨[], false, _, .inr ⟨rfl, rfl, fun m hm => HALL.out m (by rw [← HGG.out]; exact hm)⟩, rfl, Pl.nil _, hB.out⟩
end Go.Proofs.Ytihpdmchppcbfaa
