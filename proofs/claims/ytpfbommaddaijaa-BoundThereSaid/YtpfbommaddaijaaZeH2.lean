/- lists and split, walked by hand. -/
import Derived.Test.YtpfbommaddaijaaZePa
namespace Go.Proofs.Ytpfbommaddaijaa
open Go.RowKit Go.Proofs.YtpfbommaddaijaaW.PrintWords Go.Proofs.YtpfbommaddaijaaW.PrintLast PBoundTo
set_option linter.unusedVariables false
set_option linter.unusedSimpArgs false

/-- two growing lists of a call's own -/
structure Tw (W wr : World) (v u : Value) (p q : List Int) : Prop where
  p : wr.ownsRow W.heap.size 3 1 v p.length (nums .i64 p)
  q : wr.ownsRow W.heap.size 3 1 u q.length (nums .i64 q)
  b : Below W.heap.size W wr
  ne : ∀ k, v.ownBlock = some k → u.ownBlock = some k → False
theorem own_block_lt {w : World} {base n : Nat} {v : Value} {xs : List Value} (h : w.ownsRow base 3 1 v n xs) {k : Nat} (hk : v.ownBlock = some k) : k < w.heap.size := by
  rcases h.2 with ⟨rfl, _⟩ | ⟨g, cap, cur, rfl, _, hh, _⟩
  · simp [Value.ownBlock] at hk
  · have : g = k := by simpa [Value.ownBlock] using hk
    subst this
    exact (Array.getElem?_eq_some_iff.1 hh).1
theorem Tw.start (W : World) : Tw W W (.slice none 0 0) (.slice none 0 0) [] [] := ⟨own_nil _ _ _ _, own_nil _ _ _ _, Below.refl _ _, fun k h _ => by simp [Value.ownBlock] at h⟩
theorem Tw.left {W wr w1 : World} {v u v1 : Value} {p q : List Int} {y : Int} (h : Tw W wr v u p q) (ho : w1.ownsRow W.heap.size 3 1 v1 (p ++ [y]).length (nums .i64 (p ++ [y]))) (hb : Below W.heap.size W w1) (hg : wr.grownBy w1 v.ownBlock) (ha : v1.ownBlock = v.ownBlock ∨ ∃ b, v1.ownBlock = some b ∧ wr.heap.size ≤ b) : Tw W w1 v1 u (p ++ [y]) q := by
  refine ⟨ho, own_move h.q (fun k hk => hg.block k (own_block_lt h.q hk) (fun e => h.ne k e.symm hk)), hb, fun k h1 h2 => ?_⟩
  rcases ha with ha | ⟨b, ha, hlt⟩
  · exact h.ne k (by rw [← ha]; exact h1) h2
  · have := own_block_lt h.q h2
    rw [h1] at ha
    injection ha with ha
    omega
theorem Tw.swap {W wr : World} {v u : Value} {p q : List Int} (h : Tw W wr v u p q) : Tw W wr u v q p := ⟨h.q, h.p, h.b, fun k h1 h2 => h.ne k h2 h1⟩
theorem C_of_reads {w : World} {A : Option Addr} {n : Nat} {xs : List Int} (h : ReadsInt w .i64 A n xs) : Kd.C (Kd.int .i64) w A n xs := by
  obtain ⟨h1, h2, h3⟩ := h
  refine ⟨h1, h2, fun hn => ?_⟩
  obtain ⟨ad, e, hc⟩ := h3 hn
  refine ⟨ad, e, fun j p hj => ⟨[I p], rfl, rfl, fun i u hu => ?_⟩⟩
  obtain ⟨hlt, he⟩ := List.getElem?_eq_some_iff.1 hj
  have := hc j (by omega)
  cases i with
  | zero =>
    simp at hu
    subst hu
    rw [show List.getD xs j 0 = p by simp [List.getD, hj]] at this
    show w.cell? (ad.add (j * 1 + 0)) = some (I p)
    rw [Nat.mul_one, Nat.add_zero]
    exact this
  | succ i => simp at hu
theorem Tw.ends {W wr : World} {v u : Value} {p q : List Int} (h : Tw W wr v u p q) : ∃ A B c d, v = .slice A p.length c ∧ u = .slice B q.length d ∧ Kd.C (Kd.int .i64) wr A p.length p ∧ Kd.C (Kd.int .i64) wr B q.length q ∧ p.length ≤ c ∧ q.length ≤ d := by
  obtain ⟨A, c, rfl, h1⟩ := own_reads h.p
  obtain ⟨B, d, rfl, h2⟩ := own_reads h.q
  have l1 : p.length ≤ c := by
    rcases h.p.2 with ⟨e, h0⟩ | ⟨g, cap, cur, e, _, _, hle, _⟩
    · injection e with e1 e2 e3; omega
    · injection e with e1 e2 e3; omega
  have l2 : q.length ≤ d := by
    rcases h.q.2 with ⟨e, h0⟩ | ⟨g, cap, cur, e, _, _, hle, _⟩
    · injection e with e1 e2 e3; omega
    · injection e with e1 e2 e3; omega
  exact ⟨A, B, c, d, rfl, rfl, C_of_reads h1, C_of_reads h2, l1, l2⟩
def ons (l : List Bool) : Nat → Nat → List Int
  | _, 0 => []
  | i, j + 1 => if l.getD i false = true then (i : Int) :: ons l (i + 1) j else ons l (i + 1) j
def zrs (l : List Bool) : Nat → Nat → List Int
  | _, 0 => []
  | i, j + 1 => if l.getD i false = true then zrs l (i + 1) j else (i : Int) :: zrs l (i + 1) j
def zs (ask : List Bool) (xs : List Int) : List Int := xs.filter fun x => !ask.getD x.toNat false
def os (ask : List Bool) (xs : List Int) : List Int := xs.filter fun x => ask.getD x.toNat false
def Two (W : World) (p q : List Int) (e : Ending) (w' : World) : Prop := ∃ A B c d, e = .returned (.tuple #[.slice A p.length c, .slice B q.length d]) ∧ Kd.C (Kd.int .i64) w' A p.length p ∧ Kd.C (Kd.int .i64) w' B q.length q ∧ p.length ≤ c ∧ q.length ≤ d ∧ Below W.heap.size W w'
set_option maxHeartbeats 8000000 in
set_option maxRecDepth 100000 in
theorem lists_any {W : World} {A : Option Addr} {c : Nat} {l : List Bool} (h : Kd.C Kd.bool W A l.length l) (hc : l.length ≤ c) (hl : l.length ≤ 8192) : Calls Try.prog 134 #[.slice A l.length c] W (Two W (ons l 0 l.length) (zrs l 0 l.length)) := by
  have HC := Lib.hid h
  have HL := Lib.hid hl
  clear h hc hl
  go_enter Try.func134, Try.ntmps134
  go_wp2
  go_loopw [2, 3, 8] (fun v u y wr => ∃ i p q, i ≤ l.length ∧ y = I i ∧ Hid (Tw W wr v u p q) ∧ Hid (p ++ ons l i (l.length - i) = ons l 0 l.length ∧ q ++ zrs l i (l.length - i) = zrs l 0 l.length ∧ p.length ≤ i ∧ q.length ≤ i)) (fun _ _ y _ => l.length - (intOf y).toNat)
  case atStart => exact ⟨0, [], [], Nat.zero_le _, rfl, Lib.hid (Tw.start W), Lib.hid ⟨by simp, by simp, by simp, by simp⟩⟩
  case round =>
    obtain ⟨i, p, q, hi, rfl, HT, HE⟩ := hrel
    by_cases hin : i < l.length
    · have hBW := HT.out.b
      obtain ⟨ad, rfl, x0⟩ := Kd.at_bool HC.out (i : Int) (by omega) (by omega)
      simp only [Int.toNat_natCast] at x0
      replace x0 := cell_keep' hBW x0
      have hr : rdOf false l (i : Int) = l.getD i false := by simp only [rdOf, Int.toNat_natCast]
      rw [hr] at x0
      have hwi : wrap64 ((i : Int) + 1) = ((i + 1 : Nat) : Int) := wr_lt hin (by have := HL.out; omega)
      have h0i : (0 : Int) ≤ i := by omega
      have h1i : (i : Int) < l.length := by omega
      have HIN := Lib.hid hin
      have HBW := Lib.hid hBW
      have hsz : W.heap.size ≤ wr.heap.size := hBW.size
      have HSZ := Lib.hid hsz
      obtain ⟨e1, e2, e3, e4⟩ := HE.out
      have hsub : l.length - i = (l.length - (i + 1)) + 1 := by omega
      rw [hsub, ons] at e1
      rw [hsub, zrs] at e2
      have HL3 : Hid (p.length ≤ i) := Lib.hid e3
      have HL4 : Hid (q.length ≤ i) := Lib.hid e4
      clear hr hsub e3 e4 hBW hsz
      cases hb : l.getD i false with
      | true =>
        rw [hb] at x0
        rw [if_pos hb] at e1 e2
        have E1 := Lib.hid e1
        have E2 := Lib.hid e2
        clear e1 e2 hb
        go_wp2_with (at_builtin; refine print_append_num (w0 := W) W.heap.size rfl (.tmp 14) (.tmp 16) 52 3 .i64 8 rfl Try.underlying52 (by kernel_rfl) (by decide) _ p (i : Int) rfl rfl HT.out.p HBW.out HSZ.out (by have := HL.out; have := HL3.out; have := HIN.out; omega) ?_; intro v1 w1 ho1 hb1 hg1 ha1; have HT1 := Lib.hid (HT.out.left ho1 hb1 hg1 ha1); clear ho1 hb1 hg1 ha1)
        go_roundw
        case rel => exact ⟨i + 1, p ++ [(i : Int)], q, HIN.out, by rw [hwi], HT1, Lib.hid ⟨by rw [List.append_assoc]; exact E1.out, E2.out, by simp; exact HL3.out, by have := HL4.out; omega⟩⟩
        case measure => exact meas hwi HIN.out
      | false =>
        rw [hb] at x0
        rw [if_neg (by rw [hb]; decide)] at e1 e2
        have E1 := Lib.hid e1
        have E2 := Lib.hid e2
        clear e1 e2 hb
        go_wp2_with (at_builtin; refine print_append_num (w0 := W) W.heap.size rfl (.tmp 18) (.tmp 20) 52 3 .i64 8 rfl Try.underlying52 (by kernel_rfl) (by decide) _ q (i : Int) rfl rfl HT.out.q HBW.out HSZ.out (by have := HL.out; have := HL4.out; have := HIN.out; omega) ?_; intro v1 w1 ho1 hb1 hg1 ha1; have HT1 := Lib.hid (HT.out.swap.left ho1 hb1 hg1 ha1).swap; clear ho1 hb1 hg1 ha1)
        go_roundw
        case rel => exact ⟨i + 1, p, q ++ [(i : Int)], HIN.out, by rw [hwi], HT1, Lib.hid ⟨E1.out, by rw [List.append_assoc]; exact E2.out, by have := HL3.out; omega, by simp; exact HL4.out⟩⟩
        case measure => exact meas hwi HIN.out
    · obtain rfl : i = l.length := by omega
      obtain ⟨e1, e2, _, _⟩ := HE.out
      rw [Nat.sub_self, ons, List.append_nil] at e1
      rw [Nat.sub_self, zrs, List.append_nil] at e2
      have E1 := Lib.hid e1
      have E2 := Lib.hid e2
      clear e1 e2 
      go_wp2
      go_ret2
      unfold Two
      obtain ⟨A', B', c', d', rfl, rfl, c1, c2, l1, l2⟩ := HT.out.ends
      rw [← E1.out, ← E2.out]
      exact ⟨A', B', c', d', rfl, c1, c2, l1, l2, HT.out.b⟩
set_option maxHeartbeats 8000000 in
set_option maxRecDepth 100000 in
theorem split_any {W : World} {A B : Option Addr} {c d : Nat} {ask : List Bool} {xs : List Int} (h : Kd.C (Kd.int .i64) W A xs.length xs) (hc : xs.length ≤ c) (h' : Kd.C Kd.bool W B ask.length ask) (hd : ask.length ≤ d) (hl : xs.length ≤ 8192) (hx : ∀ x ∈ xs, 0 ≤ x ∧ x < ask.length) : Calls Try.prog 150 #[.slice A xs.length c, .slice B ask.length d] W (Two W (zs ask xs) (os ask xs)) := by
  have HC := Lib.hid h
  have HA := Lib.hid h'
  have HL := Lib.hid hl
  have HX := Lib.hid hx
  clear h hc hl h' hd hx
  go_enter Try.func150, Try.ntmps150
  go_wp2
  go_loopw [6, 7, 12] (fun v u y wr => ∃ i p q, i ≤ xs.length ∧ y = I i ∧ Hid (Tw W wr v u p q) ∧ Hid (p ++ zs ask (xs.drop i) = zs ask xs ∧ q ++ os ask (xs.drop i) = os ask xs ∧ p.length ≤ i ∧ q.length ≤ i)) (fun _ _ y _ => xs.length - (intOf y).toNat)
  case atStart => exact ⟨0, [], [], Nat.zero_le _, rfl, Lib.hid (Tw.start W), Lib.hid ⟨by simp, by simp, by simp, by simp⟩⟩
  case round =>
    obtain ⟨i, p, q, hi, rfl, HT, HE⟩ := hrel
    by_cases hin : i < xs.length
    · have hBW := HT.out.b
      obtain ⟨ad, rfl, x0⟩ := Kd.at_int HC.out (i : Int) (by omega) (by omega)
      simp only [Int.toNat_natCast] at x0
      replace x0 := cell_keep' hBW x0
      obtain ⟨z, hz⟩ : ∃ z, z = rd xs (i : Int) := ⟨_, rfl⟩
      rw [← hz] at x0
      have hz2 : z = xs[i] := by rw [hz]; simp [rd, List.getD, hin]
      have hdr : xs.drop i = z :: xs.drop (i + 1) := by rw [hz2]; exact List.drop_eq_getElem_cons hin
      obtain ⟨z0, z1⟩ := HX.out z (by rw [hz2]; exact List.getElem_mem hin)
      obtain ⟨bd, rfl, y0⟩ := Kd.at_bool HA.out z z0 z1
      replace y0 := cell_keep' hBW y0
      have hr : rdOf false ask z = ask.getD z.toNat false := rfl
      rw [hr] at y0
      have hwi : wrap64 ((i : Int) + 1) = ((i + 1 : Nat) : Int) := wr_lt hin (by have := HL.out; omega)
      have h0i : (0 : Int) ≤ i := by omega
      have h1i : (i : Int) < xs.length := by omega
      have HIN := Lib.hid hin
      have HBW := Lib.hid hBW
      have hsz : W.heap.size ≤ wr.heap.size := hBW.size
      have HSZ := Lib.hid hsz
      obtain ⟨e1, e2, e3, e4⟩ := HE.out
      have HE1 := Lib.hid e1
      have HE2 := Lib.hid e2
      have HL3 : Hid (p.length ≤ i) := Lib.hid e3
      have HL4 : Hid (q.length ≤ i) := Lib.hid e4
      clear hr e1 e2 e3 e4 hBW hsz hz hz2
      cases hb : ask.getD z.toNat false with
      | true =>
        rw [hb] at y0
        have e1 : zs ask (z :: xs.drop (i + 1)) = zs ask (xs.drop (i + 1)) := by unfold zs; rw [List.filter_cons_of_neg (by rw [hb]; decide)]
        have e2 : os ask (z :: xs.drop (i + 1)) = z :: os ask (xs.drop (i + 1)) := List.filter_cons_of_pos (p := fun x : Int => ask.getD x.toNat false) hb
        have E1 : Hid (p ++ zs ask (xs.drop (i + 1)) = zs ask xs) := Lib.hid (by rw [← HE1.out, hdr, e1])
        have E2 : Hid (q ++ z :: os ask (xs.drop (i + 1)) = os ask xs) := Lib.hid (by rw [← HE2.out, hdr, e2])
        clear e1 e2 hb hdr
        go_wp2_with (at_builtin; refine print_append_num (w0 := W) W.heap.size rfl (.tmp 20) (.tmp 22) 52 3 .i64 8 rfl Try.underlying52 (by kernel_rfl) (by decide) _ q z rfl rfl HT.out.q HBW.out HSZ.out (by have := HL.out; have := HL4.out; have := HIN.out; omega) ?_; intro v1 w1 ho1 hb1 hg1 ha1; have HT1 := Lib.hid ((HT.out.swap.left ho1 hb1 hg1 ha1).swap); clear ho1 hb1 hg1 ha1)
        go_roundw
        case rel => exact ⟨i + 1, p, q ++ [z], HIN.out, by rw [hwi], HT1, Lib.hid ⟨E1.out, by rw [List.append_assoc]; exact E2.out, by have := HL3.out; omega, by simp; exact HL4.out⟩⟩
        case measure => exact meas hwi HIN.out
      | false =>
        rw [hb] at y0
        have e1 : zs ask (z :: xs.drop (i + 1)) = z :: zs ask (xs.drop (i + 1)) := by unfold zs; rw [List.filter_cons_of_pos (by rw [hb]; rfl)]
        have e2 : os ask (z :: xs.drop (i + 1)) = os ask (xs.drop (i + 1)) := List.filter_cons_of_neg (p := fun x : Int => ask.getD x.toNat false) (by rw [hb]; decide)
        have E1 : Hid (p ++ z :: zs ask (xs.drop (i + 1)) = zs ask xs) := Lib.hid (by rw [← HE1.out, hdr, e1])
        have E2 : Hid (q ++ os ask (xs.drop (i + 1)) = os ask xs) := Lib.hid (by rw [← HE2.out, hdr, e2])
        clear e1 e2 hb hdr
        go_wp2_with (at_builtin; refine print_append_num (w0 := W) W.heap.size rfl (.tmp 24) (.tmp 26) 52 3 .i64 8 rfl Try.underlying52 (by kernel_rfl) (by decide) _ p z rfl rfl HT.out.p HBW.out HSZ.out (by have := HL.out; have := HL3.out; have := HIN.out; omega) ?_; intro v1 w1 ho1 hb1 hg1 ha1; have HT1 := Lib.hid (HT.out.left ho1 hb1 hg1 ha1); clear ho1 hb1 hg1 ha1)
        go_roundw
        case rel => exact ⟨i + 1, p ++ [z], q, HIN.out, by rw [hwi], HT1, Lib.hid ⟨by rw [List.append_assoc]; exact E1.out, E2.out, by simp; exact HL3.out, by have := HL4.out; omega⟩⟩
        case measure => exact meas hwi HIN.out
    · obtain rfl : i = xs.length := by omega
      obtain ⟨e1, e2, _, _⟩ := HE.out
      rw [List.drop_length, show zs ask [] = [] from rfl, List.append_nil] at e1
      rw [List.drop_length, show os ask [] = [] from rfl, List.append_nil] at e2
      have E1 := Lib.hid e1
      have E2 := Lib.hid e2
      clear e1 e2
      go_wp2
      go_ret2
      unfold Two
      obtain ⟨A', B', c', d', rfl, rfl, c1, c2, l1, l2⟩ := HT.out.ends
      rw [← E1.out, ← E2.out]
      exact ⟨A', B', c', d', rfl, c1, c2, l1, l2, HT.out.b⟩
end Go.Proofs.Ytpfbommaddaijaa

