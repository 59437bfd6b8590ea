/- protocol: a conjunction or a disjunction. -/
import Derived.Test.YtpfbommaddaijaaZeJ5
namespace Go.Proofs.Ytpfbommaddaijaa
open Go.RowKit Go.Proofs.YtpfbommaddaijaaW.PrintWords Go.Proofs.YtpfbommaddaijaaW.PrintLast PBoundTo
set_option linter.unusedVariables false
set_option linter.unusedSimpArgs false

theorem c_two5 {w : World} {gk : Nat} {s s' : S32} {ca cb : List Value} (hb : w.heap[gk]? = some (.cells (ca ++ cb).toArray 32 (0, 0))) (hl : ca.length = 5) (hl' : cb.length = 5) (hk : k32.K w s ca) (hk' : k32.K w s' cb) : k32.C w (some ⟨gk, 0, none⟩) [s, s'].length [s, s'] :=
  ⟨rfl, by simp, fun _ => ⟨⟨gk, 0, none⟩, rfl, fun j p hj => by
    have hcell : ∀ i u, (ca ++ cb)[i]? = some u → w.cell? ⟨gk, i, none⟩ = some u := fun i u hu => by
      rw [blk_cell hb i]
      simpa using hu
    have hj2 : j < 2 := by have := (List.getElem?_eq_some_iff.1 hj).1; simpa using this
    have h01 : j = 0 ∨ j = 1 := by omega
    rcases h01 with rfl | rfl
    · simp at hj
      subst hj
      refine ⟨ca, hl, hk, fun i u hu => ?_⟩
      have hi : i < ca.length := (List.getElem?_eq_some_iff.1 hu).1
      show w.cell? ((⟨gk, 0, none⟩ : Addr).add (0 * 5 + i)) = some u
      rw [Addr.add_lit, show 0 + (0 * 5 + i) = i by omega]
      exact hcell i u (by rw [List.getElem?_append_left hi]; exact hu)
    · simp at hj
      subst hj
      refine ⟨cb, hl', hk', fun i u hu => ?_⟩
      have hi : i < cb.length := (List.getElem?_eq_some_iff.1 hu).1
      show w.cell? ((⟨gk, 0, none⟩ : Addr).add (1 * 5 + i)) = some u
      rw [Addr.add_lit, show 0 + (1 * 5 + i) = 5 + i by omega]
      exact hcell (5 + i) u (by rw [List.getElem?_append_right (by omega), hl, show 5 + i - 5 = i by omega]; exact hu)⟩⟩
abbrev pCells (t : Pt) (A3 A4 : Option Addr) (c3 c4 : Nat) : List Value := [.bool t.toS.f0, I t.toS.f1, I t.toS.f2, .slice A3 t.toS.f3.length c3, .slice A4 t.toS.f4.length c4]
theorem pl_two {w : World} {p : Int} {ask : List Bool} {l r : Pt} {gk : Nat} {A3 A4 B3 B4 : Option Addr} {c3 c4 d3 d4 : Nat} (hb : w.heap[gk]? = some (.cells (pCells l A3 A4 c3 c4 ++ pCells r B3 B4 d3 d4).toArray 32 (0, 0))) (hl : ∃ m, PlR m w l.toS.f4 A4) (hr : ∃ m, PlR m w r.toS.f4 B4) : ∃ m, PlR m w (Pt.node p ask l r).toS.f4 (some ⟨gk, 0, none⟩) := by
  obtain ⟨m1, h1⟩ := hl
  obtain ⟨m2, h2⟩ := hr
  refine ⟨max m1 m2 + 1, ?_⟩
  rw [Pt.toS]
  intro i hi
  have h01 : i = 0 ∨ i = 1 := by simp at hi; omega
  rcases h01 with rfl | rfl
  · exact ⟨⟨gk, 0, none⟩, A3, c3, A4, c4, rfl, ⟨_, _, hb⟩, (blk_cell hb 0).trans rfl, (blk_cell hb 1).trans rfl, (blk_cell hb 2).trans rfl, (blk_cell hb 3).trans rfl, (blk_cell hb 4).trans rfl, h1.up (Nat.le_max_left _ _)⟩
  · exact ⟨⟨gk, 0, none⟩, B3, d3, B4, d4, rfl, ⟨_, _, hb⟩, (blk_cell hb 5).trans rfl, (blk_cell hb 6).trans rfl, (blk_cell hb 7).trans rfl, (blk_cell hb 8).trans rfl, (blk_cell hb 9).trans rfl, h2.up (Nat.le_max_right _ _)⟩
/-- a node's rows out of its kids' -/
theorem po_node {w : World} {p : Int} {ask : List Bool} {l r : Pt} {ga gk N : Nat} {A3 A4 B3 B4 : Option Addr} {c3 c4 d3 d4 : Nat} (hN : ask.length = N) (h64 : N ≤ 4096) (hr : w.rowIs ga 4 N (fun i => .bool (ask.getD i false))) (hb : w.heap[gk]? = some (.cells (pCells l A3 A4 c3 c4 ++ pCells r B3 B4 d3 d4).toArray 32 (0, 0))) (hl : Po w l A3 A4 c3 c4) (hr' : Po w r B3 B4 d3 d4) : Po w (.node p ask l r) (some ⟨ga, 0, none⟩) (some ⟨gk, 0, none⟩) N 2 := by
  refine ⟨⟨rfl, by rw [Pt.toS]; show ask.length ≤ _; omega, fun h => ⟨_, rfl, fun j q hj => ⟨[.bool q], rfl, rfl, fun i u hu => ?_⟩⟩⟩, by rw [Pt.toS]; show ask.length ≤ N; omega, c_two5 hb rfl rfl (k32_mk w l.toS hl.la hl.a hl.lk hl.k) (k32_mk w r.toS hr'.la hr'.a hr'.lk hr'.k), Nat.le_refl _, pl_two hb hl.pl hr'.pl⟩
  have hj' : ask[j]? = some q := hj
  obtain ⟨hlt, he⟩ := List.getElem?_eq_some_iff.1 hj'
  cases i with
  | zero =>
    simp at hu
    subst hu
    show w.cell? ((⟨ga, 0, none⟩ : Addr).add (j * 1 + 0)) = some (.bool q)
    rw [Addr.add_lit, show 0 + (j * 1 + 0) = j by omega, hr.cell (by omega), show ask.getD j false = q by simp [List.getD, hj']]
  | succ i => simp at hu
theorem Po.keep {w w' : World} {t : Pt} {A3 A4 : Option Addr} {c3 c4 : Nat} (h : Po w t A3 A4 c3 c4) (hb : Below w.heap.size w w') : Po w' t A3 A4 c3 c4 := ⟨Kd.C_below h.a hb, h.la, Kd.C_below h.k hb, h.lk, by obtain ⟨m, hm⟩ := h.pl; exact ⟨m, hm.keep hb⟩⟩
/-- what lies about when the node's table is filled -/
structure Bn (w w6 wr : World) (g1 ga gp gk N : Nat) (cs : Array Value) (pl : Int) : Prop where
  pb : wr.heap[gp]? = some (.cells #[.bool false, I 0, I pl, .slice (some ⟨ga, 0, none⟩) N N, .slice (some ⟨gk, 0, none⟩) 2 2] 32 (0, 0))
  kb : wr.heap[gk]? = some (.cells cs 32 (0, 0))
  keep : ∀ k, k < w6.heap.size → k ≠ g1 → wr.heap[k]? = w6.heap[k]?
  sz : w6.heap.size ≤ wr.heap.size
  bel : Below w.heap.size w wr
  np : w6.heap.size ≤ gp
  na : w6.heap.size ≤ ga
  nk : w6.heap.size ≤ gk
  n1 : gp ≠ ga
  n2 : gp ≠ gk
  n3 : ga ≠ gk
theorem Bn.set1 {w w6 wr : World} {g1 ga gp gk N : Nat} {cs : Array Value} {pl : Int} (h : Bn w w6 wr g1 ga gp gk N cs pl) (h1 : w.heap.size ≤ g1) (h2 : g1 < w6.heap.size) (i : Nat) (v : Value) : Bn w w6 (wr.setCell ⟨g1, i, none⟩ v) g1 ga gp gk N cs pl :=
  ⟨(Below.heap_setCell _ ⟨g1, i, none⟩ v gp (by have := h.np; show gp ≠ g1; omega)).trans h.pb, (Below.heap_setCell _ ⟨g1, i, none⟩ v gk (by have := h.nk; show gk ≠ g1; omega)).trans h.kb, fun k q1 q2 => (Below.heap_setCell _ ⟨g1, i, none⟩ v k q2).trans (h.keep k q1 q2), by rw [Deep.nblk_setCell]; exact h.sz, below_set h.bel h1, h.np, h.na, h.nk, h.n1, h.n2, h.n3⟩
theorem Bn.seta {w w6 wr : World} {g1 ga gp gk N : Nat} {cs : Array Value} {pl : Int} (h : Bn w w6 wr g1 ga gp gk N cs pl) (h1 : w.heap.size ≤ w6.heap.size) (i : Nat) (v : Value) : Bn w w6 (wr.setCell ⟨ga, i, none⟩ v) g1 ga gp gk N cs pl :=
  ⟨(Below.heap_setCell _ ⟨ga, i, none⟩ v gp h.n1).trans h.pb, (Below.heap_setCell _ ⟨ga, i, none⟩ v gk (fun e => h.n3 e.symm)).trans h.kb, fun k q1 q2 => (Below.heap_setCell _ ⟨ga, i, none⟩ v k (by have := h.na; show k ≠ ga; omega)).trans (h.keep k q1 q2), by rw [Deep.nblk_setCell]; exact h.sz, below_set h.bel (by have := h.na; omega), h.np, h.na, h.nk, h.n1, h.n2, h.n3⟩
theorem Bn.player {w w6 wr : World} {g1 ga gp gk N : Nat} {cs : Array Value} {pl : Int} (h : Bn w w6 wr g1 ga gp gk N cs pl) (h1 : w.heap.size ≤ w6.heap.size) (v : Int) : Bn w w6 (wr.setCell ⟨gp, 2, none⟩ (I v)) g1 ga gp gk N cs v :=
  ⟨blk_set h.pb 2 (I v), (Below.heap_setCell _ ⟨gp, 2, none⟩ (I v) gk (fun e => h.n2 e.symm)).trans h.kb, fun k q1 q2 => (Below.heap_setCell _ ⟨gp, 2, none⟩ (I v) k (by have := h.np; show k ≠ gp; omega)).trans (h.keep k q1 q2), by rw [Deep.nblk_setCell]; exact h.sz, below_set h.bel (by have := h.np; omega), h.np, h.na, h.nk, h.n1, h.n2, h.n3⟩
theorem made_row {w' : World} {b N : Nat} (h : w'.heap[b]? = some (.cells (madeCells #[Value.bool false] N) 4 (0, 0))) : w'.rowIs b 4 N (fun _ => .bool false) := by
  have e : (w'.alloc (.cells (madeCells #[Value.bool false] N) 4)).heap[w'.heap.size]? = some (.cells (madeCells #[Value.bool false] N) 4 (0, 0)) := blk_new _ _
  have h1 := World.rowIs_made w' (.bool false) N 4
  unfold World.rowIs at h1 ⊢
  rw [e] at h1
  rw [h]
  exact h1
theorem three_blocks (w6 : World) (o1 o2 o3 : Obj) : ((((w6.alloc o1).alloc o2).alloc o3).drew).heap[w6.heap.size]? = some o1 ∧ ((((w6.alloc o1).alloc o2).alloc o3).drew).heap[w6.heap.size + 1]? = some o2 ∧ ((((w6.alloc o1).alloc o2).alloc o3).drew).heap[w6.heap.size + 1 + 1]? = some o3 ∧ Below w6.heap.size w6 ((((w6.alloc o1).alloc o2).alloc o3).drew) := by
  have s1 : (w6.alloc o1).heap.size = w6.heap.size + 1 := World.size_alloc _ _
  have s2 : ((w6.alloc o1).alloc o2).heap.size = w6.heap.size + 1 + 1 := by rw [World.size_alloc, s1]
  refine ⟨blk_drew (blk_alloc (blk_alloc (blk_new w6 o1) o2) o3), blk_drew (blk_alloc (by rw [← s1]; exact blk_new _ o2) o3), blk_drew (by rw [← s2]; exact blk_new _ o3), ((((Below.refl _ _).alloc (Nat.le_refl _) _).alloc (by rw [s1]; omega) _).alloc (by rw [s2]; omega) _).drew⟩
theorem bn_make {w w6 wr : World} {g1 ga gp gk N : Nat} {cs : Array Value} (hb : Below w.heap.size w w6) (h : Below w6.heap.size w6 wr) (hp : wr.heap[gp]? = some (.cells #[.bool false, I 0, I 0, .slice (some ⟨ga, 0, none⟩) N N, .slice (some ⟨gk, 0, none⟩) 2 2] 32 (0, 0))) (hk : wr.heap[gk]? = some (.cells cs 32 (0, 0))) (np : w6.heap.size ≤ gp) (na : w6.heap.size ≤ ga) (nk : w6.heap.size ≤ gk) (n1 : gp ≠ ga) (n2 : gp ≠ gk) (n3 : ga ≠ gk) : Bn w w6 wr g1 ga gp gk N cs 0 :=
  ⟨hp, hk, fun k h1 _ => h.block k h1, h.size, hb.trans (h.mono hb.size), np, na, nk, n1, n2, n3⟩
set_option maxHeartbeats 1000000 in
/-- what the walk of a node ends with is what protocol answers -/
theorem node_end {w W w3 w4 w5 w6 wr : World} {N g1 g2 gp ga gk gx gy : Nat} {k : Int} {neg : Bool} {pl : Int} {q1 q2 : Pt} {f g op : Nat → Bool} {A3 A4 B3 B4 : Option Addr} {c3 c4 e3 e4 : Nat}
    (hpl : (if ork k neg = true then (0 : Int) else 1) = pl) (h64 : N ≤ 4096) (hsz : W.heap.size = w.heap.size + 2) (hnum : w.heap.size + 2 ≤ g1 ∧ g1 < gx ∧ gx < g2 ∧ g2 < gy ∧ gy < w6.heap.size)
    (hb : Bn w w6 wr g1 ga gp gk N #[.bool q1.toS.f0, I q1.toS.f1, I q1.toS.f2, .slice A3 q1.toS.f3.length c3, .slice A4 q1.toS.f4.length c4, .bool q2.toS.f0, I q2.toS.f1, I q2.toS.f2, .slice B3 q2.toS.f3.length e3, .slice B4 q2.toS.f4.length e4] pl)
    (h1 : wr.rowIs g1 4 N (fun u => .bool (op u))) (ha : wr.rowIs ga 4 N (fun u => .bool ((f u != neg) != ork k neg))) (hp1 : PoS W.heap.size w3.heap.size g1 w3 q1 A3 A4 c3 c4) (hp2 : PoS w4.heap.size w5.heap.size g2 w5 q2 B3 B4 e3 e4)
    (hW3 : Below W.heap.size W w3) (h34 : Below w3.heap.size w3 w4) (h56 : Below w5.heap.size w5 w6) (hgx : gx = w3.heap.size) (hgy : gy = w5.heap.size) (hx : gx < w4.heap.size) (h46 : Below w4.heap.size w4 w6)
    (hbf : Below w.heap.size w (((((wr.setCell ⟨w.heap.size + 1, 0, none⟩ (.bool false)).setCell ⟨w.heap.size + 1, 1, none⟩ (I 0)).setCell ⟨w.heap.size + 1, 2, none⟩ (I pl)).setCell ⟨w.heap.size + 1, 3, none⟩ (.slice (some ⟨ga, 0, none⟩) N N)).setCell ⟨w.heap.size + 1, 4, none⟩ (.slice (some ⟨gk, 0, none⟩) 2 2))) :
    PrR w N (.node (if ork k neg = true then 0 else 1) ((List.range N).map fun i => (f i != neg) != ork k neg) q1 q2) op (.returned (.tuple #[.agg #[.bool false, I 0, I pl, .slice (some ⟨ga, 0, none⟩) N N, .slice (some ⟨gk, 0, none⟩) 2 2], .slice (some ⟨g1, 0, none⟩) N N])) (((((wr.setCell ⟨w.heap.size + 1, 0, none⟩ (.bool false)).setCell ⟨w.heap.size + 1, 1, none⟩ (I 0)).setCell ⟨w.heap.size + 1, 2, none⟩ (I pl)).setCell ⟨w.heap.size + 1, 3, none⟩ (.slice (some ⟨ga, 0, none⟩) N N)).setCell ⟨w.heap.size + 1, 4, none⟩ (.slice (some ⟨gk, 0, none⟩) 2 2)) := by
  have na := hb.na
  have nk := hb.nk
  have n3 := hb.n3
  rw [hpl]
  refine ⟨some ⟨ga, 0, none⟩, N, some ⟨gk, 0, none⟩, 2, g1, by simp [pAgg, Pt.toS], row_far5 h1 (by omega), by omega, fun w' hw' => ?_, hbf⟩
  have hlt : ∀ k, k < w6.heap.size → k < wr.heap.size := fun k h => Nat.lt_of_lt_of_le h hb.sz
  have hwr : ∀ k, w.heap.size ≤ k → k < wr.heap.size → k ≠ g1 → k ≠ w.heap.size + 1 → w'.heap[k]? = wr.heap[k]? := fun k q1 q2 q3 q4 => (hw' k q1 (by rw [put5_size]; exact q2) q3).trans (put5_block _ _ _ _ _ _ _ k q4)
  have hga : ga < wr.heap.size := ha.lt
  have hgk : gk < wr.heap.size := (Array.getElem?_eq_some_iff.1 hb.kb).1
  have z1 := h34.size
  have z2 := h46.size
  have z3 := h56.size
  have z4 := hW3.size
  refine po_node (by simp) h64 ?_ ((hwr gk (by omega) hgk (by omega) (by omega)).trans hb.kb) (hp1 w' fun k a1 a2 a3 => ?_) (hp2 w' fun k a1 a2 a3 => ?_)
  · refine (ha.of_block (hwr ga (by omega) hga (by omega) (by omega))).congr fun u hu => ?_
    rw [List.getD_eq_getElem?_getD, List.getElem?_map, List.getElem?_range hu]; rfl
  · exact ((hwr k (by omega) (hlt k (by omega)) a3 (by omega)).trans (hb.keep k (by omega) a3)).trans ((h46.block k (by omega)).trans (h34.block k a2))
  · exact ((hwr k (by omega) (hlt k (by omega)) (by omega) (by omega)).trans (hb.keep k (by omega) (by omega))).trans (h56.block k a2)
end Go.Proofs.Ytpfbommaddaijaa

