/- The walk of layer 27: truth. -/
import Derived.Test.YtkikkplpalabhaaWk5
import Derived.Test.YtkikkplpalabhaaWk6
namespace Go.Proofs.Ytkikkplpalabhaa
open Go.RowKit

/-- The boxes of truth's four arguments. -/
structure TBox (w w0 : World) (A1 A2 : Option Addr) (n1 c1 n2 c2 : Nat) (op m : Int) : Prop where
  bel : Below w.heap.size w w0
  lb : LBox w0 w.heap.size A1 A2 n1 c1 n2 c2
  sz : w.heap.size + 1 + 1 + 1 < w0.heap.size
  x0 : w0.cell? ⟨w.heap.size + 1, 0, none⟩ = some (.int .i64 op)
  x1 : w0.cell? ⟨w.heap.size + 1, 1, none⟩ = some (.int .i64 m)
theorem tbox (w : World) (A1 A2 Aa Ab : Option Addr) (n1 c1 n2 c2 na ca nb cb : Nat) (op m : Int) : ∃ w0, w0 = (((w.alloc (.cells #[.slice A1 n1 c1, .slice A2 n2 c2, .int .i64 ((n1 + n2 : Nat) : Int), .int .i64 (n1 : Int)] 72)).alloc (.cells #[.int .i64 op, .int .i64 m] 42)).alloc (.cells #[.slice Aa na ca] 50)).alloc (.cells #[.slice Ab nb cb] 50) ∧
    TBox w w0 A1 A2 n1 c1 n2 c2 op m ∧ w0.cell? ⟨w.heap.size + 1 + 1, 0, none⟩ = some (.slice Aa na ca) ∧ w0.cell? ⟨w.heap.size + 1 + 1 + 1, 0, none⟩ = some (.slice Ab nb cb) := by
  obtain ⟨u1, hu1, hb1, hz1, y0, y1, y2, y3⟩ := lasso_box w A1 A2 n1 c1 n2 c2
  obtain ⟨u2, hu2⟩ : ∃ u2, u2 = u1.alloc (.cells #[.int .i64 op, .int .i64 m] 42) := ⟨_, rfl⟩
  obtain ⟨u3, hu3⟩ : ∃ u3, u3 = u2.alloc (.cells #[.slice Aa na ca] 50) := ⟨_, rfl⟩
  obtain ⟨u4, hu4⟩ : ∃ u4, u4 = u3.alloc (.cells #[.slice Ab nb cb] 50) := ⟨_, rfl⟩
  have z2 : u2.heap.size = u1.heap.size + 1 := by rw [hu2]; simp
  have z3 : u3.heap.size = u2.heap.size + 1 := by rw [hu3]; simp
  have z4 : u4.heap.size = u3.heap.size + 1 := by rw [hu4]; simp
  have b2 : Below u1.heap.size u1 u2 := by rw [hu2]; exact (Below.refl _ _).alloc (Nat.le_refl _) _
  have b3 : Below u2.heap.size u2 u3 := by rw [hu3]; exact (Below.refl _ _).alloc (Nat.le_refl _) _
  have b4 : Below u3.heap.size u3 u4 := by rw [hu4]; exact (Below.refl _ _).alloc (Nat.le_refl _) _
  have b24 : Below u2.heap.size u2 u4 := b3.trans (b4.mono b3.size)
  have b14 : Below u1.heap.size u1 u4 := b2.trans (b24.mono b2.size)
  have c2 := heap_alloc_new u1 (.cells #[.int .i64 op, .int .i64 m] 42)
  have c3 := heap_alloc_new u2 (.cells #[.slice Aa na ca] 50)
  have c4 := heap_alloc_new u3 (.cells #[.slice Ab nb cb] 50)
  rw [← hu2, hz1] at c2
  rw [← hu3, z2, hz1] at c3
  rw [← hu4, z3, z2, hz1] at c4
  refine ⟨u4, by rw [hu4, hu3, hu2, hu1], ⟨hb1.trans (b14.mono hb1.size), LBox.below (w := u1) ⟨by omega, y0, y1, y2, y3⟩ b14, by omega, ?_, ?_⟩, ?_, ?_⟩
  · exact (b24.cell (p := ⟨w.heap.size + 1, 0, none⟩) (show w.heap.size + 1 < u2.heap.size by omega)).trans (by rw [cell_of_row _ _ _ _ _ (0, 0) c2]; rfl)
  · exact (b24.cell (p := ⟨w.heap.size + 1, 1, none⟩) (show w.heap.size + 1 < u2.heap.size by omega)).trans (by rw [cell_of_row _ _ _ _ _ (0, 0) c2]; rfl)
  · exact (b4.cell (p := ⟨w.heap.size + 1 + 1, 0, none⟩) (show w.heap.size + 1 + 1 < u3.heap.size by omega)).trans (by rw [cell_of_row _ _ _ _ _ (0, 0) c3]; rfl)
  · rw [cell_of_row _ _ _ _ _ (0, 0) c4]; rfl
theorem bbox_of {w w0 : World} {bx n c : Nat} {A : Option Addr} {l : List Bool} (hc : w0.cell? ⟨bx, 0, none⟩ = some (.slice A n c)) (hb : Below w.heap.size w w0) (hs : Sl w w.heap.size 1 A n c (bcells l)) : BBox w0 bx n l :=
  ⟨⟨A, c, hc, (hs.below hb (Nat.le_refl _)).up hb.size, World.block_lt_of_cell? _ _ hc⟩⟩
theorem place_row {bits : Int → Nat → Bool} {n lp : Nat} {x : Nd} {a b : List Bool} (h : ¬ (x.op = 9 ∨ x.op = 10 ∨ x.op = 11 ∨ x.op = 12)) : placesL bits n lp x a b = (List.range n).map (place1 (bits x.n) x n lp a b) := by
  simp only [not_or] at h
  rw [placesL, if_neg h.1, if_neg h.2.1, if_neg h.2.2.1, if_neg h.2.2.2]
/-- The lengths that an operation's parts must have. -/
structure TArg (w : World) (N : Nat) (op : Int) (Aa Ab : Option Addr) (na ca nb cb : Nat) (a b : List Bool) : Prop where
  one : 1 ≤ takes op → na = N ∧ a.length = N ∧ Sl w w.heap.size 1 Aa na ca (bcells a)
  two : 2 ≤ takes op → nb = N ∧ b.length = N ∧ Sl w w.heap.size 1 Ab nb cb (bcells b)
set_option maxHeartbeats 2000000 in
theorem truth1_any (A1 A2 Aa Ab : Option Addr) (n1 c1 n2 c2 na ca nb cb : Nat) (m : Int) (st lo : List Int) (a b : List Bool) (w : World) (_h : WRd w w.heap.size A1 A2 n1 c1 n2 c2 st lo) (hl : n1 + n2 ≤ 60000) (_h2 : 0 < n2) (_ht : TArg w (n1 + n2) 1 Aa Ab na ca nb cb a b) :
    Calls Try.prog 65 #[lassoV A1 A2 n1 c1 n2 c2, .agg #[.int .i64 1, .int .i64 m], .slice Aa na ca, .slice Ab nb cb] w (NewRow w 4 1 (n1 + n2) (bcells (placesL (wbit st lo) (n1 + n2) n1 ⟨1, m⟩ a b)) False) := by
  obtain ⟨w0, hw0, hT, ha0, hb0⟩ := tbox w A1 A2 Aa Ab n1 c1 n2 c2 na ca nb cb 1 m
  obtain ⟨hlb, l0, l1, l2, l3⟩ := hT.lb
  have x0 := hT.x0
  have hbel := hT.bel
  have hLB := hT.lb
  have hx1 := hT.x1
  have hsz := hT.sz
  have hR := rowT1_any (fun _ => true) A1 A2 n1 c1 n2 c2 w0 hl (fun k w' hk hb => t1_any k w')
  rw [show (List.range (n1 + n2)).map (fun _ => true) = placesL (wbit st lo) (n1 + n2) n1 ⟨1, m⟩ a b by rw [place_row (by simp)]; exact List.map_congr_left (fun i _ => by simp [place1])] at hR
  have HR := Lib.hid hR
  have HW0 := Lib.hid hw0
  have HBEL := Lib.hid hbel
  unfold lassoV at HR ⊢
  generalize placesL (wbit st lo) (n1 + n2) n1 ⟨1, m⟩ a b = r at *
  clear hR _ht _h hw0 hT hLB ha0 hb0 hx1 hbel
  generalize n1 + n2 = N at *
  go_enter Try.func65, Try.ntmps65
  go_wp2_with fail
  rw [← HW0.out]
  clear HW0
  refine Calls.mono HR.out ?_
  rintro e w1 ⟨v1, rfl, hown1, hb1, hn1⟩
  go_wp2
  go_ret
  exact ⟨v1, rfl, own_base hown1 HBEL.out.size, HBEL.out.trans (hb1.mono HBEL.out.size), hn1⟩

set_option maxHeartbeats 2000000 in
theorem truth2_any (A1 A2 Aa Ab : Option Addr) (n1 c1 n2 c2 na ca nb cb : Nat) (m : Int) (st lo : List Int) (a b : List Bool) (w : World) (_h : WRd w w.heap.size A1 A2 n1 c1 n2 c2 st lo) (hl : n1 + n2 ≤ 60000) (_h2 : 0 < n2) (_ht : TArg w (n1 + n2) 2 Aa Ab na ca nb cb a b) :
    Calls Try.prog 65 #[lassoV A1 A2 n1 c1 n2 c2, .agg #[.int .i64 2, .int .i64 m], .slice Aa na ca, .slice Ab nb cb] w (NewRow w 4 1 (n1 + n2) (bcells (placesL (wbit st lo) (n1 + n2) n1 ⟨2, m⟩ a b)) False) := by
  obtain ⟨w0, hw0, hT, ha0, hb0⟩ := tbox w A1 A2 Aa Ab n1 c1 n2 c2 na ca nb cb 2 m
  obtain ⟨hlb, l0, l1, l2, l3⟩ := hT.lb
  have x0 := hT.x0
  have hbel := hT.bel
  have hLB := hT.lb
  have hx1 := hT.x1
  have hsz := hT.sz
  have hpl : placesL (wbit st lo) (n1 + n2) n1 ⟨2, m⟩ a b = List.replicate (n1 + n2) false := by
    rw [place_row (by simp)]
    apply List.ext_getElem <;> simp [place1]
  rw [hpl]
  unfold lassoV
  generalize hN : n1 + n2 = N at *
  have hmk := run_make_row' (P := Try.prog) 50 4 (.bool false) 1 Try.underlying50 infoBool rfl .i64 .i64 N (by omega) (by omega)
  have hown := own_madeW (w := w0) (base := w.heap.size) (e := 4) (n := N) (v := .bool false) hbel.size (by unfold maxLen; omega)
  have HO := Lib.hid hown
  have HW0 := Lib.hid hw0
  have HBEL := Lib.hid hbel
  clear hown hpl _ht _h hw0 hT hLB ha0 hb0 hx1 hN hbel l0 l1 l3
  go_enter Try.func65, Try.ntmps65
  go_wp2
  go_ret
  rw [← HW0.out]
  refine ⟨_, rfl, ?_, HBEL.out.alloc HBEL.out.size _, by simp⟩
  have := HO.out
  rw [HW0.out] at this ⊢
  simpa [bcells] using this

set_option maxHeartbeats 2000000 in
theorem truth3_any (A1 A2 Aa Ab : Option Addr) (n1 c1 n2 c2 na ca nb cb : Nat) (m : Int) (st lo : List Int) (a b : List Bool) (w : World) (h : WRd w w.heap.size A1 A2 n1 c1 n2 c2 st lo) (hl : n1 + n2 ≤ 60000) (_h2 : 0 < n2) (_ht : TArg w (n1 + n2) 3 Aa Ab na ca nb cb a b) (hm : 0 ≤ m ∧ m < 8) :
    Calls Try.prog 65 #[lassoV A1 A2 n1 c1 n2 c2, .agg #[.int .i64 3, .int .i64 m], .slice Aa na ca, .slice Ab nb cb] w (NewRow w 4 1 (n1 + n2) (bcells (placesL (wbit st lo) (n1 + n2) n1 ⟨3, m⟩ a b)) False) := by
  obtain ⟨w0, hw0, hT, ha0, hb0⟩ := tbox w A1 A2 Aa Ab n1 c1 n2 c2 na ca nb cb 3 m
  obtain ⟨hlb, l0, l1, l2, l3⟩ := hT.lb
  have x0 := hT.x0
  have hbel := hT.bel
  have hLB := hT.lb
  have hx1 := hT.x1
  have hsz := hT.sz
  have hR := rowT2_any (.pointer (some ⟨w.heap.size, 0, none⟩)) (.pointer (some ⟨w.heap.size + 1, 0, none⟩)) (fun k => wbit st lo m k) A1 A2 n1 c1 n2 c2 w0 hl (fun k w' hk hb => t2_any k _ _ 3 m A1 A2 n1 c1 n2 c2 st lo w' (hLB.below hb) ((h.below (hbel.trans (hb.mono hbel.size)) (Nat.le_refl _)).up (Nat.le_trans hbel.size hb.size)) (Nat.lt_of_lt_of_le (by omega) hb.size) ((hb.cell (p := ⟨w.heap.size + 1, 1, none⟩) (show w.heap.size + 1 < w0.heap.size by omega)).trans hx1) hm.1 hm.2 hl (by omega))
  rw [show (List.range (n1 + n2)).map (fun k => wbit st lo m k) = placesL (wbit st lo) (n1 + n2) n1 ⟨3, m⟩ a b by rw [place_row (by simp)]; exact List.map_congr_left (fun i _ => by simp [place1])] at hR
  have HR := Lib.hid hR
  have HW0 := Lib.hid hw0
  have HBEL := Lib.hid hbel
  unfold lassoV at HR ⊢
  generalize placesL (wbit st lo) (n1 + n2) n1 ⟨3, m⟩ a b = r at *
  clear hR _ht h hw0 hT hLB ha0 hb0 hx1 hbel hm
  generalize n1 + n2 = N at *
  go_enter Try.func65, Try.ntmps65
  go_wp2_with fail
  rw [← HW0.out]
  clear HW0
  refine Calls.mono HR.out ?_
  rintro e w1 ⟨v1, rfl, hown1, hb1, hn1⟩
  go_wp2
  go_ret
  exact ⟨v1, rfl, own_base hown1 HBEL.out.size, HBEL.out.trans (hb1.mono HBEL.out.size), hn1⟩

set_option maxHeartbeats 2000000 in
theorem truth4_any (A1 A2 Aa Ab : Option Addr) (n1 c1 n2 c2 na ca nb cb : Nat) (m : Int) (st lo : List Int) (a b : List Bool) (w : World) (_h : WRd w w.heap.size A1 A2 n1 c1 n2 c2 st lo) (hl : n1 + n2 ≤ 60000) (_h2 : 0 < n2) (ht : TArg w (n1 + n2) 4 Aa Ab na ca nb cb a b) :
    Calls Try.prog 65 #[lassoV A1 A2 n1 c1 n2 c2, .agg #[.int .i64 4, .int .i64 m], .slice Aa na ca, .slice Ab nb cb] w (NewRow w 4 1 (n1 + n2) (bcells (placesL (wbit st lo) (n1 + n2) n1 ⟨4, m⟩ a b)) False) := by
  obtain ⟨w0, hw0, hT, ha0, hb0⟩ := tbox w A1 A2 Aa Ab n1 c1 n2 c2 na ca nb cb 4 m
  obtain ⟨hlb, l0, l1, l2, l3⟩ := hT.lb
  have x0 := hT.x0
  have hbel := hT.bel
  have hLB := hT.lb
  have hx1 := hT.x1
  have hsz := hT.sz
  obtain ⟨hna, hal, hsa⟩ := ht.one (by decide)
  subst hna
  have hBA := bbox_of ha0 hbel hsa
  have hR := rowT3_any (.pointer (some ⟨w.heap.size + 1 + 1, 0, none⟩)) (fun k => !a.getD k false) A1 A2 n1 c1 n2 c2 w0 hl (fun k w' hk hb => t3_any k _ _ a w' (hBA.below hb) hk)
  rw [show (List.range (n1 + n2)).map (fun k => !a.getD k false) = placesL (wbit st lo) (n1 + n2) n1 ⟨4, m⟩ a b by rw [place_row (by simp)]; exact List.map_congr_left (fun i _ => by simp [place1])] at hR
  have HR := Lib.hid hR
  have HW0 := Lib.hid hw0
  have HBEL := Lib.hid hbel
  unfold lassoV at HR ⊢
  generalize placesL (wbit st lo) (n1 + n2) n1 ⟨4, m⟩ a b = r at *
  clear hR ht _h hw0 hT hLB ha0 hb0 hx1 hbel hsa hBA hal
  generalize n1 + n2 = N at *
  go_enter Try.func65, Try.ntmps65
  go_wp2_with fail
  rw [← HW0.out]
  clear HW0
  refine Calls.mono HR.out ?_
  rintro e w1 ⟨v1, rfl, hown1, hb1, hn1⟩
  go_wp2
  go_ret
  exact ⟨v1, rfl, own_base hown1 HBEL.out.size, HBEL.out.trans (hb1.mono HBEL.out.size), hn1⟩

set_option maxHeartbeats 2000000 in
theorem truth5_any (A1 A2 Aa Ab : Option Addr) (n1 c1 n2 c2 na ca nb cb : Nat) (m : Int) (st lo : List Int) (a b : List Bool) (w : World) (_h : WRd w w.heap.size A1 A2 n1 c1 n2 c2 st lo) (hl : n1 + n2 ≤ 60000) (_h2 : 0 < n2) (ht : TArg w (n1 + n2) 5 Aa Ab na ca nb cb a b) :
    Calls Try.prog 65 #[lassoV A1 A2 n1 c1 n2 c2, .agg #[.int .i64 5, .int .i64 m], .slice Aa na ca, .slice Ab nb cb] w (NewRow w 4 1 (n1 + n2) (bcells (placesL (wbit st lo) (n1 + n2) n1 ⟨5, m⟩ a b)) False) := by
  obtain ⟨w0, hw0, hT, ha0, hb0⟩ := tbox w A1 A2 Aa Ab n1 c1 n2 c2 na ca nb cb 5 m
  obtain ⟨hlb, l0, l1, l2, l3⟩ := hT.lb
  have x0 := hT.x0
  have hbel := hT.bel
  have hLB := hT.lb
  have hx1 := hT.x1
  have hsz := hT.sz
  obtain ⟨hna, hal, hsa⟩ := ht.one (by decide)
  subst hna
  have hBA := bbox_of ha0 hbel hsa
  obtain ⟨hnb, hbl, hsb⟩ := ht.two (by decide)
  have hBB := bbox_of (n := nb) hb0 hbel hsb
  rw [hnb] at hBB
  have hR := rowT4_any (.pointer (some ⟨w.heap.size + 1 + 1, 0, none⟩)) (.pointer (some ⟨w.heap.size + 1 + 1 + 1, 0, none⟩)) (fun k => a.getD k false && b.getD k false) A1 A2 n1 c1 n2 c2 w0 hl (fun k w' hk hb => t4_any k _ _ _ a b w' (hBA.below hb) (hBB.below hb) hk)
  rw [show (List.range (n1 + n2)).map (fun k => a.getD k false && b.getD k false) = placesL (wbit st lo) (n1 + n2) n1 ⟨5, m⟩ a b by rw [place_row (by simp)]; exact List.map_congr_left (fun i _ => by simp [place1])] at hR
  have HR := Lib.hid hR
  have HW0 := Lib.hid hw0
  have HBEL := Lib.hid hbel
  unfold lassoV at HR ⊢
  generalize placesL (wbit st lo) (n1 + n2) n1 ⟨5, m⟩ a b = r at *
  clear hR ht _h hw0 hT hLB ha0 hb0 hx1 hbel hsa hBA hal hsb hBB hbl hnb
  generalize n1 + n2 = N at *
  go_enter Try.func65, Try.ntmps65
  go_wp2_with fail
  rw [← HW0.out]
  clear HW0
  refine Calls.mono HR.out ?_
  rintro e w1 ⟨v1, rfl, hown1, hb1, hn1⟩
  go_wp2
  go_ret
  exact ⟨v1, rfl, own_base hown1 HBEL.out.size, HBEL.out.trans (hb1.mono HBEL.out.size), hn1⟩

set_option maxHeartbeats 2000000 in
theorem truth6_any (A1 A2 Aa Ab : Option Addr) (n1 c1 n2 c2 na ca nb cb : Nat) (m : Int) (st lo : List Int) (a b : List Bool) (w : World) (_h : WRd w w.heap.size A1 A2 n1 c1 n2 c2 st lo) (hl : n1 + n2 ≤ 60000) (_h2 : 0 < n2) (ht : TArg w (n1 + n2) 6 Aa Ab na ca nb cb a b) :
    Calls Try.prog 65 #[lassoV A1 A2 n1 c1 n2 c2, .agg #[.int .i64 6, .int .i64 m], .slice Aa na ca, .slice Ab nb cb] w (NewRow w 4 1 (n1 + n2) (bcells (placesL (wbit st lo) (n1 + n2) n1 ⟨6, m⟩ a b)) False) := by
  obtain ⟨w0, hw0, hT, ha0, hb0⟩ := tbox w A1 A2 Aa Ab n1 c1 n2 c2 na ca nb cb 6 m
  obtain ⟨hlb, l0, l1, l2, l3⟩ := hT.lb
  have x0 := hT.x0
  have hbel := hT.bel
  have hLB := hT.lb
  have hx1 := hT.x1
  have hsz := hT.sz
  obtain ⟨hna, hal, hsa⟩ := ht.one (by decide)
  subst hna
  have hBA := bbox_of ha0 hbel hsa
  obtain ⟨hnb, hbl, hsb⟩ := ht.two (by decide)
  have hBB := bbox_of (n := nb) hb0 hbel hsb
  rw [hnb] at hBB
  have hR := rowT5_any (.pointer (some ⟨w.heap.size + 1 + 1, 0, none⟩)) (.pointer (some ⟨w.heap.size + 1 + 1 + 1, 0, none⟩)) (fun k => a.getD k false || b.getD k false) A1 A2 n1 c1 n2 c2 w0 hl (fun k w' hk hb => t5_any k _ _ _ a b w' (hBA.below hb) (hBB.below hb) hk)
  rw [show (List.range (n1 + n2)).map (fun k => a.getD k false || b.getD k false) = placesL (wbit st lo) (n1 + n2) n1 ⟨6, m⟩ a b by rw [place_row (by simp)]; exact List.map_congr_left (fun i _ => by simp [place1])] at hR
  have HR := Lib.hid hR
  have HW0 := Lib.hid hw0
  have HBEL := Lib.hid hbel
  unfold lassoV at HR ⊢
  generalize placesL (wbit st lo) (n1 + n2) n1 ⟨6, m⟩ a b = r at *
  clear hR ht _h hw0 hT hLB ha0 hb0 hx1 hbel hsa hBA hal hsb hBB hbl hnb
  generalize n1 + n2 = N at *
  go_enter Try.func65, Try.ntmps65
  go_wp2_with fail
  rw [← HW0.out]
  clear HW0
  refine Calls.mono HR.out ?_
  rintro e w1 ⟨v1, rfl, hown1, hb1, hn1⟩
  go_wp2
  go_ret
  exact ⟨v1, rfl, own_base hown1 HBEL.out.size, HBEL.out.trans (hb1.mono HBEL.out.size), hn1⟩

set_option maxHeartbeats 2000000 in
theorem truth7_any (A1 A2 Aa Ab : Option Addr) (n1 c1 n2 c2 na ca nb cb : Nat) (m : Int) (st lo : List Int) (a b : List Bool) (w : World) (_h : WRd w w.heap.size A1 A2 n1 c1 n2 c2 st lo) (hl : n1 + n2 ≤ 60000) (_h2 : 0 < n2) (ht : TArg w (n1 + n2) 7 Aa Ab na ca nb cb a b) :
    Calls Try.prog 65 #[lassoV A1 A2 n1 c1 n2 c2, .agg #[.int .i64 7, .int .i64 m], .slice Aa na ca, .slice Ab nb cb] w (NewRow w 4 1 (n1 + n2) (bcells (placesL (wbit st lo) (n1 + n2) n1 ⟨7, m⟩ a b)) False) := by
  obtain ⟨w0, hw0, hT, ha0, hb0⟩ := tbox w A1 A2 Aa Ab n1 c1 n2 c2 na ca nb cb 7 m
  obtain ⟨hlb, l0, l1, l2, l3⟩ := hT.lb
  have x0 := hT.x0
  have hbel := hT.bel
  have hLB := hT.lb
  have hx1 := hT.x1
  have hsz := hT.sz
  obtain ⟨hna, hal, hsa⟩ := ht.one (by decide)
  subst hna
  have hBA := bbox_of ha0 hbel hsa
  obtain ⟨hnb, hbl, hsb⟩ := ht.two (by decide)
  have hBB := bbox_of (n := nb) hb0 hbel hsb
  rw [hnb] at hBB
  have hR := rowT6_any (.pointer (some ⟨w.heap.size + 1 + 1, 0, none⟩)) (.pointer (some ⟨w.heap.size + 1 + 1 + 1, 0, none⟩)) (fun k => !a.getD k false || b.getD k false) A1 A2 n1 c1 n2 c2 w0 hl (fun k w' hk hb => t6_any k _ _ _ a b w' (hBA.below hb) (hBB.below hb) hk)
  rw [show (List.range (n1 + n2)).map (fun k => !a.getD k false || b.getD k false) = placesL (wbit st lo) (n1 + n2) n1 ⟨7, m⟩ a b by rw [place_row (by simp)]; exact List.map_congr_left (fun i _ => by simp [place1])] at hR
  have HR := Lib.hid hR
  have HW0 := Lib.hid hw0
  have HBEL := Lib.hid hbel
  unfold lassoV at HR ⊢
  generalize placesL (wbit st lo) (n1 + n2) n1 ⟨7, m⟩ a b = r at *
  clear hR ht _h hw0 hT hLB ha0 hb0 hx1 hbel hsa hBA hal hsb hBB hbl hnb
  generalize n1 + n2 = N at *
  go_enter Try.func65, Try.ntmps65
  go_wp2_with fail
  rw [← HW0.out]
  clear HW0
  refine Calls.mono HR.out ?_
  rintro e w1 ⟨v1, rfl, hown1, hb1, hn1⟩
  go_wp2
  go_ret
  exact ⟨v1, rfl, own_base hown1 HBEL.out.size, HBEL.out.trans (hb1.mono HBEL.out.size), hn1⟩

set_option maxHeartbeats 2000000 in
theorem truth8_any (A1 A2 Aa Ab : Option Addr) (n1 c1 n2 c2 na ca nb cb : Nat) (m : Int) (st lo : List Int) (a b : List Bool) (w : World) (_h : WRd w w.heap.size A1 A2 n1 c1 n2 c2 st lo) (hl : n1 + n2 ≤ 60000) (h2 : 0 < n2) (ht : TArg w (n1 + n2) 8 Aa Ab na ca nb cb a b) :
    Calls Try.prog 65 #[lassoV A1 A2 n1 c1 n2 c2, .agg #[.int .i64 8, .int .i64 m], .slice Aa na ca, .slice Ab nb cb] w (NewRow w 4 1 (n1 + n2) (bcells (placesL (wbit st lo) (n1 + n2) n1 ⟨8, m⟩ a b)) False) := by
  obtain ⟨w0, hw0, hT, ha0, hb0⟩ := tbox w A1 A2 Aa Ab n1 c1 n2 c2 na ca nb cb 8 m
  obtain ⟨hlb, l0, l1, l2, l3⟩ := hT.lb
  have x0 := hT.x0
  have hbel := hT.bel
  have hLB := hT.lb
  have hx1 := hT.x1
  have hsz := hT.sz
  obtain ⟨hna, hal, hsa⟩ := ht.one (by decide)
  subst hna
  have hBA := bbox_of ha0 hbel hsa
  have hR := rowT7_any (.pointer (some ⟨w.heap.size + 1 + 1, 0, none⟩)) (.pointer (some ⟨w.heap.size, 0, none⟩)) (fun k => a.getD (nx n1 (n1 + n2) k) false) A1 A2 n1 c1 n2 c2 w0 hl (fun k w' hk hb => t7_any k _ _ a A1 A2 n1 c1 n2 c2 w' (hBA.below hb) (hLB.below hb) hl h2 hk)
  rw [show (List.range (n1 + n2)).map (fun k => a.getD (nx n1 (n1 + n2) k) false) = placesL (wbit st lo) (n1 + n2) n1 ⟨8, m⟩ a b by rw [place_row (by simp)]; exact List.map_congr_left (fun i _ => by simp [place1])] at hR
  have HR := Lib.hid hR
  have HW0 := Lib.hid hw0
  have HBEL := Lib.hid hbel
  unfold lassoV at HR ⊢
  generalize placesL (wbit st lo) (n1 + n2) n1 ⟨8, m⟩ a b = r at *
  clear hR ht _h hw0 hT hLB ha0 hb0 hx1 hbel hsa hBA hal
  generalize n1 + n2 = N at *
  go_enter Try.func65, Try.ntmps65
  go_wp2_with fail
  rw [← HW0.out]
  clear HW0
  refine Calls.mono HR.out ?_
  rintro e w1 ⟨v1, rfl, hown1, hb1, hn1⟩
  go_wp2
  go_ret
  exact ⟨v1, rfl, own_base hown1 HBEL.out.size, HBEL.out.trans (hb1.mono HBEL.out.size), hn1⟩

set_option maxHeartbeats 2000000 in
theorem truth9_any (A1 A2 Aa Ab : Option Addr) (n1 c1 n2 c2 na ca nb cb : Nat) (m : Int) (st lo : List Int) (a b : List Bool) (w : World) (_h : WRd w w.heap.size A1 A2 n1 c1 n2 c2 st lo) (hl : n1 + n2 ≤ 60000) (h2 : 0 < n2) (ht : TArg w (n1 + n2) 9 Aa Ab na ca nb cb a b) :
    Calls Try.prog 65 #[lassoV A1 A2 n1 c1 n2 c2, .agg #[.int .i64 9, .int .i64 m], .slice Aa na ca, .slice Ab nb cb] w (NewRow w 4 1 (n1 + n2) (bcells (placesL (wbit st lo) (n1 + n2) n1 ⟨9, m⟩ a b)) False) := by
  obtain ⟨w0, hw0, hT, ha0, hb0⟩ := tbox w A1 A2 Aa Ab n1 c1 n2 c2 na ca nb cb 9 m
  obtain ⟨hlb, l0, l1, l2, l3⟩ := hT.lb
  have x0 := hT.x0
  have hbel := hT.bel
  have hLB := hT.lb
  have hx1 := hT.x1
  have hsz := hT.sz
  obtain ⟨hna, hal, hsa⟩ := ht.one (by decide)
  subst hna
  have hBA := bbox_of ha0 hbel hsa
  obtain ⟨hnb, hbl, hsb⟩ := ht.two (by decide)
  have hBB := bbox_of (n := nb) hb0 hbel hsb
  rw [hnb] at hBB
  have hR := settleT8_any (.pointer (some ⟨w.heap.size + 1 + 1 + 1, 0, none⟩)) (.pointer (some ⟨w.heap.size + 1 + 1, 0, none⟩)) (ofU a b) A1 A2 n1 c1 n2 c2 w0 hl h2 (fun k c w' hk hb => t8_any k _ _ _ a b c w' (hBA.below hb) (hBB.below hb) hk)
  have hpl : settleL (ofU a b) (n1 + n2) n1 false = placesL (wbit st lo) (n1 + n2) n1 ⟨9, m⟩ a b := by
    have hlp : n1 < a.length := by omega
    have := settle_until (b := b) hlp
    rw [hal] at this
    rw [this, placesL]
    rw [if_pos rfl]
  rw [hpl] at hR
  clear hpl
  have HR := Lib.hid hR
  have HW0 := Lib.hid hw0
  have HBEL := Lib.hid hbel
  unfold lassoV at HR ⊢
  generalize placesL (wbit st lo) (n1 + n2) n1 ⟨9, m⟩ a b = r at *
  clear hR ht _h hw0 hT hLB ha0 hb0 hx1 hbel hsa hBA hal hsb hBB hbl hnb
  generalize n1 + n2 = N at *
  go_enter Try.func65, Try.ntmps65
  go_wp2_with fail
  rw [← HW0.out]
  clear HW0
  refine Calls.mono HR.out ?_
  rintro e w1 ⟨v1, rfl, hown1, hb1, hn1⟩
  go_wp2
  go_ret
  exact ⟨v1, rfl, own_base hown1 HBEL.out.size, HBEL.out.trans (hb1.mono HBEL.out.size), hn1⟩

set_option maxHeartbeats 2000000 in
theorem truth10_any (A1 A2 Aa Ab : Option Addr) (n1 c1 n2 c2 na ca nb cb : Nat) (m : Int) (st lo : List Int) (a b : List Bool) (w : World) (_h : WRd w w.heap.size A1 A2 n1 c1 n2 c2 st lo) (hl : n1 + n2 ≤ 60000) (h2 : 0 < n2) (ht : TArg w (n1 + n2) 10 Aa Ab na ca nb cb a b) :
    Calls Try.prog 65 #[lassoV A1 A2 n1 c1 n2 c2, .agg #[.int .i64 10, .int .i64 m], .slice Aa na ca, .slice Ab nb cb] w (NewRow w 4 1 (n1 + n2) (bcells (placesL (wbit st lo) (n1 + n2) n1 ⟨10, m⟩ a b)) False) := by
  obtain ⟨w0, hw0, hT, ha0, hb0⟩ := tbox w A1 A2 Aa Ab n1 c1 n2 c2 na ca nb cb 10 m
  obtain ⟨hlb, l0, l1, l2, l3⟩ := hT.lb
  have x0 := hT.x0
  have hbel := hT.bel
  have hLB := hT.lb
  have hx1 := hT.x1
  have hsz := hT.sz
  obtain ⟨hna, hal, hsa⟩ := ht.one (by decide)
  subst hna
  have hBA := bbox_of ha0 hbel hsa
  obtain ⟨hnb, hbl, hsb⟩ := ht.two (by decide)
  have hBB := bbox_of (n := nb) hb0 hbel hsb
  rw [hnb] at hBB
  have hR := settleT9_any (.pointer (some ⟨w.heap.size + 1 + 1 + 1, 0, none⟩)) (.pointer (some ⟨w.heap.size + 1 + 1, 0, none⟩)) (ofR a b) A1 A2 n1 c1 n2 c2 w0 hl h2 (fun k c w' hk hb => t9_any k _ _ _ a b c w' (hBA.below hb) (hBB.below hb) hk)
  have hpl : settleL (ofR a b) (n1 + n2) n1 true = placesL (wbit st lo) (n1 + n2) n1 ⟨10, m⟩ a b := by
    have hlp : n1 < a.length := by omega
    have := settle_rel (b := b) hlp (by omega)
    rw [hal] at this
    rw [this, placesL]
    rw [if_neg (show ¬ ((10 : Int) = 9) by decide), if_pos rfl]
  rw [hpl] at hR
  clear hpl
  have HR := Lib.hid hR
  have HW0 := Lib.hid hw0
  have HBEL := Lib.hid hbel
  unfold lassoV at HR ⊢
  generalize placesL (wbit st lo) (n1 + n2) n1 ⟨10, m⟩ a b = r at *
  clear hR ht _h hw0 hT hLB ha0 hb0 hx1 hbel hsa hBA hal hsb hBB hbl hnb
  generalize n1 + n2 = N at *
  go_enter Try.func65, Try.ntmps65
  go_wp2_with fail
  rw [← HW0.out]
  clear HW0
  refine Calls.mono HR.out ?_
  rintro e w1 ⟨v1, rfl, hown1, hb1, hn1⟩
  go_wp2
  go_ret
  exact ⟨v1, rfl, own_base hown1 HBEL.out.size, HBEL.out.trans (hb1.mono HBEL.out.size), hn1⟩

set_option maxHeartbeats 2000000 in
theorem truth11_any (A1 A2 Aa Ab : Option Addr) (n1 c1 n2 c2 na ca nb cb : Nat) (m : Int) (st lo : List Int) (a b : List Bool) (w : World) (_h : WRd w w.heap.size A1 A2 n1 c1 n2 c2 st lo) (hl : n1 + n2 ≤ 60000) (h2 : 0 < n2) (ht : TArg w (n1 + n2) 11 Aa Ab na ca nb cb a b) :
    Calls Try.prog 65 #[lassoV A1 A2 n1 c1 n2 c2, .agg #[.int .i64 11, .int .i64 m], .slice Aa na ca, .slice Ab nb cb] w (NewRow w 4 1 (n1 + n2) (bcells (placesL (wbit st lo) (n1 + n2) n1 ⟨11, m⟩ a b)) False) := by
  obtain ⟨w0, hw0, hT, ha0, hb0⟩ := tbox w A1 A2 Aa Ab n1 c1 n2 c2 na ca nb cb 11 m
  obtain ⟨hlb, l0, l1, l2, l3⟩ := hT.lb
  have x0 := hT.x0
  have hbel := hT.bel
  have hLB := hT.lb
  have hx1 := hT.x1
  have hsz := hT.sz
  obtain ⟨hna, hal, hsa⟩ := ht.one (by decide)
  subst hna
  have hBA := bbox_of ha0 hbel hsa
  have hR := settleT10_any (.pointer (some ⟨w.heap.size + 1 + 1, 0, none⟩)) (ofF a) A1 A2 n1 c1 n2 c2 w0 hl h2 (fun k c w' hk hb => t10_any k _ _ a c w' (hBA.below hb) hk)
  have hpl : settleL (ofF a) (n1 + n2) n1 false = placesL (wbit st lo) (n1 + n2) n1 ⟨11, m⟩ a b := by
    have hlp : n1 < a.length := by omega
    have := settle_fin hlp
    rw [hal] at this
    rw [this, placesL]
    rw [if_neg (show ¬ ((11 : Int) = 9) by decide), if_neg (show ¬ ((11 : Int) = 10) by decide), if_pos rfl]
  rw [hpl] at hR
  clear hpl
  have HR := Lib.hid hR
  have HW0 := Lib.hid hw0
  have HBEL := Lib.hid hbel
  unfold lassoV at HR ⊢
  generalize placesL (wbit st lo) (n1 + n2) n1 ⟨11, m⟩ a b = r at *
  clear hR ht _h hw0 hT hLB ha0 hb0 hx1 hbel hsa hBA hal
  generalize n1 + n2 = N at *
  go_enter Try.func65, Try.ntmps65
  go_wp2_with fail
  rw [← HW0.out]
  clear HW0
  refine Calls.mono HR.out ?_
  rintro e w1 ⟨v1, rfl, hown1, hb1, hn1⟩
  go_wp2
  go_ret
  exact ⟨v1, rfl, own_base hown1 HBEL.out.size, HBEL.out.trans (hb1.mono HBEL.out.size), hn1⟩

set_option maxHeartbeats 2000000 in
theorem truth12_any (A1 A2 Aa Ab : Option Addr) (n1 c1 n2 c2 na ca nb cb : Nat) (m : Int) (st lo : List Int) (a b : List Bool) (w : World) (_h : WRd w w.heap.size A1 A2 n1 c1 n2 c2 st lo) (hl : n1 + n2 ≤ 60000) (h2 : 0 < n2) (ht : TArg w (n1 + n2) 12 Aa Ab na ca nb cb a b) :
    Calls Try.prog 65 #[lassoV A1 A2 n1 c1 n2 c2, .agg #[.int .i64 12, .int .i64 m], .slice Aa na ca, .slice Ab nb cb] w (NewRow w 4 1 (n1 + n2) (bcells (placesL (wbit st lo) (n1 + n2) n1 ⟨12, m⟩ a b)) False) := by
  obtain ⟨w0, hw0, hT, ha0, hb0⟩ := tbox w A1 A2 Aa Ab n1 c1 n2 c2 na ca nb cb 12 m
  obtain ⟨hlb, l0, l1, l2, l3⟩ := hT.lb
  have x0 := hT.x0
  have hbel := hT.bel
  have hLB := hT.lb
  have hx1 := hT.x1
  have hsz := hT.sz
  obtain ⟨hna, hal, hsa⟩ := ht.one (by decide)
  subst hna
  have hBA := bbox_of ha0 hbel hsa
  have hR := settleT11_any (.pointer (some ⟨w.heap.size + 1 + 1, 0, none⟩)) (ofG a) A1 A2 n1 c1 n2 c2 w0 hl h2 (fun k c w' hk hb => t11_any k _ _ a c w' (hBA.below hb) hk)
  have hpl : settleL (ofG a) (n1 + n2) n1 true = placesL (wbit st lo) (n1 + n2) n1 ⟨12, m⟩ a b := by
    have hlp : n1 < a.length := by omega
    have := settle_glob hlp
    rw [hal] at this
    rw [this, placesL]
    rw [if_neg (show ¬ ((12 : Int) = 9) by decide), if_neg (show ¬ ((12 : Int) = 10) by decide), if_neg (show ¬ ((12 : Int) = 11) by decide), if_pos rfl]
  rw [hpl] at hR
  clear hpl
  have HR := Lib.hid hR
  have HW0 := Lib.hid hw0
  have HBEL := Lib.hid hbel
  unfold lassoV at HR ⊢
  generalize placesL (wbit st lo) (n1 + n2) n1 ⟨12, m⟩ a b = r at *
  clear hR ht _h hw0 hT hLB ha0 hb0 hx1 hbel hsa hBA hal
  generalize n1 + n2 = N at *
  go_enter Try.func65, Try.ntmps65
  go_wp2_with fail
  rw [← HW0.out]
  clear HW0
  refine Calls.mono HR.out ?_
  rintro e w1 ⟨v1, rfl, hown1, hb1, hn1⟩
  go_wp2
  go_ret
  exact ⟨v1, rfl, own_base hown1 HBEL.out.size, HBEL.out.trans (hb1.mono HBEL.out.size), hn1⟩

end Go.Proofs.Ytkikkplpalabhaa
