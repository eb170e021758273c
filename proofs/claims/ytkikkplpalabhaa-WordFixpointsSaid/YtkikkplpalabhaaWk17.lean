/- The walk of law 27's awake. -/
import Derived.Test.YtkikkplpalabhaaWk16
namespace Go.Proofs.Ytkikkplpalabhaa
open Go.RowKit

theorem sl_blkW {w : World} {b T n size : Nat} {cs : Array Value} {xs : List Value} {B : Nat} (h : w.heap[b]? = some (.cells cs T (0, 0))) (hx : cs.toList = xs) (hn : xs.length = n * size) (hm : n ≤ maxLen) (hb : b < B) : Sl w B size (some ⟨b, 0, none⟩) n n xs := by
  refine ⟨hn, Nat.le_refl _, hm, fun h => (by cases h), .inr ⟨b, 0, rfl, hb, fun j u hu => ?_⟩⟩
  rw [Nat.zero_add, cell_of_row w b j _ _ _ h]
  rw [← hx] at hu
  simpa using hu
/-- Several new blocks. -/

theorem al1 {w0 W : World} {B : Nat} (hb : Below B w0 W) (hB : B ≤ W.heap.size) (o : Obj) : Below B w0 (W.alloc o) ∧ (W.alloc o).heap[W.heap.size]? = some o ∧ (W.alloc o).heap.size = W.heap.size + 1 := ⟨hb.alloc hB o, heap_alloc_new W o, by simp⟩
/-- Two boxes. -/
theorem al2 (w : World) (a b : Obj) : ∃ W, W = (w.alloc a).alloc b ∧ Below w.heap.size w W ∧ W.heap[w.heap.size]? = some a ∧ W.heap[w.heap.size + 1]? = some b ∧ W.heap.size = w.heap.size + 2 :=
  ⟨_, rfl, (box2 w a b).1, (box2 w a b).2.1, (box2 w a b).2.2.1, (box2 w a b).2.2.2⟩
/-- Five boxes. -/
theorem al5 (w : World) (a b c d e : Obj) : ∃ W, W = ((((w.alloc a).alloc b).alloc c).alloc d).alloc e ∧ Below w.heap.size w W ∧ W.heap[w.heap.size]? = some a ∧ W.heap[w.heap.size + 1]? = some b ∧ W.heap[w.heap.size + 2]? = some c ∧ W.heap[w.heap.size + 3]? = some d ∧ W.heap[w.heap.size + 4]? = some e ∧ W.heap.size = w.heap.size + 5 := by
  have s1 : (w.alloc a).heap.size = w.heap.size + 1 := by simp
  have s2 : ((w.alloc a).alloc b).heap.size = w.heap.size + 2 := by simp
  have s3 : (((w.alloc a).alloc b).alloc c).heap.size = w.heap.size + 3 := by simp
  have s4 : ((((w.alloc a).alloc b).alloc c).alloc d).heap.size = w.heap.size + 4 := by simp
  have n0 := heap_alloc_new w a
  have n1 := heap_alloc_new (w.alloc a) b
  have n2 := heap_alloc_new ((w.alloc a).alloc b) c
  have n3 := heap_alloc_new (((w.alloc a).alloc b).alloc c) d
  have n4 := heap_alloc_new ((((w.alloc a).alloc b).alloc c).alloc d) e
  rw [s1] at n1
  rw [s2] at n2
  rw [s3] at n3
  rw [s4] at n4
  refine ⟨_, rfl, (((((Below.refl _ _).alloc (Nat.le_refl _) _).alloc (by omega) _).alloc (by omega) _).alloc (by omega) _).alloc (by omega) _, ?_, ?_, ?_, ?_, n4, by simp⟩
  · rw [Below.heap_alloc _ _ _ (by omega), Below.heap_alloc _ _ _ (by omega), Below.heap_alloc _ _ _ (by omega), Below.heap_alloc _ _ _ (by omega)]; exact n0
  · rw [Below.heap_alloc _ _ _ (by omega), Below.heap_alloc _ _ _ (by omega), Below.heap_alloc _ _ _ (by omega)]; exact n1
  · rw [Below.heap_alloc _ _ _ (by omega), Below.heap_alloc _ _ _ (by omega)]; exact n2
  · rw [Below.heap_alloc _ _ _ (by omega)]; exact n3
/-- What awake reads of the rows, and of the word's box. -/
structure AwS (q g o c0 c2 b0 o0 b2 o2 : Nat) (W : World) : Prop where
  z : q + 5 ≤ W.heap.size
  lg : g < W.heap.size
  l0 : b0 < W.heap.size
  l2 : b2 < W.heap.size
  r0 : W.cell? ⟨g, o, none⟩ = some (.slice (some ⟨b0, o0, none⟩) 2 c0)
  r2 : W.cell? ⟨g, o + 2, none⟩ = some (.slice (some ⟨b2, o2, none⟩) 2 c2)
  x0 : W.cell? ⟨b0, o0, none⟩ = some (.bool true)
  x1 : W.cell? ⟨b0, o0 + 1, none⟩ = some (.bool false)
  y0 : W.cell? ⟨b2, o2, none⟩ = some (.bool true)
  y1 : W.cell? ⟨b2, o2 + 1, none⟩ = some (.bool true)
  p0 : W.cell? ⟨q + 3, 0, none⟩ = some (.slice (some ⟨q + 1, 0, none⟩) 3 3)
  p1 : W.cell? ⟨q + 3, 1, none⟩ = some (.slice (some ⟨q + 1 + 1, 0, none⟩) 4 4)
theorem AwS.below {q g o c0 c2 b0 o0 b2 o2 : Nat} {W W' : World} (h : AwS q g o c0 c2 b0 o0 b2 o2 W) (hb : Below W.heap.size W W') : AwS q g o c0 c2 b0 o0 b2 o2 W' :=
  ⟨Nat.le_trans h.z hb.size, Nat.lt_of_lt_of_le h.lg hb.size, Nat.lt_of_lt_of_le h.l0 hb.size, Nat.lt_of_lt_of_le h.l2 hb.size, (hb.cell (p := ⟨g, o, none⟩) h.lg).trans h.r0, (hb.cell (p := ⟨g, o + 2, none⟩) h.lg).trans h.r2,
   (hb.cell (p := ⟨b0, o0, none⟩) h.l0).trans h.x0, (hb.cell (p := ⟨b0, o0 + 1, none⟩) h.l0).trans h.x1, (hb.cell (p := ⟨b2, o2, none⟩) h.l2).trans h.y0, (hb.cell (p := ⟨b2, o2 + 1, none⟩) h.l2).trans h.y1,
   (hb.cell (p := ⟨q + 3, 0, none⟩) (show q + 3 < _ by have := h.z; omega)).trans h.p0, (hb.cell (p := ⟨q + 3, 1, none⟩) (show q + 3 < _ by have := h.z; omega)).trans h.p1⟩
theorem aws_of {w5 w6 : World} {v : Value} {q : Nat} (hG : Grid w5 w6 v [[true, false], [true, true], [true, true]]) (hz : q + 5 ≤ w5.heap.size) (hp0 : w5.cell? ⟨q + 3, 0, none⟩ = some (.slice (some ⟨q + 1, 0, none⟩) 3 3)) (hp1 : w5.cell? ⟨q + 3, 1, none⟩ = some (.slice (some ⟨q + 1 + 1, 0, none⟩) 4 4)) :
    ∃ g o c c0 c2 b0 o0 b2 o2, v = .slice (some ⟨g, o, none⟩) 3 c ∧ AwS q g o c0 c2 b0 o0 b2 o2 w6 := by
  have hb : Below w5.heap.size w5 w6 := hG.choose_spec.2.2
  obtain ⟨g, capg, hvg, _, hg, _⟩ := own_form hG.choose_spec.1 (by decide)
  obtain ⟨b, o, A, c, n, cap, rfl, rfl, hc, hs⟩ := hG.row (j := 0) rfl
  cases hvg
  obtain ⟨b', o', A', c', n', cap', hv, _, hc', hs'⟩ := hG.row (j := 2) rfl
  cases hv
  obtain ⟨b0, o0, rfl, h0, hx0⟩ := hs.rd.at_ (j := 0) (u := .bool true) rfl
  obtain ⟨_, _, hA, _, hx1⟩ := hs.rd.at_ (j := 1) (u := .bool false) rfl
  cases hA
  obtain ⟨b2, o2, rfl, h2, hy0⟩ := hs'.rd.at_ (j := 0) (u := .bool true) rfl
  obtain ⟨_, _, hA, _, hy1⟩ := hs'.rd.at_ (j := 1) (u := .bool true) rfl
  cases hA
  exact ⟨_, _, _, c, c', b0, o0, b2, o2, rfl, Nat.le_trans hz hb.size, hg, h0, h2, hc, hc', hx0, hx1, hy0, hy1, (hb.cell (p := ⟨q + 3, 0, none⟩) (show q + 3 < _ by omega)).trans hp0, (hb.cell (p := ⟨q + 3, 1, none⟩) (show q + 3 < _ by omega)).trans hp1⟩
set_option maxHeartbeats 4000000 in
set_option maxRecDepth 100000 in
theorem wawake_any (w : World) : Calls Try.prog 29 #[] w (Tru w true) := by
  have H5 := Lib.hid (al5 w (.cells #[.int .i64 3, .int .i64 0, .int .i64 11, .int .i64 0, .int .i64 12, .int .i64 0] 42) (.cells #[.int .u64 0, .int .u64 2, .int .u64 0] 38) (.cells #[.int .u64 2, .int .u64 0, .int .u64 2, .int .u64 0] 38) (.cells #[.slice (some ⟨w.heap.size + 1, 0, none⟩) 3 3, .slice (some ⟨w.heap.size + 1 + 1, 0, none⟩) 4 4] 34) (.cells #[.int .u64 1, .int .u64 0] 38))
  go_enter Try.func29, Try.ntmps29
  go_wp2_with fail
  obtain ⟨w5, hw5, hb5, k0, k1, k2, k3, k4, hz5⟩ := H5.out
  rw [← hw5]
  have HF := Lib.hid (sl_blkW (n := 3) (size := 2) (B := w5.heap.size) (xs := ncells awF) k0 rfl rfl (by decide) (by omega))
  have HS := Lib.hid (sl_blkW (n := 3) (size := 1) (B := w5.heap.size) (xs := ucells [0, 2, 0]) k1 rfl rfl (by decide) (by omega))
  have HL := Lib.hid (sl_blkW (n := 4) (size := 1) (B := w5.heap.size) (xs := ucells [2, 0, 2, 0]) k2 rfl rfl (by decide) (by omega))
  have HP := Lib.hid (sl_blkW (n := 2) (size := 1) (B := w5.heap.size) (xs := ucells [1, 0]) k4 rfl rfl (by decide) (by omega))
  obtain ⟨⟨b0, b1⟩, -⟩ := blk2 k3
  clear hw5 k0 k1 k2 k3 k4
  have hT := truthP_any (some ⟨w.heap.size, 0, none⟩) none (some ⟨w.heap.size + 1 + 1 + 1 + 1, 0, none⟩) 3 0 0 2 2 awF [] [1, 0] w5 HF.out ⟨Sl.none_ _ _ _, HP.out, rfl, rfl⟩ (by omega) (by decide)
  rw [aw_truth] at hT
  refine Calls.mono hT ?_
  rintro e w6 ⟨v, rfl, hG⟩
  obtain ⟨g, o, c, c0, c2, x0, o0, x2, o2, rfl, hA⟩ := aws_of (q := w.heap.size) hG (by omega) b0 b1
  have hb6 : Below w5.heap.size w5 w6 := hG.choose_spec.2.2
  clear hG
  have HA := Lib.hid hA
  obtain ⟨z, lg, l0, l2, r0, r2, X0, X1, Y0, Y1, p0, p1⟩ := hA
  go_wp2_with fail
  obtain ⟨W7, hW7, hb7, k0, k1, hz7⟩ := al2 w6 (.cells #[.int .u64 1] 38) (.cells #[.int .u64 0, .int .u64 2] 38)
  rw [← hW7]
  have hAt := pAt_any _ _ 1 1 2 2 [1] [0, 2] 4 W7 W7.heap.size ⟨sl_blkW (n := 1) (size := 1) (B := W7.heap.size) (xs := ucells [1]) k0 rfl rfl (by decide) (by omega), sl_blkW (n := 2) (size := 1) (B := W7.heap.size) (xs := ucells [0, 2]) k1 rfl rfl (by decide) (by omega), rfl, rfl⟩ (Nat.le_refl _) (by omega) (by omega)
  rw [aw_at] at hAt
  have hA7 := HA.out.below hb7
  clear hW7 k0 k1 r0 r2 X0 X1 Y0 Y1 p0 p1 z lg l0 l2
  refine Calls.mono hAt ?_
  rintro e w8 ⟨rfl, hb8⟩
  have hA8 := Lib.hid (hA7.below hb8)
  obtain ⟨z, lg, l0, l2, r0, r2, X0, X1, Y0, Y1, p0, p1⟩ := hA8.out
  clear hA7
  go_wp2_with fail
  have hb58 : Below w5.heap.size w5 w8 := hb6.trans ((hb7.mono hb6.size).trans (hb8.mono (Nat.le_trans hb6.size hb7.size)))
  have HW8 : Hid (WRd w8 w5.heap.size (some ⟨w.heap.size + 1, 0, none⟩) (some ⟨w.heap.size + 1 + 1, 0, none⟩) 3 3 4 4 [0, 2, 0] [2, 0, 2, 0]) := Lib.hid ⟨HS.out.below hb58 (Nat.le_refl _), HL.out.below hb58 (Nat.le_refl _), rfl, rfl⟩
  have hN := pNorm_any _ _ 3 3 4 4 [0, 2, 0] [2, 0, 2, 0] w8 w5.heap.size HW8.out hb58.size (by omega)
  rw [aw_norm] at hN
  clear r0 r2 X0 X1 Y0 Y1 p0 p1 z lg l0 l2
  refine Calls.mono hN ?_
  rintro e w9 ⟨v1, v2, rfl, ho1, ho2, hb9⟩
  obtain ⟨A1, c1, rfl, hs1⟩ := own_sl ho1
  obtain ⟨A2, c2', rfl, hs2⟩ := own_sl ho2
  have HA9 := Lib.hid (hA8.out.below hb9)
  clear ho1 ho2
  obtain ⟨z, lg, l0, l2, r0, r2, X0, X1, Y0, Y1, p0, p1⟩ := HA9.out
  go_wp2_with fail
  have nb := al1 (Below.refl w9.heap.size w9) (Nat.le_refl _) (.cells #[.int .u64 0, .int .u64 2] 38)
  obtain ⟨W10, hW10⟩ : ∃ W, W = w9.alloc (.cells #[.int .u64 0, .int .u64 2] 38) := ⟨_, rfl⟩
  rw [← hW10] at nb ⊢
  obtain ⟨hb10, k0, hz10⟩ := nb
  have hSm := sameU_any A1 A2 none (some ⟨w9.heap.size, 0, none⟩) 0 c1 2 c2' 0 0 2 2 [] [0, 2] [] [0, 2] W10 W10.heap.size W10.heap.size ⟨(hs1.below hb10 (Nat.le_refl _)).up hb10.size, (hs2.below hb10 (Nat.le_refl _)).up hb10.size, rfl, rfl⟩
    ⟨Sl.none_ _ _ _, sl_blkW (n := 2) (size := 1) (B := W10.heap.size) (xs := ucells [0, 2]) k0 rfl rfl (by decide) (by omega), rfl, rfl⟩ (Nat.le_refl _) (Nat.le_refl _) (by omega) (by omega)
  rw [show decide ((([] : List Int), ([0, 2] : List Int)) = ([], [0, 2])) = true from by decide] at hSm
  clear hW10 k0 r0 r2 X0 X1 Y0 Y1 p0 p1 z lg l0 l2
  refine Calls.mono hSm ?_
  rintro e w11 ⟨rfl, hb11⟩
  have HA11 := Lib.hid ((HA9.out.below hb10).below hb11)
  obtain ⟨z, lg, l0, l2, r0, r2, X0, X1, Y0, Y1, p0, p1⟩ := HA11.out
  go_wp2_with fail
  have hb811 : Below w8.heap.size w8 w11 := hb9.trans ((hb10.mono hb9.size).trans (hb11.mono (Nat.le_trans hb9.size hb10.size)))
  have hb511 : Below w5.heap.size w5 w11 := hb58.trans (hb811.mono hb58.size)
  have HW11 := Lib.hid (HW8.out.below hb811 hb58.size)
  have hH := pHolds_any (some ⟨w.heap.size, 0, none⟩) _ _ 3 3 3 4 4 awF [0, 2, 0] [2, 0, 2, 0] w11 w5.heap.size w5.heap.size (HF.out.below hb511 (Nat.le_refl _)) HW11.out hb511.size hb511.size (by omega) (by decide)
  rw [aw_holds] at hH
  clear r0 r2 X0 X1 Y0 Y1 p0 p1 z lg l0 l2
  refine Calls.mono hH ?_
  rintro e w12 ⟨rfl, hb12⟩
  have HA12 := Lib.hid (HA11.out.below hb12)
  have HW12 := Lib.hid (HW11.out.below hb12 hb511.size)
  obtain ⟨z, lg, l0, l2, r0, r2, X0, X1, Y0, Y1, p0, p1⟩ := HA12.out
  go_wp2_with fail
  have hC := pCheck_any none none 0 0 0 0 [] [] w12 rfl rfl (by omega)
  rw [if_pos rfl] at hC
  clear r0 r2 X0 X1 Y0 Y1 p0 p1 z lg l0 l2
  refine Calls.mono hC ?_
  rintro e w13 ⟨rfl, hb13⟩
  have HA13 := Lib.hid (HA12.out.below hb13)
  have HW13 := Lib.hid (HW12.out.below hb13 (Nat.le_trans hb511.size hb12.size))
  obtain ⟨z, lg, l0, l2, r0, r2, X0, X1, Y0, Y1, p0, p1⟩ := HA13.out
  go_wp2_with fail
  clear r0 r2 X0 X1 Y0 Y1 p0 p1 z lg l0 l2
  refine Calls.mono (pLen_any _ _ 3 3 4 4 w13 (by omega)) ?_
  rintro e w14 ⟨rfl, hb14⟩
  have HA14 := Lib.hid (HA13.out.below hb14)
  have HW14 := Lib.hid (HW13.out.below hb14 (Nat.le_trans hb511.size (Nat.le_trans hb12.size hb13.size)))
  obtain ⟨z, lg, l0, l2, r0, r2, X0, X1, Y0, Y1, p0, p1⟩ := HA14.out
  go_wp2_with fail
  have hb514 : w5.heap.size ≤ w14.heap.size := Nat.le_trans hb511.size (Nat.le_trans hb12.size (Nat.le_trans hb13.size hb14.size))
  have nc := al1 (Below.refl w14.heap.size w14) (Nat.le_refl _) (.cells #[.int .u64 0, .int .u64 2] 38)
  obtain ⟨W15, hW15⟩ : ∃ W, W = w14.alloc (.cells #[.int .u64 0, .int .u64 2] 38) := ⟨_, rfl⟩
  rw [← hW15] at nc ⊢
  obtain ⟨hb15, k0, hz15⟩ := nc
  have hSa := pSame_any _ _ none (some ⟨w14.heap.size, 0, none⟩) 3 3 4 4 0 0 2 2 [0, 2, 0] [2, 0, 2, 0] [] [0, 2] W15 W15.heap.size ((HW14.out.below hb15 hb514).up (Nat.le_trans hb514 hb15.size))
    ⟨Sl.none_ _ _ _, sl_blkW (n := 2) (size := 1) (B := W15.heap.size) (xs := ucells [0, 2]) k0 rfl rfl (by decide) (by omega), rfl, rfl⟩ (Nat.le_refl _) (by omega) (by omega)
  rw [aw_same] at hSa
  clear hW15 k0 r0 r2 X0 X1 Y0 Y1 p0 p1 z lg l0 l2
  refine Calls.mono hSa ?_
  rintro e w16 ⟨rfl, hb16⟩
  have hb1416 : Below w14.heap.size w14 w16 := hb15.trans (hb16.mono hb15.size)
  have HA16 := Lib.hid (HA14.out.below hb1416)
  have HW16 := Lib.hid (HW14.out.below hb1416 hb514)
  obtain ⟨z, lg, l0, l2, r0, r2, X0, X1, Y0, Y1, p0, p1⟩ := HA16.out
  go_wp2_with fail
  have hSh := pShift_any _ _ 3 3 4 4 [0, 2, 0] [2, 0, 2, 0] 4 w16 w5.heap.size HW16.out (Nat.le_trans hb514 hb1416.size) (by omega) (by omega)
  rw [aw_shift] at hSh
  clear r0 r2 X0 X1 Y0 Y1 p0 p1 z lg l0 l2
  refine Calls.mono hSh ?_
  rintro e w17 ⟨v1, v2, rfl, ho1, ho2, hb17⟩
  obtain ⟨D1, d1, rfl, hd1⟩ := own_sl ho1
  obtain ⟨D2, d2, rfl, hd2⟩ := own_sl ho2
  have HA17 := Lib.hid (HA16.out.below hb17)
  clear ho1 ho2
  obtain ⟨z, lg, l0, l2, r0, r2, X0, X1, Y0, Y1, p0, p1⟩ := HA17.out
  go_wp2_with fail
  have nd := al1 (Below.refl w17.heap.size w17) (Nat.le_refl _) (.cells #[.int .u64 0, .int .u64 2, .int .u64 0, .int .u64 2] 38)
  obtain ⟨W18, hW18⟩ : ∃ W, W = w17.alloc (.cells #[.int .u64 0, .int .u64 2, .int .u64 0, .int .u64 2] 38) := ⟨_, rfl⟩
  rw [← hW18] at nd ⊢
  obtain ⟨hb18, k0, hz18⟩ := nd
  have hSm := sameU_any D1 D2 none (some ⟨w17.heap.size, 0, none⟩) 0 d1 4 d2 0 0 4 4 [] [0, 2, 0, 2] [] [0, 2, 0, 2] W18 W18.heap.size W18.heap.size ⟨(hd1.below hb18 (Nat.le_refl _)).up hb18.size, (hd2.below hb18 (Nat.le_refl _)).up hb18.size, rfl, rfl⟩
    ⟨Sl.none_ _ _ _, sl_blkW (n := 4) (size := 1) (B := W18.heap.size) (xs := ucells [0, 2, 0, 2]) k0 rfl rfl (by decide) (by omega), rfl, rfl⟩ (Nat.le_refl _) (Nat.le_refl _) (by omega) (by omega)
  rw [show decide ((([] : List Int), ([0, 2, 0, 2] : List Int)) = ([], [0, 2, 0, 2])) = true from by decide] at hSm
  have hb518 : Below w5.heap.size w5 W18 := hb511.trans (hb12.mono hb511.size |>.trans (hb13.mono (Nat.le_trans hb511.size hb12.size) |>.trans (hb14.mono (Nat.le_trans hb511.size (Nat.le_trans hb12.size hb13.size)) |>.trans (hb1416.mono hb514 |>.trans (hb17.mono (Nat.le_trans hb514 hb1416.size) |>.trans (hb18.mono (Nat.le_trans hb514 (Nat.le_trans hb1416.size hb17.size))))))))
  have hb018 : Below w.heap.size w W18 := hb5.trans (hb518.mono hb5.size)
  clear hW18 k0 r0 r2 X0 X1 Y0 Y1 p0 p1 z lg l0 l2
  refine Calls.mono hSm ?_
  rintro e w19 ⟨rfl, hb19⟩
  go_wp2
  go_ret
  exact ⟨rfl, hb018.trans (hb19.mono hb018.size)⟩
end Go.Proofs.Ytkikkplpalabhaa
