/- The walk of the laws of layer 6: awake. -/
import Derived.Test.YtfpncpjdmgfkbaaGr18
import Derived.Test.YtfpncpjdmgfkbaaGr16
import Derived.Test.YtfpncpjdmgfkbaaGr13
import Derived.Test.YtfpncpjdmgfkbaaGr8
import Derived.Test.YtfpncpjdmgfkbaaGr2
import Derived.Test.YtfpncpjdmgfkbaaGr4
import Derived.Test.YtfpncpjdmgfkbaaMd
namespace Go.Proofs.Ytfpncpjdmgfkbaa
open Go.RowKit

def Gt : Gph := ⟨[0], totalE Gsq.edges, [0, 0, 0, 0]⟩
def G00 : Gph := ⟨[0], [], []⟩
theorem aw_path : pathG 4 (farG 4 (turnE Gsq.edges) (goalsG 4 [false, false, false, true])) Gsq.edges [0] = ([0, 1, 3], true) := by decide +kernel
theorem aw_check : checkG Gsq = 0 := by decide +kernel
theorem aw_check0 : checkG G00 = 10 := by decide +kernel
theorem aw_reach : reachG 4 Gsq.edges [2] = [false, false, true, true] := by decide +kernel
theorem aw_total : totalE Gsq.edges = [[⟨2, 7⟩, ⟨1, 0⟩], [⟨3, 0⟩], [⟨3, 0⟩], [⟨3, -1⟩]] := by decide +kernel
theorem aw_same : sameG Gsq Gsq = true := by decide +kernel
theorem aw_differ : sameG Gsq Gt = false := by decide +kernel
theorem aw_len : ∀ l ∈ Gsq.edges, l.length ≤ 2 := by decide +kernel

set_option maxHeartbeats 2000000 in
set_option maxRecDepth 100000 in
theorem awake_any (w : World) : Calls Try.prog 16 #[] w (Tru w true) := by
  have HSQ := Lib.hid (fun w => square_any w)
  go_enter Try.func16, Try.ntmps16
  go_wp2_with fail
  refine Calls.mono (HSQ.out _) ?_
  rintro e w1 ⟨ai, ni, ci, ae, ne, ce, al, nl, cl, rfl, hG, hb1⟩
  have hz1 := hb1.size
  have hl := hG.lens
  simp [Gsq] at hl
  obtain ⟨rfl, rfl, rfl⟩ := hl
  have HG := Lib.hid hG
  clear hG
  go_wp2_with fail
  have hA := heap_allocL [.cells #[.slice ai 1 ci, .slice ae 4 ce, .slice al 4 cl] 26, .cells #[.int .i64 0] 3, .cells #[.bool false, .bool false, .bool false, .bool true] 4] w1
  simp only [List.foldl_cons, List.foldl_nil] at hA
  obtain ⟨h1, hb2, hz2⟩ := hA
  simp only [Nat.add_assoc, Nat.reduceAdd]
  generalize ((w1.alloc (.cells #[.slice ai 1 ci, .slice ae 4 ce, .slice al 4 cl] 26)).alloc (.cells #[.int .i64 0] 3)).alloc (.cells #[.bool false, .bool false, .bool false, .bool true] 4) = W2 at *
  have b0 : W2.heap[w1.heap.size]? = some (.cells #[.slice ai 1 ci, .slice ae 4 ce, .slice al 4 cl] 26 (0, 0)) := h1 0 (by simp)
  have b1 := h1 1 (by simp)
  have b2 := h1 2 (by simp)
  simp only [List.length_cons, List.length_nil, Nat.zero_add, Nat.reduceAdd] at hz2
  clear h1
  have HPA := Lib.hid (pathP_any ai ae al 1 ci 4 ce 4 cl Gsq [0] [false, false, false, true] (some ⟨w1.heap.size + 1, 0, none⟩) 1 1 (some ⟨w1.heap.size + 2, 0, none⟩) 4 4 W2 W2.heap.size ((HG.out.below hb2 (Nat.le_refl _)).up (by omega)) (sl_blk (T := 3) (cs := #[.int .i64 0]) b1 rfl (by decide) (by decide) (by omega)) rfl (sl_blk (T := 4) (cs := #[.bool false, .bool false, .bool false, .bool true]) b2 rfl (by decide) (by decide) (by omega)) rfl (Nat.le_refl _) (by omega) (by omega) (by omega) (by omega) (by omega) 2 aw_len (by omega) (by omega))
  have HB0 := Lib.hid b0
  have HZ2 := Lib.hid hz2
  have hz2' : w1.heap.size + 3 ≤ W2.heap.size := by omega
  clear b0 b1 b2 hz2
  refine Calls.mono HPA.out ?_
  rw [aw_path]
  rintro e w3 ⟨v, rfl, hown, hb3⟩
  have hz3 := hb3.size
  obtain ⟨gp, capp, rfl, _⟩ := own_form hown (by simp)
  have hB3 := (hb3.block w1.heap.size (by omega)).trans HB0.out
  obtain ⟨⟨c30, c31, c32⟩, _, _⟩ := blk3 hB3
  have HOW := Lib.hid hown
  have HBK3 := Lib.hid hB3
  have hb13 : Below w1.heap.size w1 w3 := hb2.trans (hb3.mono (by omega))
  have hG3 := (HG.out.below hb13 (Nat.le_refl _)).up (show w1.heap.size ≤ w3.heap.size by omega)
  have HTO := Lib.hid (totalP_any ai ae al 1 ci 4 ce 4 cl Gsq w3 w3.heap.size hG3 (Nat.le_refl _) (by omega) (by omega) (by omega) 2 aw_len (by omega) (by omega))
  have HG3 := Lib.hid hG3
  clear hown hB3 HPA HG HB0 HZ2 hG3
  go_wp2_with fail
  refine Calls.mono HTO.out ?_
  rintro e w4 ⟨bi, mi, di, be, me, de, bl, ml, dl, rfl, hT, hb4, _⟩
  have hz4 := hb4.size
  have hT' : GrRd w4 w4.heap.size bi mi di be me de bl ml dl Gt := hT
  have hl := hT'.lens
  simp [Gt, aw_total] at hl
  obtain ⟨rfl, rfl, rfl⟩ := hl
  obtain ⟨W5, hW5, hb5, hz5, q50, q51, q52⟩ := boxed3 w4 (.slice bi 1 di) (.slice be 4 de) (.slice bl 4 dl) 26
  have HW5 := Lib.hid hW5
  have hb35 : Below w3.heap.size w3 W5 := hb4.trans (hb5.mono hz4)
  have p50 := (hb35.cell (p := ⟨w1.heap.size, 0, none⟩) (show w1.heap.size < w3.heap.size by omega)).trans c30
  have p51 := (hb35.cell (p := ⟨w1.heap.size, 1, none⟩) (show w1.heap.size < w3.heap.size by omega)).trans c31
  have p52 := (hb35.cell (p := ⟨w1.heap.size, 2, none⟩) (show w1.heap.size < w3.heap.size by omega)).trans c32
  have hG5 := (HG3.out.below hb35 (Nat.le_refl _)).up (show w3.heap.size ≤ W5.heap.size by omega)
  have hT5 := (hT'.below hb5 (Nat.le_refl _)).up (show w4.heap.size ≤ W5.heap.size by omega)
  have hown5 := own_below HOW.out hb35
  have hz15 : w1.heap.size < W5.heap.size := by omega
  have hz45 : w4.heap.size < W5.heap.size := by omega
  have HZ15 : Below w.heap.size w W5 := (hb1.trans (hb13.mono hz1)).trans (hb35.mono (by omega))
  have HCK := Lib.hid (checkP_any ai ae al 1 ci 4 ce 4 cl Gsq W5 W5.heap.size hG5 (Nat.le_refl _) (by omega) (by omega) (by omega) (fun l hl => Nat.le_trans (aw_len l hl) (by omega)))
  have HG5 := Lib.hid hG5
  have HT5 := Lib.hid hT5
  have HO5 := Lib.hid hown5
  have HBW := Lib.hid HZ15
  clear hT hT' HG3 HOW HBK3 hW5 hb35 hG5 hT5 hown5 HZ15 c30 c31 c32 hb13 hb1 hb2 hb3 hb4 hb5 hz5 HTO HSQ
  go_upto_region 4 with fail
  rw [← HW5.out]
  go_wp2_with fail
  refine Calls.mono HCK.out ?_
  rw [aw_check]
  rintro e w6 ⟨rfl, hb6⟩
  have hz6 := hb6.size
  have p60 := (hb6.cell (p := ⟨w1.heap.size, 0, none⟩) (show w1.heap.size < W5.heap.size by omega)).trans p50
  have p61 := (hb6.cell (p := ⟨w1.heap.size, 1, none⟩) (show w1.heap.size < W5.heap.size by omega)).trans p51
  have p62 := (hb6.cell (p := ⟨w1.heap.size, 2, none⟩) (show w1.heap.size < W5.heap.size by omega)).trans p52
  have q60 := (hb6.cell (p := ⟨w4.heap.size, 0, none⟩) (show w4.heap.size < W5.heap.size by omega)).trans q50
  have q61 := (hb6.cell (p := ⟨w4.heap.size, 1, none⟩) (show w4.heap.size < W5.heap.size by omega)).trans q51
  have q62 := (hb6.cell (p := ⟨w4.heap.size, 2, none⟩) (show w4.heap.size < W5.heap.size by omega)).trans q52
  clear HCK HW5
  go_wp2_with fail
  have hb6a : Below W5.heap.size W5 (w6.alloc (.cells #[.int .i64 0] 3)) := hb6.alloc hz6 _
  refine (checkP_any (some ⟨w6.heap.size, 0, none⟩) none none 1 1 0 0 0 0 G00 _ (w6.heap.size + 1) ⟨sl_blk (T := 3) (cs := #[.int .i64 0]) (heap_alloc_new w6 _) rfl (by decide) (by decide) (by omega), Sl2.none_ _ _ _, Sl.none_ _ _ _⟩ (by simp) (by omega) (by omega) (by omega) (by simp [G00])).mono ?_
  rw [aw_check0]
  rintro e w7 ⟨rfl, hb7'⟩
  have hb7 : Below W5.heap.size W5 w7 := hb6a.trans (hb7'.mono (by simp; omega))
  have hz7 := hb7.size
  have p70 := (hb7.cell (p := ⟨w1.heap.size, 0, none⟩) (show w1.heap.size < W5.heap.size by omega)).trans p50
  have p71 := (hb7.cell (p := ⟨w1.heap.size, 1, none⟩) (show w1.heap.size < W5.heap.size by omega)).trans p51
  have p72 := (hb7.cell (p := ⟨w1.heap.size, 2, none⟩) (show w1.heap.size < W5.heap.size by omega)).trans p52
  have q70 := (hb7.cell (p := ⟨w4.heap.size, 0, none⟩) (show w4.heap.size < W5.heap.size by omega)).trans q50
  have q71 := (hb7.cell (p := ⟨w4.heap.size, 1, none⟩) (show w4.heap.size < W5.heap.size by omega)).trans q51
  have q72 := (hb7.cell (p := ⟨w4.heap.size, 2, none⟩) (show w4.heap.size < W5.heap.size by omega)).trans q52
  clear p60 p61 p62 q60 q61 q62 hb6a hb7' hb6 hz6
  go_wp2_with fail
  have hb7a : Below W5.heap.size W5 (w7.alloc (.cells #[.int .i64 0, .int .i64 1, .int .i64 3] 3)) := hb7.alloc hz7 _
  obtain ⟨A0, c0, hv0, hs0⟩ := own_sl (own_below HO5.out hb7a)
  cases hv0
  refine (intsL_any _ _ _ _ 3 3 [0, 1, 3] [0, 1, 3] _ _ (w7.heap.size + 1) hs0 (sl_blk (T := 3) (cs := #[.int .i64 0, .int .i64 1, .int .i64 3]) (heap_alloc_new w7 _) rfl (by decide) (by decide) (by omega)) rfl rfl (by decide)).mono ?_
  rintro e w8 ⟨rfl, nd, rfl⟩
  have hb8 : Below W5.heap.size W5 ((w7.alloc (.cells #[.int .i64 0, .int .i64 1, .int .i64 3] 3)).drewN nd) := hb7a.trans ((below_len rfl).mono hb7a.size)
  generalize (w7.alloc (.cells #[.int .i64 0, .int .i64 1, .int .i64 3] 3)).drewN nd = w8 at *
  have hz8 := hb8.size
  have p80 := (hb8.cell (p := ⟨w1.heap.size, 0, none⟩) (show w1.heap.size < W5.heap.size by omega)).trans p50
  have p81 := (hb8.cell (p := ⟨w1.heap.size, 1, none⟩) (show w1.heap.size < W5.heap.size by omega)).trans p51
  have p82 := (hb8.cell (p := ⟨w1.heap.size, 2, none⟩) (show w1.heap.size < W5.heap.size by omega)).trans p52
  have q80 := (hb8.cell (p := ⟨w4.heap.size, 0, none⟩) (show w4.heap.size < W5.heap.size by omega)).trans q50
  have q81 := (hb8.cell (p := ⟨w4.heap.size, 1, none⟩) (show w4.heap.size < W5.heap.size by omega)).trans q51
  have q82 := (hb8.cell (p := ⟨w4.heap.size, 2, none⟩) (show w4.heap.size < W5.heap.size by omega)).trans q52
  clear p70 p71 p72 q70 q71 q72 hb7a hb7 hz7 hs0
  have hd0 : decide ([(0 : Int), 1, 3] = [0, 1, 3]) = true := by decide
  go_wp2_with fail
  have hb8a : Below W5.heap.size W5 (w8.alloc (.cells #[.int .i64 2] 3)) := hb8.alloc hz8 _
  have hb8s := hb8a.size
  refine (reachP_any ai ae al 1 ci 4 ce 4 cl Gsq [2] _ 1 1 _ (w8.heap.size + 1) ((HG5.out.below hb8a (Nat.le_refl _)).up (by omega)) (sl_blk (T := 3) (cs := #[.int .i64 2]) (heap_alloc_new w8 _) rfl (by decide) (by decide) (by omega)) rfl (by simp) (by omega) (by omega) (fun l hl => Nat.le_trans (aw_len l hl) (by omega))).mono ?_
  rw [aw_reach]
  rintro e w9 ⟨v9, rfl, hown9, hb9', _⟩
  have hb9 : Below W5.heap.size W5 w9 := hb8a.trans (hb9'.mono (by omega))
  have hz9 := hb9.size
  obtain ⟨g9, c9, rfl, _⟩ := own_form hown9 (by omega)
  have HO9 := Lib.hid hown9
  have p90 := (hb9.cell (p := ⟨w1.heap.size, 0, none⟩) (show w1.heap.size < W5.heap.size by omega)).trans p50
  have p91 := (hb9.cell (p := ⟨w1.heap.size, 1, none⟩) (show w1.heap.size < W5.heap.size by omega)).trans p51
  have p92 := (hb9.cell (p := ⟨w1.heap.size, 2, none⟩) (show w1.heap.size < W5.heap.size by omega)).trans p52
  have q90 := (hb9.cell (p := ⟨w4.heap.size, 0, none⟩) (show w4.heap.size < W5.heap.size by omega)).trans q50
  have q91 := (hb9.cell (p := ⟨w4.heap.size, 1, none⟩) (show w4.heap.size < W5.heap.size by omega)).trans q51
  have q92 := (hb9.cell (p := ⟨w4.heap.size, 2, none⟩) (show w4.heap.size < W5.heap.size by omega)).trans q52
  clear p80 p81 p82 q80 q81 q82 hb8a hb8s hb9' hb8 hz8 hown9
  go_wp2_with fail
  have hb9a : Below W5.heap.size W5 (w9.alloc (.cells #[.bool false, .bool false, .bool true, .bool true] 4)) := hb9.alloc hz9 _
  obtain ⟨A0', c0', hv0, hs0⟩ := own_sl (own_below HO9.out (below_alW (.cells #[.bool false, .bool false, .bool true, .bool true] 4)))
  cases hv0
  refine (boolsL_any _ _ _ _ 4 4 [false, false, true, true] [false, false, true, true] _ _ (w9.heap.size + 1) hs0 (sl_blk (T := 4) (cs := #[.bool false, .bool false, .bool true, .bool true]) (heap_alloc_new w9 _) rfl (by decide) (by decide) (by omega)) rfl rfl (by decide)).mono ?_
  rintro e w10 ⟨rfl, nd2, rfl⟩
  have hbx : Below W5.heap.size W5 ((w9.alloc (.cells #[.bool false, .bool false, .bool true, .bool true] 4)).drewN nd2) := hb9a.trans ((below_len rfl).mono hb9a.size)
  generalize (w9.alloc (.cells #[.bool false, .bool false, .bool true, .bool true] 4)).drewN nd2 = wx at *
  have hzx := hbx.size
  have px0 := (hbx.cell (p := ⟨w1.heap.size, 0, none⟩) (show w1.heap.size < W5.heap.size by omega)).trans p50
  have px1 := (hbx.cell (p := ⟨w1.heap.size, 1, none⟩) (show w1.heap.size < W5.heap.size by omega)).trans p51
  have px2 := (hbx.cell (p := ⟨w1.heap.size, 2, none⟩) (show w1.heap.size < W5.heap.size by omega)).trans p52
  have qx0 := (hbx.cell (p := ⟨w4.heap.size, 0, none⟩) (show w4.heap.size < W5.heap.size by omega)).trans q50
  have qx1 := (hbx.cell (p := ⟨w4.heap.size, 1, none⟩) (show w4.heap.size < W5.heap.size by omega)).trans q51
  have qx2 := (hbx.cell (p := ⟨w4.heap.size, 2, none⟩) (show w4.heap.size < W5.heap.size by omega)).trans q52
  clear p90 p91 p92 q90 q91 q92 hb9a hb9 hz9 hs0
  have hd1 : decide ([false, false, true, true] = [false, false, true, true]) = true := by decide
  have hTx := HT5.out.below hbx (Nat.le_refl _)
  obtain ⟨bE, oE, A3, n3, c3, rfl, hbE, hrc, hrs⟩ := hTx.he.at_ (j := 3) (ys := ncells [⟨3, -1⟩]) (by simp [Gt, aw_total])
  have hn3 : n3 = 1 := by have := hrs.len; simp [ncells] at this; omega
  subst hn3
  obtain ⟨b3, o3, rfl, hb3, he0, he1⟩ := rd_nd (f := [⟨3, -1⟩]) hrs.rd (k := 0) (by decide)
  simp at he0 he1
  have hed := neq_ed
  clear hrs hTx
  go_wp2_with fail
  clear hed hd0 hd1 hrc he0 he1
  have hGx := (HG5.out.below hbx (Nat.le_refl _)).up (show W5.heap.size ≤ wx.heap.size by omega)
  refine (sameP_any ai ae al 1 ci 4 ce 4 cl ai ae al 1 ci 4 ce 4 cl Gsq Gsq wx wx.heap.size hGx hGx (Nat.le_refl _) (by omega) (by omega) (by omega) (fun l hl => Nat.le_trans (aw_len l hl) (by omega))).mono ?_
  rw [aw_same]
  rintro e wy ⟨rfl, hby'⟩
  have hby : Below W5.heap.size W5 wy := hbx.trans (hby'.mono hzx)
  have hzy := hby.size
  have py0 := (hby.cell (p := ⟨w1.heap.size, 0, none⟩) (show w1.heap.size < W5.heap.size by omega)).trans p50
  have py1 := (hby.cell (p := ⟨w1.heap.size, 1, none⟩) (show w1.heap.size < W5.heap.size by omega)).trans p51
  have py2 := (hby.cell (p := ⟨w1.heap.size, 2, none⟩) (show w1.heap.size < W5.heap.size by omega)).trans p52
  have qy0 := (hby.cell (p := ⟨w4.heap.size, 0, none⟩) (show w4.heap.size < W5.heap.size by omega)).trans q50
  have qy1 := (hby.cell (p := ⟨w4.heap.size, 1, none⟩) (show w4.heap.size < W5.heap.size by omega)).trans q51
  have qy2 := (hby.cell (p := ⟨w4.heap.size, 2, none⟩) (show w4.heap.size < W5.heap.size by omega)).trans q52
  have hGy := (HG5.out.below hby (Nat.le_refl _)).up (show W5.heap.size ≤ wy.heap.size by omega)
  have hTy := (HT5.out.below hby (Nat.le_refl _)).up (show W5.heap.size ≤ wy.heap.size by omega)
  have HSD := Lib.hid (sameP_any ai ae al 1 ci 4 ce 4 cl bi _ bl 1 di 4 de 4 dl Gsq Gt wy wy.heap.size hGy hTy (Nat.le_refl _) (by omega) (by omega) (by omega) (fun l hl => Nat.le_trans (aw_len l hl) (by omega)))
  clear px0 px1 px2 qx0 qx1 qx2 hby' hGx hGy hTy
  go_wp2_with fail
  refine Calls.mono HSD.out ?_
  rw [aw_differ]
  rintro e wz ⟨rfl, hbz⟩
  go_wp2
  go_ret
  exact ⟨rfl, HBW.out.trans ((hby.trans (hbz.mono hzy)).mono (by omega))⟩
end Go.Proofs.Ytfpncpjdmgfkbaa
