/- Texts that stand one behind the other, in one file. -/
import Derived.Test.YtiebpncpdbnelaaDoorZbv
set_option maxHeartbeats 8000000
set_option maxRecDepth 100000
namespace Go.Proofs.YtiebpncpdbnelaaDoor
open Go.RowKit
theorem twoA_rd {W : World} {q0 q1 q2 q3 B : Nat} (h0 : W.1[q0]? = some (.cells #[.int .i64 1, .int .i64 0] 3 (0, 0))) (h1 : W.1[q1]? = some (.cells #[.int .i64 0, .int .i64 1] 3 (0, 0))) (h2 : W.1[q2]? = some (.cells #[.int .i64 1, .int .i64 0] 3 (0, 0)))
  (h3 : W.1[q3]? = some (.cells #[.int .u64 0, .int .u64 0, .int .u64 1, .slice (some ⟨q1, 0, none⟩) 2 2, .int .u64 0, .int .u64 0, .int .u64 1, .slice (some ⟨q2, 0, none⟩) 2 2] 43 (0, 0))) (hB : q0 < B ∧ q1 < B ∧ q2 < B ∧ q3 < B) :
  AutRd W B twoA (some ⟨q0, 0, none⟩) 2 2 (some ⟨q3, 0, none⟩) 2 2 := by
 refine ⟨rfl, rfl, sl_blkA h0 rfl rfl (by decide) hB.1, _, sl_blkA (n := 2) (size := 4) h3 rfl rfl (by decide) hB.2.2.2, fun k x hk => ?_⟩
 have hkl : k < 2 := (gB.1 hk).1
 rcases lt2 hkl with rfl | rfl
 ·cases hk
  exact ⟨some ⟨q1, 0, none⟩, 2, rfl, rfl, rfl, rfl, sl_blkA h1 rfl rfl (by decide) hB.2.1⟩
 ·cases hk
  exact ⟨some ⟨q2, 0, none⟩, 2, rfl, rfl, rfl, rfl, sl_blkA h2 rfl rfl (by decide) hB.2.2.1⟩
theorem cutA_rd {W : World} {q0 q1 q2 q3 B : Nat} (h0 : W.1[q0]? = some (.cells #[.int .i64 0, .int .i64 1] 3 (0, 0))) (h1 : W.1[q1]? = some (.cells #[.int .i64 0] 3 (0, 0))) (h2 : W.1[q2]? = some (.cells #[.int .i64 1] 3 (0, 0)))
  (h3 : W.1[q3]? = some (.cells #[.int .u64 1, .int .u64 0, .int .u64 1, .slice (some ⟨q1, 0, none⟩) 1 1, .int .u64 0, .int .u64 0, .int .u64 1, .slice (some ⟨q2, 0, none⟩) 1 1] 43 (0, 0))) (hB : q0 < B ∧ q1 < B ∧ q2 < B ∧ q3 < B) :
  AutRd W B cutA (some ⟨q0, 0, none⟩) 2 2 (some ⟨q3, 0, none⟩) 2 2 := by
 refine ⟨rfl, rfl, sl_blkA h0 rfl rfl (by decide) hB.1, _, sl_blkA (n := 2) (size := 4) h3 rfl rfl (by decide) hB.2.2.2, fun k x hk => ?_⟩
 have hkl : k < 2 := (gB.1 hk).1
 rcases lt2 hkl with rfl | rfl
 ·cases hk
  exact ⟨some ⟨q1, 0, none⟩, 1, rfl, rfl, rfl, rfl, sl_blkA h1 rfl rfl (by decide) hB.2.1⟩
 ·cases hk
  exact ⟨some ⟨q2, 0, none⟩, 1, rfl, rfl, rfl, rfl, sl_blkA h2 rfl rfl (by decide) hB.2.2.1⟩
theorem two_any (w : World) : Calls Tryd.prog 36 #[] w (AutOne w twoA) := by
 obtain ⟨W0, hW0⟩ := xQ (w.alloc (.cells #[.int .i64 0, .slice none 0 0, .slice none 0 0] 25))
 have hb0 : Below w.1.size w W0 := by rw [← hW0]; exact bR.alloc lR _
 have k0 : W0.1[w.1.size]? = some (.cells #[.int .i64 0, .slice none 0 0, .slice none 0 0] 25) := by rw [← hW0]; exact heap_alloc_new w _
 have z0 : W0.1.size = w.1.size + 1 := by rw [← hW0]; simp
 obtain ⟨y0, y1, y2⟩ := box3A k0
 have f0 := frozen_of_row W0 _ 0 _ _ k0
 have f1 := frozen_of_row W0 _ 1 _ _ k0
 have f2 := frozen_of_row W0 _ 2 _ _ k0
 have yl : w.1.size < W0.1.size := by omega
 have yl1 : w.1.size < W0.1.size + 1 := by omega
 have yl2 : w.1.size < W0.1.size + 1 + 1 := by omega
 have yl3 : w.1.size < W0.1.size + 1 + 1 + 1 := by omega
 have yl4 : w.1.size < W0.1.size + 1 + 1 + 1 + 1 := by omega
 have HW0 := dh hW0
 have HB0 := dh hb0
 have HK0 := dh k0
 have HZ0 := dh z0
 clear hW0 hb0 k0 z0
 go_enter Tryd.func36, Tryd.ntmps36
 go_upto_region 1 with fail
 rw [HW0.out]
 go_wp2_with fail
 have hset := set3A (a := .int .i64 1) (b := .slice (some ⟨W0.1.size, 0, none⟩) 2 2) (c := .slice (some ⟨W0.1.size + 1 + 1 + 1, 0, none⟩) 2 2) HK0.out rfl
 have htc := tch3A W0 (w.1.size) (.int .i64 1) (.slice (some ⟨W0.1.size, 0, none⟩) 2 2) (.slice (some ⟨W0.1.size + 1 + 1 + 1, 0, none⟩) 2 2)
 obtain ⟨Y, hY⟩ := xQ (((W0.setCell ⟨w.1.size, 0, none⟩ (.int .i64 1)).setCell ⟨w.1.size, 1, none⟩ (.slice (some ⟨W0.1.size, 0, none⟩) 2 2)).setCell ⟨w.1.size, 2, none⟩ (.slice (some ⟨W0.1.size + 1 + 1 + 1, 0, none⟩) 2 2))
 have hzY : Y.1.size = W0.1.size := by rw [← hY]; simp [World.setCell]
 rw [hY] at hset htc ⊢
 obtain ⟨hb4, hz4, hl4⟩ := als ([.cells #[.int .i64 1, .int .i64 0] 3, .cells #[.int .i64 0, .int .i64 1] 3, .cells #[.int .i64 1, .int .i64 0] 3, .cells #[.int .u64 0, .int .u64 0, .int .u64 1, .slice (some ⟨W0.1.size + 1, 0, none⟩) 2 2, .int .u64 0, .int .u64 0, .int .u64 1, .slice (some ⟨W0.1.size + 1 + 1, 0, none⟩) 2 2] 43] : List Obj) Y
 obtain ⟨Z, hZ⟩ := xQ (([.cells #[.int .i64 1, .int .i64 0] 3, .cells #[.int .i64 0, .int .i64 1] 3, .cells #[.int .i64 1, .int .i64 0] 3, .cells #[.int .u64 0, .int .u64 0, .int .u64 1, .slice (some ⟨W0.1.size + 1, 0, none⟩) 2 2, .int .u64 0, .int .u64 0, .int .u64 1, .slice (some ⟨W0.1.size + 1 + 1, 0, none⟩) 2 2] 43] : List Obj).foldl World.alloc Y)
 rw [hZ] at hb4 hz4 hl4
 show bodyPost _ _ _ _ _ (([.cells #[.int .i64 1, .int .i64 0] 3, .cells #[.int .i64 0, .int .i64 1] 3, .cells #[.int .i64 1, .int .i64 0] 3, .cells #[.int .u64 0, .int .u64 0, .int .u64 1, .slice (some ⟨W0.1.size + 1, 0, none⟩) 2 2, .int .u64 0, .int .u64 0, .int .u64 1, .slice (some ⟨W0.1.size + 1 + 1, 0, none⟩) 2 2] 43] : List Obj).foldl World.alloc Y)
 rw [hZ]
 have k0 := hl4 0 _ rfl
 have k1 := hl4 1 _ rfl
 have k2 := hl4 2 _ rfl
 have k3 := hl4 3 _ rfl
 rw [hzY] at k0 k1 k2 k3
 simp only [List.length_cons, List.length_nil] at hz4
 obtain ⟨g0, g1, g2⟩ := box3A ((hb4.block w.1.size (by omega)).trans hset)
 have hbZ : Below w.1.size w Z := (HB0.out.trans (htc.below (show w.1.size ≤ W0.1.size by omega) (fun x hx e => by have e : x = w.1.size := e; omega))).trans (hb4.mono (show w.1.size ≤ Y.1.size by omega))
 refine bodyPost_ret (v := .agg #[.int .i64 1, .slice (some ⟨W0.1.size, 0, none⟩) 2 2, .slice (some ⟨W0.1.size + 1 + 1 + 1, 0, none⟩) 2 2]) ?_ rfl ⟨_, _, _, _, _, _, rfl, twoA_rd k0 k1 k2 k3 (by omega), hbZ⟩
 simp [results, Tryd.results36, go_sem, g0, g1, g2]
end Go.Proofs.YtiebpncpdbnelaaDoor
namespace Go.Proofs.YtiebpncpdbnelaaDoor
open Go.RowKit
theorem boxA (w : World) (x y z : Value) : ∃ W, w.alloc (.cells #[x, y, z] 25) = W ∧ Below w.1.size w W ∧ W.1.size = w.1.size + 1 ∧ W.1[w.1.size]? = some (.cells #[x, y, z] 25 (0, 0)) :=
 ⟨_, rfl, bR.alloc lR _, by simp, heap_alloc_new w _⟩
theorem awake33_any (w : World) (hT : TabAt 0 Lib.deBruijn64tab w) (hg : 0 < w.1.size) : Calls Tryd.prog 14 #[] w (Tru w true) := by
 have HTB : Hid (∀ W', Below w.1.size w W' → TabAt 0 Lib.deBruijn64tab W' ∧ 0 < W'.1.size) := dh (fun W' hb => ⟨fun x hx => bC hb hg (hT x hx), Nat.lt_of_lt_of_le hg hb.size⟩)
 clear hT hg
 have HTW := dh (two_any w)
 go_enter Tryd.func14, Tryd.ntmps14
 go_wp2_with fail
 refine HTW.out.mono ?_
 rintro e w1 ⟨Ti, ti, ei, Tn, tn, en, rfl, hrt, hb1⟩
 have HOF := dh (ofP_ok twoA Ti ti ei Tn tn en w1 w1.1.size hrt lR two_chk (HTB.out w1 hb1).1 (HTB.out w1 hb1).2 10 ⟨by decide, by decide, by decide, by decide⟩ (by decide))
 rw [two_of] at HOF
 have HB1 := dh hb1
 clear hrt hb1
 go_wp2_with fail
 refine HOF.out.mono ?_
 rintro e w2 ⟨Oi, oi, pi, On, on, pn, rfl, hro, hb2, -⟩
 have eoi : oi = 1 := hro.eni
 have eon : on = 1 := hro.enn
 subst eoi
 subst eon
 obtain ⟨bo, oo, x, Ax, cx, rfl, hbo, hx, -, -, c2, c3, -⟩ := rd_aut hro (show 0 < 1 by omega)
 obtain rfl : x = ⟨0, 0, 1, [0]⟩ := by
  have h : oneA.nodes[0]? = some ⟨0, 0, 1, [0]⟩ := rfl
  rw [h] at hx; exact (Option.some.inj hx).symm
 have hpn := (Exists.choose_spec hro.nodes).1.cap
 have hpm := (Exists.choose_spec hro.nodes).1.max
 unfold maxLen at hpm
 have HB2 := dh (HB1.out.trans (hb2.mono HB1.out.size))
 obtain ⟨W3, hW3, hb3, z3, k3⟩ := boxA w2 (.int .i64 1) (.slice Oi 1 pi) (.slice (some ⟨bo, oo, none⟩) 1 pn)
 have HC2 : Hid (w2.cell? ⟨bo, oo + 2, none⟩ = some (.int .u64 1)) := dh (by simpa using c2)
 have HC3 : Hid (w2.cell? ⟨bo, oo + 3, none⟩ = some (.slice Ax 1 cx)) := dh (by simpa using c3)
 have HB23 := dh hb3
 have HB3 := dh (HB2.out.trans (hb3.mono HB2.out.size))
 have HK3 := dh k3
 have HW3 := dh hW3
 clear hro hb2 hx c2 c3 hb3 z3 k3 hW3
 go_upto_region 2 with fail
 show Code.wp _ _ _ _ (w2.alloc (.cells #[.int .i64 1, .slice Oi 1 pi, .slice (some ⟨bo, oo, none⟩) 1 pn] 25))
 rw [HW3.out]
 obtain ⟨hb7, hz7, hl7⟩ := als ([.cells #[.int .i64 0, .int .i64 1] 3, .cells #[.int .i64 0] 3, .cells #[.int .i64 1] 3, .cells #[.int .u64 1, .int .u64 0, .int .u64 1, .slice (some ⟨W3.1.size + 1, 0, none⟩) 1 1, .int .u64 0, .int .u64 0, .int .u64 1, .slice (some ⟨W3.1.size + 1 + 1, 0, none⟩) 1 1] 43] : List Obj) W3
 obtain ⟨W7, hW7⟩ := xQ (([.cells #[.int .i64 0, .int .i64 1] 3, .cells #[.int .i64 0] 3, .cells #[.int .i64 1] 3, .cells #[.int .u64 1, .int .u64 0, .int .u64 1, .slice (some ⟨W3.1.size + 1, 0, none⟩) 1 1, .int .u64 0, .int .u64 0, .int .u64 1, .slice (some ⟨W3.1.size + 1 + 1, 0, none⟩) 1 1] 43] : List Obj).foldl World.alloc W3)
 rw [hW7] at hb7 hz7 hl7
 have j0 := hl7 0 _ rfl
 have j1 := hl7 1 _ rfl
 have j2 := hl7 2 _ rfl
 have j3 := hl7 3 _ rfl
 simp only [List.length_cons, List.length_nil] at hz7
 have HPR := dh (pruneP_any cutA (some ⟨W3.1.size, 0, none⟩) 2 2 (some ⟨W3.1.size + 1 + 1 + 1, 0, none⟩) 2 2 W7 W7.1.size (cutA_rd j0 j1 j2 j3 (by omega)) lR cut_chk (by decide) (by decide) 10 (by decide) (by decide) (by decide))
 rw [cut_prune] at HPR
 have HPR2 := HPR.out
 rw [← hW7] at HPR2
 simp only [List.foldl_cons, List.foldl_nil] at HPR2
 have HPS := dh HPR2
 have HB7 := dh (HB3.out.trans (hb7.mono HB3.out.size))
 have HB37 := dh hb7
 have HW7 := dh hW7
 simp only [List.foldl_cons, List.foldl_nil] at hW7
 have HW7 := dh hW7
 clear hb7 hz7 hl7 j0 j1 j2 j3 hW7 HPR2 HPR
 go_wp2_with fail
 refine HPS.out.mono ?_
 rw [HW7.out]
 rintro e w8 ⟨Pi, pi2, qi, Pn, pn2, qn, rfl, hrp, hb8, -⟩
 have epi : pi2 = 1 := hrp.eni
 have epn : pn2 = 2 := hrp.enn
 subst epi
 subst epn
 have hqc := hrp.init.cap
 have hqm := hrp.init.max
 unfold maxLen at hqm
 obtain ⟨bp, op, rfl, hbp, c4⟩ := hrp.init.rd.at_ (j := 0) (show (icells [(1 : Int)])[0]? = some (.int .i64 1) from rfl)
 have HB8 := dh (HB7.out.trans (hb8.mono HB7.out.size))
 have HB38 := dh (HB37.out.trans (hb8.mono HB37.out.size))
 obtain ⟨W9, hW9, hb9, z9, k9⟩ := boxA w8 (.int .i64 1) (.slice (some ⟨bp, op, none⟩) 1 qi) (.slice Pn 2 qn)
 have HC4 : Hid (w8.cell? ⟨bp, op, none⟩ = some (.int .i64 1)) := dh (by simpa using c4)
 have HB89 := dh hb9
 have HB9 := dh (HB8.out.trans (hb9.mono HB8.out.size))
 have HB39 := dh (HB38.out.trans (hb9.mono HB38.out.size))
 have HK9 := dh k9
 have HW9 := dh hW9
 have HT9 := dh (two_any W9)
 clear hrp hb8 c4 hb9 z9 k9 hW9
 go_upto_region 3 with fail
 show Code.wp _ _ _ _ (w8.alloc (.cells #[.int .i64 1, .slice (some ⟨bp, op, none⟩) 1 qi, .slice Pn 2 qn] 25))
 rw [HW9.out]
 go_wp2_with fail
 refine HT9.out.mono ?_
 rintro e w10 ⟨Ui, ui, fi, Un, un, fn, rfl, hru, hb10⟩
 have HM := dh (mergeP_any twoA Ui ui fi Un un fn w10 w10.1.size hru lR two_chk (by decide) (by decide) 10 (by decide) (by decide) (by decide))
 rw [two_merge] at HM
 have HB10 := dh (HB9.out.trans (hb10.mono HB9.out.size))
 have HB910 := dh hb10
 clear hru hb10
 go_wp2_with fail
 refine HM.out.mono ?_
 rintro e w11 ⟨Mi, m1, ki, Mn, m2, kn, rfl, hrm, hb11, -⟩
 have em2 : m2 = 1 := hrm.enn
 subst em2
 have HB11 := dh (HB10.out.trans (hb11.mono HB10.out.size))
 have HB911 := dh (HB910.out.trans (hb11.mono HB910.out.size))
 obtain ⟨W12, hW12, hb12, z12, k12⟩ := boxA w11 (.int .i64 1) (.slice Mi m1 ki) (.slice Mn 1 kn)
 have HB12 := dh (HB11.out.trans (hb12.mono HB11.out.size))
 have HB912 := dh (HB911.out.trans (hb12.mono HB911.out.size))
 have HB312 := dh (HB39.out.trans (HB912.out.mono HB39.out.size))
 have HW12 := dh hW12
 have HK12 := dh k12
 clear hrm hb11 hb12 z12 k12 hW12
 go_upto_region 4 with fail
 show Code.wp _ _ _ _ (w11.alloc (.cells #[.int .i64 1, .slice Mi m1 ki, .slice Mn 1 kn] 25))
 rw [HW12.out]
 obtain ⟨a0, a1, a2⟩ := box3A ((HB312.out.block w2.1.size (aI.1 HK3.out).1).trans HK3.out)
 obtain ⟨b0, b1, b2⟩ := box3A ((HB912.out.block w8.1.size (aI.1 HK9.out).1).trans HK9.out)
 obtain ⟨e0, e1, e2⟩ := box3A HK12.out
 have n2 := bC (HB23.out.trans (HB312.out.mono HB23.out.size)) hbo HC2.out
 have n3 := bC (HB23.out.trans (HB312.out.mono HB23.out.size)) hbo HC3.out
 have n4 := bC (HB89.out.trans (HB912.out.mono HB89.out.size)) hbp HC4.out
 go_wp2_with fail
 go_ret
 exact ⟨rfl, HB12.out⟩
end Go.Proofs.YtiebpncpdbnelaaDoor
