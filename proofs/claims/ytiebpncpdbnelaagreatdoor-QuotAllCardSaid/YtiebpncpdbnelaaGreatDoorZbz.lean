/- Texts that stand one behind the other, in one file. -/
import Derived.Test.YtiebpncpdbnelaaGreatDoorZbu
import Derived.Test.YtiebpncpdbnelaaGreatDoorRd6
import Derived.Test.YtiebpncpdbnelaaGreatDoorTie
import Derived.Test.YtiebpncpdbnelaaGreatDoorCards
import Derived.SevenTiedAt
import Derived.LaidMore
import Derived.Lib.LaidTab
import Derived.RangeFuncOwn
set_option maxHeartbeats 8000000
set_option maxRecDepth 100000
namespace Go.Proofs.YtiebpncpdbnelaaGreatDoor
open Go.RowKit
theorem ofR_ok (a : Aut) (Ai : Option Addr) (ni ci : Nat) (An : Option Addr) (nn cn : Nat) (w : World) (B : Nat) (h : AutRd w B a Ai ni ci An nn cn) (hB : B ≤ w.1.size) (hck : chkA a = 0) (KE : Nat) (hd : NDA a KE) (hKE : KE ≤ 1000000) :
  Calls Tryz.prog 8 #[.agg #[.int .i64 a.sets, .slice Ai ni ci, .slice An nn cn]] w (AutOneS w (ofQ a)) := by
 have hr := hd.rows
 have hri := hd.init
 obtain ⟨hb0, x0, y0, z0⟩ := two_new w (.cells #[.int .i64 a.sets, .slice Ai ni ci, .slice An nn cn] 25) (.cells #[.int .i64 0, .slice none 0 0, .slice none 0 0] 25)
 obtain ⟨W0, hW0⟩ := xQ ((w.alloc (.cells #[.int .i64 a.sets, .slice Ai ni ci, .slice An nn cn] 25)).alloc (.cells #[.int .i64 0, .slice none 0 0, .slice none 0 0] 25))
 rw [hW0] at hb0 x0 y0 z0
 have HR0 := dh (h.below hb0 hB)
 have HC0 := dh (chkR_any a Ai ni ci An nn cn W0 B HR0.out (by omega))
 have HGA := dh (chk_iff.1 hck)
 have HD := dh hd
 have HW0 := dh hW0
 have HB0 := dh hb0
 have HX0 := dh x0
 have HY0 := dh y0
 have HCK := dh hck
 have hBw : B ≤ w.1.size := hB
 have hww : w.1.size + 1 < W0.1.size := by omega
 obtain ⟨q0, q1, q2⟩ := box3A x0
 clear hW0 hb0 x0 y0 z0 h hr hri hd hck
 go_enter Tryz.func8, Tryz.ntmps8
 go_upto_region 1 with fail
 rw [HW0.out]
 go_wp2_with fail
 refine HC0.out.mono ?_
 rintro e w1 ⟨rfl, hb1⟩
 rw [HCK.out]
 have hz1 := hb1.size
 obtain ⟨V1, hV1⟩ := xQ (w1.alloc (.cells #[.int .i64 a.sets, .slice Ai ni ci, .slice An nn cn] 25))
 have hbV1 : Below w1.1.size w1 V1 := by rw [← hV1]; exact bR.alloc lR _
 have kV1 : V1.1[w1.1.size]? = some (.cells #[.int .i64 a.sets, .slice Ai ni ci, .slice An nn cn] 25 (0, 0)) := by rw [← hV1]; exact heap_alloc_new w1 _
 have zV1 : w1.1.size < V1.1.size := by rw [← hV1]; simp
 have HB01 := dh (hb1.trans (hbV1.mono hz1))
 have HBWV := dh (HB0.out.trans (HB01.out.mono (show w.1.size ≤ W0.1.size by omega)))
 have HYW : Hid (V1.1[w.1.size + 1]? = some (.cells #[.int .i64 0, .slice none 0 0, .slice none 0 0] 25 (0, 0))) := dh ((HB01.out.block (w.1.size + 1) hww).trans HY0.out)
 have HX1 := dh kV1
 obtain ⟨gw, hgw⟩ := xQ w1.1.size
 have HP1 : Hid (∀ W2, Tch (fun k => k = gw) V1 W2 → AutRd W2 W2.1.size a Ai ni ci An nn cn) := dh (fun W2 ht => by
  have h := ((HR0.out.below HB01.out (by omega)).tchA ht (by omega) (fun b hb e => by have e : b = gw := e; omega))
  exact h.up (by have := ht.size; omega))
 have HV1 := dh hV1
 rw [hgw] at HX1 zV1
 have hwg : w.1.size + 1 < gw := by omega
 have q0 : w1.cell? ⟨w.1.size, 0, none⟩ = some (.int .i64 a.sets) := bC hb1 (by omega) q0
 have q1 : w1.cell? ⟨w.1.size, 1, none⟩ = some (.slice Ai ni ci) := bC hb1 (by omega) q1
 have q2 : w1.cell? ⟨w.1.size, 2, none⟩ = some (.slice An nn cn) := bC hb1 (by omega) q2
 clear hb1 hbV1 kV1 hV1
 go_wp2_with fail
 rw [HV1.out]
 clear hgw q0 q1 q2
 go_loopg [4] (mu a) (fun gk _ wr => ∃ (b : Aut) (Bi : Option Addr) (mi di : Nat) (Bn : Option Addr) (mn dn : Nat), mu b ≤ gk ∧ Hid (GoodA b) ∧ Hid (NDA b KE) ∧ Hid (ofQ b = ofQ a) ∧ Hid (wr.1[gw]? = some (.cells #[.int .i64 b.sets, .slice Bi mi di, .slice Bn mn dn] 25 (0, 0))) ∧ Hid (∀ W2, Tch (fun k => k = gw) wr W2 → AutRd W2 W2.1.size b Bi mi di Bn mn dn) ∧ Hid (Tch (fun k => k = gw) V1 wr))
 case atStart => exact ⟨a, Ai, ni, ci, An, nn, cn, lR, HGA, HD, dh rfl, HX1, HP1, dh (Tch.refl _ _)⟩
 case round =>
  obtain ⟨b, Bi, mi, di, Bn, mn, dn, hmu, HGB, HDB, HOB, HXB, HPB, HTC⟩ := hrel
  clear HX1 HP1
  have hzr := HTC.out.size
  have HBW : Hid (Below w.1.size w wr) := dh (HBWV.out.trans (HTC.out.below (show w.1.size ≤ V1.1.size by omega) (fun x hx e => by have e : x = gw := e; omega)))
  have hzw := HBW.out.size
  have hgr : gw < wr.1.size := (aI.1 HXB.out).1
  obtain ⟨b1, hb1⟩ := xQ (trimA b)
  obtain ⟨b2, hb2⟩ := xQ (mergeA b1)
  obtain ⟨b3, hb3⟩ := xQ (pruneA b2)
  obtain ⟨b4, hb4⟩ := xQ (trimA b3)
  have HST : Hid (qstep b = b4) := dh (by unfold qstep; rw [hb1, hb2, hb3, hb4])
  have g1 : GoodA b1 := hb1 ▸ HGB.out.trim
  have g2 : GoodA b2 := hb2 ▸ g1.merge
  have g3 : GoodA b3 := hb3 ▸ g2.prune
  have g4 : GoodA b4 := hb4 ▸ g3.trim
  have d1 : NDA b1 KE := hb1 ▸ HDB.out.trim
  have d2 : NDA b2 KE := hb2 ▸ d1.merge
  have d3 : NDA b3 KE := hb3 ▸ d2.prune
  have d4 : NDA b4 KE := hb4 ▸ d3.trim
  have hrb := HPB.out wr (Tch.refl _ wr)
  have HCA := dh (trimR_sep b Bi mi di Bn mn dn wr wr.1.size hrb lR HDB.out.nd HDB.out.inn (by have := HGB.out.sets; omega) KE HDB.out.rows (by have := HDB.out.init; omega) hKE (by have := HGB.out.n256; omega))
  rw [trimF_yes (chk_iff.2 HGB.out), hb1] at HCA
  have hck3 := trimF_yes (chk_iff.2 g3)
  rw [hb4] at hck3
  have HG1 := dh g1
  have HG2 := dh g2
  have HG3 := dh g3
  have HG4 := dh g4
  have HD1 := dh d1
  have HD2 := dh d2
  have HD3 := dh d3
  have HD4 := dh d4
  have HE2 := dh hb2
  have HE3 := dh hb3
  have HE4 := dh hck3
  obtain ⟨q0, q1, q2⟩ := box3A HXB.out
  clear hb1 hb2 hb3 hb4 g1 g2 g3 g4 d1 d2 d3 d4 hrb hck3
  go_wp2_with fail
  refine HCA.out.mono ?_
  rintro e v1 ⟨Ci, oi, pi, Cn, on, pn, rfl, hr1, hv1, -⟩
  have HM := dh (merge33R_any b1 Ci oi pi Cn on pn v1 v1.1.size hr1 lR (chk_iff.2 HG1.out) HD1.out.nd HD1.out.inn KE HD1.out.rows HD1.out.init hKE)
  rw [HE2.out] at HM
  have HV1 := dh hv1
  clear q0 q1 q2 hr1 hv1
  go_wp2_with fail
  refine HM.out.mono ?_
  rintro e v2 ⟨Di, oi2, pi2, Dn, on2, pn2, rfl, hr2, hv2, -⟩
  have HP := dh (pruneR_any b2 Di oi2 pi2 Dn on2 pn2 v2 v2.1.size hr2 lR (chk_iff.2 HG2.out) HD2.out.nd HD2.out.inn KE HD2.out.rows HD2.out.init hKE)
  rw [HE3.out] at HP
  have HV2 := dh (HV1.out.trans (hv2.mono HV1.out.size))
  clear hr2 hv2
  go_wp2_with fail
  refine HP.out.mono ?_
  rintro e v3 ⟨Fi, oi3, pi3, Fn, on3, pn3, rfl, hr3, hv3, -⟩
  have HV3 := dh (HV2.out.trans (hv3.mono HV2.out.size))
  have HCB := dh (trimR_sep b3 Fi oi3 pi3 Fn on3 pn3 v3 v3.1.size hr3 lR HD3.out.nd HD3.out.inn (by have := HG3.out.sets; omega) KE HD3.out.rows (by have := HD3.out.init; omega) hKE (by have := HG3.out.n256; omega))
  rw [HE4.out] at HCB
  clear hr3 hv3
  go_wp2_with fail
  refine HCB.out.mono ?_
  rintro e v4 ⟨Gi, oi4, pi4, Gn, on4, pn4, rfl, hr4, hv4, hs4⟩
  obtain ⟨V, hV⟩ := xQ (v4.alloc (.cells #[.int .i64 b4.sets, .slice Gi oi4 pi4, .slice Gn on4 pn4] 25))
  have hbV : Below v4.1.size v4 V := by rw [← hV]; exact bR.alloc lR _
  have kV : V.1[v4.1.size]? = some (.cells #[.int .i64 b4.sets, .slice Gi oi4 pi4, .slice Gn on4 pn4] 25 (0, 0)) := by rw [← hV]; exact heap_alloc_new v4 _
  have HV4 := dh (HV3.out.trans (hv4.mono HV3.out.size))
  have HVV := dh (HV4.out.trans (hbV.mono HV4.out.size))
  have HSV := dh (hs4.below hbV)
  have HXV : Hid (V.1[gw]? = some (.cells #[.int .i64 b.sets, .slice Bi mi di, .slice Bn mn dn] 25 (0, 0))) := dh ((HVV.out.block gw hgr).trans HXB.out)
  have HYV : Hid (V.1[w.1.size + 1]? = some (.cells #[.int .i64 0, .slice none 0 0, .slice none 0 0] 25 (0, 0))) := dh ((HVV.out.block (w.1.size + 1) (by omega)).trans ((HTC.out.block (w.1.size + 1) (by omega) (fun e => by have e : w.1.size + 1 = gw := e; omega)).trans HYW.out))
  have HKV := dh kV
  have HV := dh hV
  have hrbV := HPB.out V (below_tch HVV.out)
  have hr4V := HSV.out.rd
  have hnb : b.nodes.length ≤ 256 := HGB.out.n256
  have hn4 : b4.nodes.length ≤ 256 := HG4.out.n256
  have HSM := dh (sameRB_any b4 b Gi oi4 pi4 Gn on4 pn4 Bi mi di Bn mn dn V V.1.size hr4V hrbV lR (by omega) (by have := HD4.out.init; omega) (fun x hx => by have := HD4.out.rows x hx; omega))
  obtain ⟨eb, heb⟩ := xQ (decide (b4 = b))
  rw [heb] at HSM
  have HEB := dh heb
  have hzV := HVV.out.size
  clear hr4 hv4 hs4 hV hbV kV hrbV hr4V heb
  have hT4 : gw < v4.1.size := by have := HV4.out.size; omega
  obtain ⟨q0, q1, q2⟩ := box3A ((HV4.out.block gw hgr).trans HXB.out)
  go_upto_region 5 with fail
  show Code.wp _ _ _ _ (v4.alloc (.cells #[.int .i64 b4.sets, .slice Gi oi4 pi4, .slice Gn on4 pn4] 25))
  rw [HV.out]
  clear q0 q1 q2
  obtain ⟨q0, q1, q2⟩ := box3A HXV.out
  obtain ⟨r0, r1, r2⟩ := box3A HKV.out
  go_wp2_with fail
  refine HSM.out.mono ?_
  rintro e u1 ⟨rfl, hu1⟩
  have HU1 := dh hu1
  have hzu := hu1.size
  have HSU := dh (HSV.out.below hu1)
  have HXU := dh ((hu1.block gw (by omega)).trans HXV.out)
  have HYU := dh ((hu1.block (w.1.size + 1) (by omega)).trans HYV.out)
  have hkU := (hu1.block v4.1.size (aI.1 HKV.out).1).trans HKV.out
  have HBU := dh (HBW.out.trans ((HVV.out.trans (hu1.mono hzV)).mono hzw))
  clear q0 q1 q2 r0 r1 r2 hu1
  obtain ⟨r0, r1, r2⟩ := box3A hkU
  clear hkU
  cases eb
  ·obtain ⟨y0, y1, y2⟩ := box3A HXU.out
   have f0 : u1.frozen? ⟨gw, 0, none⟩ = false := frozen_of_row u1 _ 0 _ _ HXU.out
   have f1 : u1.frozen? ⟨gw, 1, none⟩ = false := frozen_of_row u1 _ 1 _ _ HXU.out
   have f2 : u1.frozen? ⟨gw, 2, none⟩ = false := frozen_of_row u1 _ 2 _ _ HXU.out
   have yl : gw < u1.1.size := by omega
   have hne : qstep b ≠ b := fun e => by
    have := HEB.out
    rw [decide_eq_false_iff_not] at this
    exact this (by rw [← HST.out, e])
   have HO4 : Hid (ofQ b4 = ofQ a) := dh (by rw [← HOB.out, ofQ_step HGB.out hne, HST.out])
   have HM4 : Hid (mu b4 < mu b) := dh (by
    obtain ⟨m1, m2⟩ := step_mu HGB.out
    rw [HST.out] at m1 m2
    rcases Nat.lt_or_eq_of_le m1 with h | h
    ·exact h
    ·exact absurd (HST.out.trans (m2 h)) hne)
   have hset := set3A (a := .int .i64 b4.sets) (b := .slice Gi oi4 pi4) (c := .slice Gn on4 pn4) HXU.out rfl
   have htc := tch3A u1 gw (.int .i64 b4.sets) (.slice Gi oi4 pi4) (.slice Gn on4 pn4)
   obtain ⟨Y, hY⟩ := xQ (((u1.setCell ⟨gw, 0, none⟩ (.int .i64 b4.sets)).setCell ⟨gw, 1, none⟩ (.slice Gi oi4 pi4)).setCell ⟨gw, 2, none⟩ (.slice Gn on4 pn4))
   rw [hY] at hset htc
   have HSET := dh hset
   have HP4 : Hid (∀ W2, Tch (fun k => k = gw) Y W2 → AutRd W2 W2.1.size b4 Gi oi4 pi4 Gn on4 pn4) := dh (fun W2 ht => HSU.out _ W2 (htc.then_ ht) (fun g hg _ => by have hg : g = gw := hg; rw [hg]; exact ⟨_, HXU.out⟩))
   have HT4 : Hid (Tch (fun k => k = gw) V1 Y) := dh (((HTC.out.then_ (below_tch HVV.out)).then_ (below_tch HU1.out)).then_ htc)
   have HY := dh hY
   clear hset htc hne hY
   go_wp2_with fail
   try rw [HY.out]
   go_roundg (mu b4)
   case rel => exact ⟨b4, Gi, oi4, pi4, Gn, on4, pn4, lR, HG4, HD4, HO4, HSET, HP4, HT4⟩
   case measure => have := HM4.out; omega
  ·obtain ⟨y0, y1, y2⟩ := box3A HYU.out
   have f0 : u1.frozen? ⟨w.1.size + 1, 0, none⟩ = false := frozen_of_row u1 _ 0 _ _ HYU.out
   have f1 : u1.frozen? ⟨w.1.size + 1, 1, none⟩ = false := frozen_of_row u1 _ 1 _ _ HYU.out
   have f2 : u1.frozen? ⟨w.1.size + 1, 2, none⟩ = false := frozen_of_row u1 _ 2 _ _ HYU.out
   have yl : w.1.size + 1 < u1.1.size := by omega
   have HQ : Hid (ofQ a = b4) := dh (by
    have e : b = b4 := (of_decide_eq_true HEB.out).symm
    rw [← HOB.out, ofQ_fix HGB.out (by rw [HST.out, e]), e])
   go_wp2_with fail
   have hset := set3A (a := .int .i64 b4.sets) (b := .slice Gi oi4 pi4) (c := .slice Gn on4 pn4) HYU.out rfl
   have htc := tch3A u1 (w.1.size + 1) (.int .i64 b4.sets) (.slice Gi oi4 pi4) (.slice Gn on4 pn4)
   obtain ⟨Y, hY⟩ := xQ (((u1.setCell ⟨w.1.size + 1, 0, none⟩ (.int .i64 b4.sets)).setCell ⟨w.1.size + 1, 1, none⟩ (.slice Gi oi4 pi4)).setCell ⟨w.1.size + 1, 2, none⟩ (.slice Gn on4 pn4))
   rw [hY] at hset htc ⊢
   have hbY : Below w.1.size w Y := HBU.out.trans (htc.below (show w.1.size ≤ u1.1.size by omega) (fun y hy e => by have e : y = w.1.size + 1 := e; omega))
   have hsY := HSU.out.tch htc (fun g hg => by have hg : g = w.1.size + 1 := hg; rw [hg]; exact ⟨_, HYU.out⟩)
   obtain ⟨g0, g1, g2⟩ := box3A hset
   refine bodyPost_ret (v := .agg #[.int .i64 b4.sets, .slice Gi oi4 pi4, .slice Gn on4 pn4]) ?_ rfl ?_
   ·simp [results, Tryz.results8, go_sem, g0, g1, g2]
   ·rw [HQ.out]; exact ⟨_, _, _, _, _, _, rfl, hsY.rd, hbY, hsY⟩
theorem ofRBad (a : Aut) (Ai : Option Addr) (ni ci : Nat) (An : Option Addr) (nn cn : Nat) (w : World) (B : Nat) (h : AutRd w B a Ai ni ci An nn cn) (hB : B ≤ w.1.size) (hck : ¬ chkA a = 0) (KE : Nat) (_hr : ∀ x ∈ a.nodes, x.to.length ≤ KE) (_hri : a.init.length ≤ 1000000) (_hKE : KE ≤ 1000000) :
  Calls Tryz.prog 8 #[.agg #[.int .i64 a.sets, .slice Ai ni ci, .slice An nn cn]] w (AutOneS w Aut.zero) := by
 obtain ⟨hb0, x0, y0, z0⟩ := two_new w (.cells #[.int .i64 a.sets, .slice Ai ni ci, .slice An nn cn] 25) (.cells #[.int .i64 0, .slice none 0 0, .slice none 0 0] 25)
 obtain ⟨W0, hW0⟩ := xQ ((w.alloc (.cells #[.int .i64 a.sets, .slice Ai ni ci, .slice An nn cn] 25)).alloc (.cells #[.int .i64 0, .slice none 0 0, .slice none 0 0] 25))
 rw [hW0] at hb0 x0 y0 z0
 have HR0 := dh (h.below hb0 hB)
 have HC0 := dh (chkR_any a Ai ni ci An nn cn W0 B HR0.out (by omega))
 have hne : ((chkA a) == 0) = false := by rw [beq_eq_false_iff_ne]; exact hck
 have hne2 : ((chkA a) != 0) = true := by rw [bne_iff_ne]; exact hck
 have hne3 : decide (chkA a = 0) = false := decide_eq_false hck
 have HW0 := dh hW0
 have HB0 := dh hb0
 have HY0 := dh y0
 have hww : w.1.size + 1 < W0.1.size := by omega
 obtain ⟨q0, q1, q2⟩ := box3A x0
 clear hW0 hb0 x0 y0 z0 h hck
 go_enter Tryz.func8, Tryz.ntmps8
 go_upto_region 1 with fail
 rw [HW0.out]
 go_wp2_with fail
 refine HC0.out.mono ?_
 rintro e w1 ⟨rfl, hb1⟩
 have hy1 := (hb1.block (w.1.size + 1) hww).trans HY0.out
 have HBB := dh (HB0.out.trans (hb1.mono (show w.1.size ≤ W0.1.size by omega)))
 have hz1 := hb1.size
 obtain ⟨y0, y1, y2⟩ := box3A hy1
 have f0 : w1.frozen? ⟨w.1.size + 1, 0, none⟩ = false := frozen_of_row w1 _ 0 _ _ hy1
 have f1 : w1.frozen? ⟨w.1.size + 1, 1, none⟩ = false := frozen_of_row w1 _ 1 _ _ hy1
 have f2 : w1.frozen? ⟨w.1.size + 1, 2, none⟩ = false := frozen_of_row w1 _ 2 _ _ hy1
 have yl : w.1.size + 1 < w1.1.size := (aI.1 hy1).1
 have HY := dh hy1
 clear hy1 hb1 q0 q1 q2
 go_wp2_with fail
 have hset := set3A (a := .int .i64 0) (b := .slice none 0 0) (c := .slice none 0 0) HY.out rfl
 have htc := tch3A w1 (w.1.size + 1) (.int .i64 0) (.slice none 0 0) (.slice none 0 0)
 obtain ⟨Y, hY⟩ := xQ (((w1.setCell ⟨w.1.size + 1, 0, none⟩ (.int .i64 0)).setCell ⟨w.1.size + 1, 1, none⟩ (.slice none 0 0)).setCell ⟨w.1.size + 1, 2, none⟩ (.slice none 0 0))
 rw [hY] at hset htc ⊢
 have hbY : Below w.1.size w Y := HBB.out.trans (htc.below (show w.1.size ≤ w1.1.size by omega) (fun y hy e => by have e : y = w.1.size + 1 := e; omega))
 obtain ⟨g0, g1, g2⟩ := box3A hset
 refine bodyPost_ret (v := .agg #[.int .i64 0, .slice none 0 0, .slice none 0 0]) ?_ rfl ⟨none, 0, 0, none, 0, 0, rfl, autRd_nil Y _, hbY, sep_nil Y⟩
 simp [results, Tryz.results8, go_sem, g0, g1, g2]
theorem ofR_all (a : Aut) (Ai : Option Addr) (ni ci : Nat) (An : Option Addr) (nn cn : Nat) (w : World) (B : Nat) (h : AutRd w B a Ai ni ci An nn cn) (hB : B ≤ w.1.size) (KE : Nat) (hd : NDA a KE) (hKE : KE ≤ 1000000) : Calls Tryz.prog 8 #[.agg #[.int .i64 a.sets, .slice Ai ni ci, .slice An nn cn]] w (AutOneS w (ofFA a)) := by
 unfold ofFA
 by_cases hck : chkA a = 0
 ·rw [if_pos hck]; exact ofR_ok a Ai ni ci An nn cn w B h hB hck KE hd hKE
 ·rw [if_neg hck]; exact ofRBad a Ai ni ci An nn cn w B h hB hck KE hd.rows hd.init hKE
end Go.Proofs.YtiebpncpdbnelaaGreatDoor
namespace Go.Proofs.YtiebpncpdbnelaaGreatDoor
open Go.RowKit
theorem ofFA_ofFA (a : Aut) : ofFA (ofFA a) = ofFA a := by
 by_cases h : chkA a = 0
 ·have e : ofFA a = ofQ a := if_pos h
  rw [e]
  have g := (ofQ_good (chk_iff.1 h)).1
  have e2 : ofFA (ofQ a) = ofQ (ofQ a) := if_pos (chk_iff.2 g)
  rw [e2, ofQ_ofQ (chk_iff.1 h)]
 ·have e : ofFA a = Aut.zero := if_neg h
  rw [e]
  by_cases hz : chkA Aut.zero = 0
  ·have e2 : ofFA Aut.zero = ofQ Aut.zero := if_pos hz
   rw [e2]
   have hl := ofQ_lessA (chk_iff.1 hz)
   have hs := ofQ_sets (chk_iff.1 hz)
   obtain ⟨s, i, n, hq⟩ : ∃ s i n, ofQ Aut.zero = ⟨s, i, n⟩ := ⟨_, _, _, rfl⟩
   rw [hq] at hl hs ⊢
   have h1 : i.length ≤ 0 := hl.init
   have h2 : n.length ≤ 0 := hl.nodes
   have h3 : s = 0 := hs
   have h1' : i = [] := List.eq_nil_of_length_eq_zero (by omega)
   have h2' : n = [] := List.eq_nil_of_length_eq_zero (by omega)
   rw [h1', h2', h3]
   rfl
  ·exact if_neg hz
theorem QuotAll_any (a : Aut) (Ai : Option Addr) (ni ci : Nat) (An : Option Addr) (nn cn : Nat) (w : World) (hrd : AutRd w w.1.size a Ai ni ci An nn cn) (hok : ∀ x ∈ a.nodes, ANdOk x) (_hsW : (Lit.int .i64 a.sets).wf = true) (hT : TabAt 0 Lib.deBruijn64tab w) (hg : 0 < w.1.size) :
  Calls Tryz.prog 3 #[.agg #[.int .i64 a.sets, .slice Ai ni ci, .slice An nn cn]] w (Tru w true) := by
 have hb0 : Below w.1.size w (w.alloc (.cells #[.int .i64 a.sets, .slice Ai ni ci, .slice An nn cn] 25)) := bR.alloc lR _
 have x0 := heap_alloc_new w (.cells #[.int .i64 a.sets, .slice Ai ni ci, .slice An nn cn] 25)
 have z0 : (w.alloc (.cells #[.int .i64 a.sets, .slice Ai ni ci, .slice An nn cn] 25)).1.size = w.1.size + 1 := by simp
 obtain ⟨W0, hW0⟩ := xQ (w.alloc (.cells #[.int .i64 a.sets, .slice Ai ni ci, .slice An nn cn] 25))
 rw [hW0] at hb0 x0 z0
 have hq0 : w.1.size ≤ W0.1.size := by omega
 have HRD := dh (hrd.below hb0 lR)
 have HW0 := dh hW0
 have HB0 := dh hb0
 have HND : Hid (∀ x ∈ a.nodes, x.need < 2 ^ 64 ∧ x.ban < 2 ^ 64) := dh (fun x hx => ⟨(hok x hx).1, (hok x hx).2.1⟩)
 have HINN : Hid (∀ x ∈ a.nodes, x.inn < 2 ^ 64) := dh (fun x hx => (hok x hx).2.2.1)
 have HNN := dh hrd.enn
 have HCL : Hid (∀ W', Below W0.1.size W0 W' → W'.cell? ⟨w.1.size, 0, none⟩ = some (.int .i64 a.sets) ∧ W'.cell? ⟨w.1.size, 1, none⟩ = some (.slice Ai ni ci) ∧ W'.cell? ⟨w.1.size, 2, none⟩ = some (.slice An nn cn)) := dh (fun W' hb => by
  have k0 := (hb.block w.1.size (by omega)).trans x0
  refine ⟨?_, ?_, ?_⟩ <;> (rw [cell_of_row _ _ _ _ _ (0, 0) k0]; rfl))
 have HTB : Hid (∀ W', Below W0.1.size W0 W' → TabAt 0 Lib.deBruijn64tab W' ∧ 0 < W'.1.size) := dh (fun W' hb => by
  have hbw := hb0.trans (hb.mono hq0)
  exact ⟨fun x hx => bC hbw hg (hT x hx), Nat.lt_of_lt_of_le hg hbw.size⟩)
 have HAW : Hid (∀ W', Below W0.1.size W0 W' → Calls Tryz.prog 5 #[] W' (Tru W' true)) := dh (fun W' hb => awake33_any W' (HTB.out W' hb).1 (HTB.out W' hb).2)
 have HHV := dh (heavy33_any a Ai ni ci An nn cn none 0 0 none 0 0 W0 w.1.size HRD.out hq0)
 clear hW0 hb0 x0 z0 hrd hok hT hg
 go_enter Tryz.func3, Tryz.ntmps3
 go_upto_region 1 with fail
 rw [HW0.out]
 obtain ⟨q0, q1, q2⟩ := HCL.out W0 bR
 go_wp2_with fail
 refine HHV.out.mono ?_
 rintro e w1 ⟨rfl, hb1⟩
 have hz1 := hb1.size
 have HB1 := dh hb1
 clear q0 q1 q2 hb1
 cases hh : heavy33 a 0 0
 rotate_left 1
 ·have HAW1 := dh (HAW.out w1 HB1.out)
  clear hh
  go_wp2_with fail
  refine HAW1.out.mono ?_
  rintro e w9 ⟨rfl, hb9⟩
  have HB9 := dh (HB0.out.trans ((HB1.out.trans (hb9.mono HB1.out.size)).mono hq0))
  clear hb9
  go_wp2_with fail
  go_ret
  exact ⟨rfl, HB9.out⟩
 ·obtain ⟨hc1, hc2, -, -, hc5⟩ := heavy33_bd hh
  have HC5 := dh hc5
  have hnn : nn ≤ 16 := by rw [HNN.out]; exact hc1
  have HDA : Hid (NDA a 40) := dh ⟨HND.out, HINN.out, HC5.out, by omega⟩
  clear hh hc5
  have HPQ : Hid (∀ W', Below W0.1.size W0 W' → Calls Tryz.prog 6 #[.agg #[.int .i64 a.sets, .slice Ai ni ci, .slice An nn cn]] W' (AutOneS W' (ofFA a))) := dh (fun W' hb => ofP_all a Ai ni ci An nn cn W' w.1.size (HRD.out.below hb hq0) (Nat.le_trans hq0 hb.size) (HTB.out W' hb).1 (HTB.out W' hb).2 40 HDA.out (by omega))
  have HPR : Hid (∀ W', Below W0.1.size W0 W' → Calls Tryz.prog 8 #[.agg #[.int .i64 a.sets, .slice Ai ni ci, .slice An nn cn]] W' (AutOneS W' (ofFA a))) := dh (fun W' hb => ofR_all a Ai ni ci An nn cn W' w.1.size (HRD.out.below hb hq0) (Nat.le_trans hq0 hb.size) 40 HDA.out (by omega))
  have HSL := dh (of_small HDA.out).less
  have HSN := dh (of_small HDA.out).nda
  have HFF := dh (ofFA_ofFA a)
  obtain ⟨b, hfb⟩ := xQ (ofFA a)
  rw [hfb] at HPQ HPR HSL HSN HFF
  clear hfb
  obtain ⟨s0, s1, s2⟩ := HCL.out w1 HB1.out
  go_wp2_with fail
  refine (HPQ.out _ HB1.out).mono ?_
  rintro e w2 ⟨Qi, qi, qc, Qn, qn, qd, rfl, -, hb2, hs2⟩
  clear s0 s1 s2
  have HB2 := dh (HB1.out.trans (hb2.mono hz1))
  have hz2 := HB2.out.size
  obtain ⟨W3, hW3⟩ := xQ (w2.alloc (.cells #[.int .i64 b.sets, .slice Qi qi qc, .slice Qn qn qd] 25))
  have hb3 : Below w2.1.size w2 W3 := by rw [← hW3]; exact bR.alloc lR _
  have k3 : W3.1[w2.1.size]? = some (.cells #[.int .i64 b.sets, .slice Qi qi qc, .slice Qn qn qd] 25 (0, 0)) := by rw [← hW3]; exact heap_alloc_new w2 _
  have l3 : w2.1.size < W3.1.size := by rw [← hW3]; simp
  have HS3 := dh (hs2.below hb3)
  have HB3 := dh (HB2.out.trans (hb3.mono hz2))
  have HW3 := dh hW3
  have HCC : Hid (∀ W', Below W3.1.size W3 W' → W'.cell? ⟨w.1.size, 0, none⟩ = some (.int .i64 a.sets) ∧ W'.cell? ⟨w.1.size, 1, none⟩ = some (.slice Ai ni ci) ∧ W'.cell? ⟨w.1.size, 2, none⟩ = some (.slice An nn cn) ∧ W'.cell? ⟨w2.1.size, 0, none⟩ = some (.int .i64 b.sets) ∧ W'.cell? ⟨w2.1.size, 1, none⟩ = some (.slice Qi qi qc) ∧ W'.cell? ⟨w2.1.size, 2, none⟩ = some (.slice Qn qn qd)) := dh (fun W' hb => by
   obtain ⟨h0, h1, h2⟩ := HCL.out W' (HB3.out.trans (hb.mono HB3.out.size))
   obtain ⟨h3, h4, h5⟩ := box3A ((hb.block _ l3).trans k3)
   exact ⟨h0, h1, h2, h3, h4, h5⟩)
  have HPQ2 : Hid (∀ W', Below W3.1.size W3 W' → Calls Tryz.prog 6 #[.agg #[.int .i64 b.sets, .slice Qi qi qc, .slice Qn qn qd]] W' (AutOneS W' b)) := dh (fun W' hb => by
   have hb0 := HB3.out.trans (hb.mono HB3.out.size)
   have h := ofP_all b Qi qi qc Qn qn qd W' W'.1.size (HS3.out.below hb).rd lR (HTB.out W' hb0).1 (HTB.out W' hb0).2 40 HSN.out (by omega)
   rwa [HFF.out] at h)
  obtain ⟨s0, s1, s2⟩ := HCL.out w2 HB2.out
  clear hb2 hs2 hW3 hb3 k3
  go_upto_region 4 with fail
  rw [HW3.out]
  clear s0 s1 s2
  obtain ⟨s0, s1, s2, s3, s4, s5⟩ := HCC.out W3 bR
  refine wp_region_held_drew (S := fun w' => w'.cell? ⟨w.1.size, 0, none⟩ = some (.int .i64 a.sets) ∧ w'.cell? ⟨w.1.size, 1, none⟩ = some (.slice Ai ni ci) ∧ w'.cell? ⟨w.1.size, 2, none⟩ = some (.slice An nn cn) ∧ w'.cell? ⟨w2.1.size, 0, none⟩ = some (.int .i64 b.sets) ∧ w'.cell? ⟨w2.1.size, 1, none⟩ = some (.slice Qi qi qc) ∧ w'.cell? ⟨w2.1.size, 2, none⟩ = some (.slice Qn qn qd)) (by kernel_rfl) ⟨s0, s1, s2, s3, s4, s5⟩ (fun hS => ?_)
  refine tkH 0 ?_
  refine tkH 1 ?_
  refine oneH 2 (fun K hK => ?_)
  go_simp
  refine (HPR.out _ (HB3.out.trans ((Below.drew bR).mono HB3.out.size))).mono ?_
  rintro e w4 ⟨Ri, rj, rk, Rn, rm, ro, rfl, -, hb', hs4⟩
  have hb4 : Below W3.1.size W3 w4 := (Below.drew bR).trans hb'
  clear hb'
  dsimp only
  refine hK.out _ _ (HCC.out _ hb4) (fun hS => ?_)
  clear hK
  refine oneH 3 (fun K hK => ?_)
  go_simp
  have HKK := dh (sameRB_any b b Qi qi qc Qn qn qd Ri rj rk Rn rm ro w4 w4.1.size (HS3.out.below hb4).rd hs4.rd lR (by have := HSL.out.nodes; omega) (by have := HSL.out.init; omega) (fun x hx => by have := HSN.out.rows x hx; omega))
  rw [decide_eq_true rfl] at HKK
  refine HKK.out.mono ?_
  rintro e w5 ⟨rfl, hb'⟩
  have hb5 : Below W3.1.size W3 w5 := hb4.trans (hb'.mono hb4.size)
  clear hb' HKK
  dsimp only
  refine hK.out _ _ (HCC.out _ hb5) (fun hS => ?_)
  clear hK
  refine tkH 4 ?_
  refine tkH 5 ?_
  refine tkH 7 ?_
  refine oneH 6 (fun K hK => ?_)
  go_simp
  refine (HPQ2.out _ hb5).mono ?_
  rintro e w6 ⟨Ti, tj, tk, Tn, tm, to_, rfl, -, hb', hs6⟩
  have hb6 : Below W3.1.size W3 w6 := hb5.trans (hb'.mono hb5.size)
  clear hb'
  dsimp only
  refine hK.out _ _ (HCC.out _ hb6) (fun hS => ?_)
  clear hK
  refine oneH 8 (fun K hK => ?_)
  go_simp
  have HKK := dh (sameRB_any b b Ti tj tk Tn tm to_ Qi qi qc Qn qn qd w6 w6.1.size hs6.rd (HS3.out.below hb6).rd lR (by have := HSL.out.nodes; omega) (by have := HSL.out.init; omega) (fun x hx => by have := HSN.out.rows x hx; omega))
  rw [decide_eq_true rfl] at HKK
  refine HKK.out.mono ?_
  rintro e w7 ⟨rfl, hb'⟩
  have hb7 : Below W3.1.size W3 w7 := hb6.trans (hb'.mono hb6.size)
  clear hb' HKK
  dsimp only
  refine hK.out _ _ (HCC.out _ hb7) (fun hS => ?_)
  clear hK
  refine tkH 9 ?_
  refine tkH 10 ?_
  refine oneH 11 (fun K hK => ?_)
  go_simp
  refine (HAW.out _ (HB3.out.trans (hb7.mono HB3.out.size))).mono ?_
  rintro e w8 ⟨rfl, hb'⟩
  have hb8 : Below W3.1.size W3 w8 := hb7.trans (hb'.mono hb7.size)
  clear hb'
  dsimp only
  refine hK.out _ _ (HCC.out _ hb8) (fun hS => ?_)
  clear hK
  refine tkH 12 ?_
  refine tkH 13 ?_
  refine wpAnyH_done (by kernel_rfl) ?_ _
  clear hS
  have HBF := dh (HB0.out.trans ((HB3.out.trans (hb8.mono HB3.out.size)).mono hq0))
  go_wp2_with fail
  go_ret
  exact ⟨rfl, HBF.out⟩
end Go.Proofs.YtiebpncpdbnelaaGreatDoor
namespace Go.Proofs.YtiebpncpdbnelaaGreatDoor
open Go.ChangeShapes Go.WideShapes Go.ChangeAt Go.RowKit Go.Shelf
theorem door_met (os : Os) (args : Array Value) : laidMetH Tryz.prog [("math/bits.deBruijn64tab", Rows.laid_math_bits_deBruijn64tab)] ((World.doorLaid Tryz.prog 14 os).forCall (fun _ _ => 0) ⟨#[], args, []⟩).memory :=
 laidMetH_of_parts3 (fuel := 8) (laidMet_of_run' 8 (by kernel_rfl) (by kernel_rfl)) (by kernel_rfl) (by kernel_rfl)
theorem gTab : Tryz.prog.globalNamed "math/bits.deBruijn64tab" = some 0 := by kernel_rfl
theorem tTab : (Tryz.prog.globals[0]?).map (·.type) = some 121 := by kernel_rfl
def tabI : List Int := Lib.deBruijn64tab.map (fun (n : Nat) => (n : Int))
theorem tab_of_laid {W : World} (h : laidMetH Tryz.prog [("math/bits.deBruijn64tab", Rows.laid_math_bits_deBruijn64tab)] W) : TabAt 0 Lib.deBruijn64tab W ∧ 0 < W.1.size := by
 rw [MakeChecks.laidMetH_plain _ _ _ (by kernel_rfl)] at h
 have e : ([("math/bits.deBruijn64tab", Rows.laid_math_bits_deBruijn64tab)] : List (String × DataW Unit)) = [("math/bits.deBruijn64tab", Lib.tabData .u8 tabI)] := by rfl
 rw [e] at h
 have hI := Lib.tabIs_of_head gTab tTab Tryz.underlying121 Tryz.underlying5 (by kernel_rfl) (by kernel_rfl) h
 have hT : TabAt 0 Lib.deBruijn64tab W := fun j hj => by
  have := hI.cell gTab j (by simpa [tabI] using hj)
  rw [this]
  simp [tabI, List.getD, hj]
 refine ⟨hT, ?_⟩
 obtain ⟨o, ho, _⟩ := cells_of_cell (hT 0 (by decide))
 exact (aI.1 ho).1
theorem no_stand_in {P : Program} {ts : Array TypeId} {t : TypeId} (hm : t ∈ ts) (h : (ts.toList.all fun u => !P.wantsStandIn u) = true) : P.wantsStandIn t = false := by
 have := List.all_eq_true.1 h t (by simpa using hm)
 simpa using this
end Go.Proofs.YtiebpncpdbnelaaGreatDoor
