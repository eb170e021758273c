/- Texts that stand one behind the other, in one file. -/
import Derived.Test.YtiebpncpdbnelaaGreatDoorQu6
set_option maxHeartbeats 8000000
set_option maxRecDepth 100000
namespace Go.Proofs.YtiebpncpdbnelaaGreatDoor
open Go.RowKit
structure NDA (a : Aut) (KE : Nat) : Prop where
 nd : ∀ x ∈ a.nodes, x.need < 2 ^ 64 ∧ x.ban < 2 ^ 64
 inn : ∀ x ∈ a.nodes, x.inn < 2 ^ 64
 rows : ∀ x ∈ a.nodes, x.to.length ≤ KE
 init : a.init.length ≤ 1000000
theorem NDA.gen {a : Aut} {KE : Nat} (h : NDA a KE) {p : Nat → Bool} {F : List Int → List Int} (hF : ∀ l, (F l).length ≤ l.length) : NDA (genU a p F) KE := by
 have hm : ∀ x ∈ (genU a p F).nodes, ∃ y ∈ a.nodes, x = y.put (F y.to) := fun x hx => by
  obtain ⟨i, hi, rfl⟩ := List.mem_map.1 hx
  exact ⟨a.at i, at_mem (List.mem_range.1 (List.mem_filter.1 hi).1), rfl⟩
 refine ⟨fun x hx => ?_, fun x hx => ?_, fun x hx => ?_, Nat.le_trans (hF _) h.init⟩
 ·obtain ⟨y, hy, rfl⟩ := hm x hx; exact h.nd y hy
 ·obtain ⟨y, hy, rfl⟩ := hm x hx; exact h.inn y hy
 ·obtain ⟨y, hy, rfl⟩ := hm x hx; exact Nat.le_trans (hF _) (h.rows y hy)
theorem NDA.trim {a : Aut} {KE : Nat} (h : NDA a KE) : NDA (trimA a) KE := h.gen (p := fun i => (useL a).getD i false) (F := keptL (useL a)) (fun _ => keptL_le)
theorem NDA.merge {a : Aut} {KE : Nat} (h : NDA a KE) : NDA (mergeA a) KE := h.gen (p := fun i => (leadL (simL a) a.nodes.length).getD i false) (F := onceI (numM (simL a) a.nodes.length)) (fun l => onceI_le _ l)
theorem NDA.prune {a : Aut} {KE : Nat} (h : NDA a KE) : NDA (pruneA a) KE := by
 unfold pruneA
 rw [prune_gen]
 exact h.gen (fun l => leftL_le _ l)
noncomputable def ofFA (a : Aut) : Aut := if chkA a = 0 then ofQ a else Aut.zero
theorem SepA.tch {w w' : World} {a : Aut} {Ai : Option Addr} {ni ci : Nat} {An : Option Addr} {nn cn : Nat} {S : Nat → Prop} (h : SepA w a Ai ni ci An nn cn) (ht : Tch S w w') (hS : ∀ g, S g → ∃ cs, w.1[g]? = some (.cells cs 25 (0, 0))) : SepA w' a Ai ni ci An nn cn := fun T W2 ht2 hT =>
 h (fun g => S g ∨ T g) W2 ((ht.wide (fun _ e => .inl e)).then_ (ht2.wide (fun _ e => .inr e))) (fun g hg hl => by
  by_cases hs : S g
  ·exact hS g hs
  ·rcases hg with hg | hg
   ·exact hS g hg
   ·obtain ⟨cs, hc⟩ := hT g hg (Nat.lt_of_lt_of_le hl ht.size)
    exact ⟨cs, (ht.block g hl hs).symm.trans hc⟩)
theorem ofBad (a : Aut) (Ai : Option Addr) (ni ci : Nat) (An : Option Addr) (nn cn : Nat) (w : World) (B : Nat) (h : AutRd w B a Ai ni ci An nn cn) (hB : B ≤ w.1.size) (hck : ¬ chkA a = 0) (KE : Nat) (hr : ∀ x ∈ a.nodes, x.to.length ≤ KE) (hri : a.init.length ≤ 1000000) (hKE : KE ≤ 1000000) :
  Calls Tryz.prog 6 #[.agg #[.int .i64 a.sets, .slice Ai ni ci, .slice An nn cn]] w (AutOneS w Aut.zero) := by
 obtain ⟨hb0, x0, y0, z0⟩ := two_new w (.cells #[.int .i64 a.sets, .slice Ai ni ci, .slice An nn cn] 25) (.cells #[.int .i64 0, .slice none 0 0, .slice none 0 0] 25)
 obtain ⟨W0, hW0⟩ := xQ ((w.alloc (.cells #[.int .i64 a.sets, .slice Ai ni ci, .slice An nn cn] 25)).alloc (.cells #[.int .i64 0, .slice none 0 0, .slice none 0 0] 25))
 rw [hW0] at hb0 x0 y0 z0
 have HR0 := dh (h.below hb0 hB)
 have HC0 := dh (autoCheck_any a Ai ni ci An nn cn W0 B HR0.out (by omega) (by omega) (fun x hx => by have := hr x hx; omega))
 have hne : ((chkA a) == 0) = false := by rw [beq_eq_false_iff_ne]; exact hck
 have hne2 : ((chkA a) != 0) = true := by rw [bne_iff_ne]; exact hck
 have hne3 : decide (chkA a = 0) = false := decide_eq_false hck
 have HW0 := dh hW0
 have HB0 := dh hb0
 have HY0 := dh y0
 have hww : w.1.size + 1 < W0.1.size := by omega
 obtain ⟨q0, q1, q2⟩ := box3A x0
 clear hW0 hb0 x0 y0 z0 h hr hck
 go_enter Tryz.func6, Tryz.ntmps6
 go_upto_region 1 with fail
 rw [HW0.out]
 go_wp2_with fail
 refine HC0.out.mono ?_
 rintro e w1 ⟨rfl, hb1⟩
 have hy1 := (hb1.block (w.1.size + 1) hww).trans HY0.out
 have HBB := dh (HB0.out.trans (hb1.mono (show w.1.size ≤ W0.1.size by omega)))
 have hz1 := hb1.size
 obtain ⟨y0, y1, y2⟩ := box3A hy1
 have f0 : w1.frozen? ⟨w.1.size + 1, 0, none⟩ = false := frozen_of_row w1 _ 0 _ _ hy1
 have f1 : w1.frozen? ⟨w.1.size + 1, 1, none⟩ = false := frozen_of_row w1 _ 1 _ _ hy1
 have f2 : w1.frozen? ⟨w.1.size + 1, 2, none⟩ = false := frozen_of_row w1 _ 2 _ _ hy1
 have yl : w.1.size + 1 < w1.1.size := (aI.1 hy1).1
 have HY := dh hy1
 clear hy1 hb1 q0 q1 q2
 go_wp2_with fail
 have hset := set3A (a := .int .i64 0) (b := .slice none 0 0) (c := .slice none 0 0) HY.out rfl
 have htc := tch3A w1 (w.1.size + 1) (.int .i64 0) (.slice none 0 0) (.slice none 0 0)
 obtain ⟨Y, hY⟩ := xQ (((w1.setCell ⟨w.1.size + 1, 0, none⟩ (.int .i64 0)).setCell ⟨w.1.size + 1, 1, none⟩ (.slice none 0 0)).setCell ⟨w.1.size + 1, 2, none⟩ (.slice none 0 0))
 rw [hY] at hset htc ⊢
 have hbY : Below w.1.size w Y := HBB.out.trans (htc.below (show w.1.size ≤ w1.1.size by omega) (fun y hy e => by have e : y = w.1.size + 1 := e; omega))
 obtain ⟨g0, g1, g2⟩ := box3A hset
 refine bodyPost_ret (v := .agg #[.int .i64 0, .slice none 0 0, .slice none 0 0]) ?_ rfl ⟨none, 0, 0, none, 0, 0, rfl, autRd_nil Y _, hbY, sep_nil Y⟩
 simp [results, Tryz.results6, go_sem, g0, g1, g2]
end Go.Proofs.YtiebpncpdbnelaaGreatDoor
namespace Go.Proofs.YtiebpncpdbnelaaGreatDoor
open Go.RowKit
theorem ofP_ok (a : Aut) (Ai : Option Addr) (ni ci : Nat) (An : Option Addr) (nn cn : Nat) (w : World) (B : Nat) (h : AutRd w B a Ai ni ci An nn cn) (hB : B ≤ w.1.size) (hck : chkA a = 0) (hT : TabAt 0 Lib.deBruijn64tab w) (hg : 0 < w.1.size) (KE : Nat) (hd : NDA a KE) (hKE : KE ≤ 1000000) :
  Calls Tryz.prog 6 #[.agg #[.int .i64 a.sets, .slice Ai ni ci, .slice An nn cn]] w (AutOneS w (ofQ a)) := by
 have hr := hd.rows
 have hri := hd.init
 obtain ⟨hb0, x0, y0, z0⟩ := two_new w (.cells #[.int .i64 a.sets, .slice Ai ni ci, .slice An nn cn] 25) (.cells #[.int .i64 0, .slice none 0 0, .slice none 0 0] 25)
 obtain ⟨W0, hW0⟩ := xQ ((w.alloc (.cells #[.int .i64 a.sets, .slice Ai ni ci, .slice An nn cn] 25)).alloc (.cells #[.int .i64 0, .slice none 0 0, .slice none 0 0] 25))
 rw [hW0] at hb0 x0 y0 z0
 have HR0 := dh (h.below hb0 hB)
 have HC0 := dh (autoCheck_any a Ai ni ci An nn cn W0 B HR0.out (by omega) (by omega) (fun x hx => by have := hr x hx; omega))
 have HGA := dh (chk_iff.1 hck)
 have HD := dh hd
 have HW0 := dh hW0
 have HB0 := dh hb0
 have HX0 := dh x0
 have HY0 := dh y0
 have HCK := dh hck
 have hBw : B ≤ w.1.size := hB
 have hww : w.1.size + 1 < W0.1.size := by omega
 have HTB : Hid (∀ W', Below w.1.size w W' → TabAt 0 Lib.deBruijn64tab W' ∧ 0 < W'.1.size) := dh (fun W' hb => ⟨fun x hx => bC hb hg (hT x hx), Nat.lt_of_lt_of_le hg hb.size⟩)
 obtain ⟨q0, q1, q2⟩ := box3A x0
 clear hW0 hb0 x0 y0 z0 h hr hri hd hck hT hg
 go_enter Tryz.func6, Tryz.ntmps6
 go_upto_region 1 with fail
 rw [HW0.out]
 go_wp2_with fail
 refine HC0.out.mono ?_
 rintro e w1 ⟨rfl, hb1⟩
 rw [HCK.out]
 have hz1 := hb1.size
 have HX1 : Hid (w1.1[w.1.size]? = some (.cells #[.int .i64 a.sets, .slice Ai ni ci, .slice An nn cn] 25 (0, 0))) := dh ((hb1.block w.1.size (by omega)).trans HX0.out)
 have HT1 : Hid (Tch (fun k => k = w.1.size) W0 w1) := dh (below_tch hb1)
 have HP1 : Hid (∀ W2, Tch (fun k => k = w.1.size) w1 W2 → AutRd W2 W2.1.size a Ai ni ci An nn cn) := dh (fun W2 ht => by
  have h := ((HR0.out.below hb1 (by omega)).tchA ht (by omega) (fun b hb e => by have e : b = w.1.size := e; omega))
  exact h.up (by have := ht.size; omega))
 clear q0 q1 q2 hb1
 go_wp2_with fail
 go_loopg [3] (mu a) (fun gk _ wr => ∃ (b : Aut) (Bi : Option Addr) (mi di : Nat) (Bn : Option Addr) (mn dn : Nat), mu b ≤ gk ∧ Hid (GoodA b) ∧ Hid (NDA b KE) ∧ Hid (ofQ b = ofQ a) ∧ Hid (wr.1[w.1.size]? = some (.cells #[.int .i64 b.sets, .slice Bi mi di, .slice Bn mn dn] 25 (0, 0))) ∧ Hid (∀ W2, Tch (fun k => k = w.1.size) wr W2 → AutRd W2 W2.1.size b Bi mi di Bn mn dn) ∧ Hid (Tch (fun k => k = w.1.size) W0 wr))
 case atStart => exact ⟨a, Ai, ni, ci, An, nn, cn, lR, HGA, HD, dh rfl, HX1, HP1, HT1⟩
 case round =>
  obtain ⟨b, Bi, mi, di, Bn, mn, dn, hmu, HGB, HDB, HOB, HXB, HPB, HTC⟩ := hrel
  clear HX1 HP1 HT1
  have hzr := HTC.out.size
  have HBW : Hid (Below w.1.size w wr) := dh (HB0.out.trans (HTC.out.below (show w.1.size ≤ W0.1.size by omega) (fun x hx e => by have e : x = w.1.size := e; omega)))
  have hzw := HBW.out.size
  obtain ⟨b1, hb1⟩ := xQ (trimA b)
  obtain ⟨b2, hb2⟩ := xQ (mergeA b1)
  obtain ⟨b3, hb3⟩ := xQ (pruneA b2)
  obtain ⟨b4, hb4⟩ := xQ (trimA b3)
  have HST : Hid (qstep b = b4) := dh (by unfold qstep; rw [hb1, hb2, hb3, hb4])
  have g1 : GoodA b1 := hb1 ▸ HGB.out.trim
  have g2 : GoodA b2 := hb2 ▸ g1.merge
  have g3 : GoodA b3 := hb3 ▸ g2.prune
  have g4 : GoodA b4 := hb4 ▸ g3.trim
  have d1 : NDA b1 KE := hb1 ▸ HDB.out.trim
  have d2 : NDA b2 KE := hb2 ▸ d1.merge
  have d3 : NDA b3 KE := hb3 ▸ d2.prune
  have d4 : NDA b4 KE := hb4 ▸ d3.trim
  have hrb := HPB.out wr (Tch.refl _ wr)
  have HCA := dh (trimP_sep b Bi mi di Bn mn dn wr wr.1.size hrb lR (HTB.out wr HBW.out).1 (HTB.out wr HBW.out).2 HDB.out.nd HDB.out.inn KE HDB.out.rows (by have := HDB.out.init; omega) hKE)
  rw [trimF_yes (chk_iff.2 HGB.out), hb1] at HCA
  have hck3 := trimF_yes (chk_iff.2 g3)
  rw [hb4] at hck3
  have HG1 := dh g1
  have HG2 := dh g2
  have HG3 := dh g3
  have HG4 := dh g4
  have HD1 := dh d1
  have HD2 := dh d2
  have HD3 := dh d3
  have HD4 := dh d4
  have HE2 := dh hb2
  have HE3 := dh hb3
  have HE4 := dh hck3
  obtain ⟨q0, q1, q2⟩ := box3A HXB.out
  clear hb1 hb2 hb3 hb4 g1 g2 g3 g4 d1 d2 d3 d4 hrb hck3
  go_wp2_with fail
  refine HCA.out.mono ?_
  rintro e v1 ⟨Ci, oi, pi, Cn, on, pn, rfl, hr1, hv1, -⟩
  have HM := dh (mergeP_any b1 Ci oi pi Cn on pn v1 v1.1.size hr1 lR (chk_iff.2 HG1.out) HD1.out.nd HD1.out.inn KE HD1.out.rows HD1.out.init hKE)
  rw [HE2.out] at HM
  have HV1 := dh hv1
  clear q0 q1 q2 hr1 hv1
  go_wp2_with fail
  refine HM.out.mono ?_
  rintro e v2 ⟨Di, oi2, pi2, Dn, on2, pn2, rfl, hr2, hv2, -⟩
  have HP := dh (pruneP_any b2 Di oi2 pi2 Dn on2 pn2 v2 v2.1.size hr2 lR (chk_iff.2 HG2.out) HD2.out.nd HD2.out.inn KE HD2.out.rows HD2.out.init hKE)
  rw [HE3.out] at HP
  have HV2 := dh (HV1.out.trans (hv2.mono HV1.out.size))
  clear hr2 hv2
  go_wp2_with fail
  refine HP.out.mono ?_
  rintro e v3 ⟨Fi, oi3, pi3, Fn, on3, pn3, rfl, hr3, hv3, -⟩
  have HV3 := dh (HV2.out.trans (hv3.mono HV2.out.size))
  have hbw3 := HBW.out.trans (HV3.out.mono hzw)
  have HCB := dh (trimP_sep b3 Fi oi3 pi3 Fn on3 pn3 v3 v3.1.size hr3 lR (HTB.out v3 hbw3).1 (HTB.out v3 hbw3).2 HD3.out.nd HD3.out.inn KE HD3.out.rows (by have := HD3.out.init; omega) hKE)
  rw [HE4.out] at HCB
  clear hr3 hv3 hbw3
  go_wp2_with fail
  refine HCB.out.mono ?_
  rintro e v4 ⟨Gi, oi4, pi4, Gn, on4, pn4, rfl, hr4, hv4, hs4⟩
  obtain ⟨V, hV⟩ := xQ (v4.alloc (.cells #[.int .i64 b4.sets, .slice Gi oi4 pi4, .slice Gn on4 pn4] 25))
  have hbV : Below v4.1.size v4 V := by rw [← hV]; exact bR.alloc lR _
  have kV : V.1[v4.1.size]? = some (.cells #[.int .i64 b4.sets, .slice Gi oi4 pi4, .slice Gn on4 pn4] 25 (0, 0)) := by rw [← hV]; exact heap_alloc_new v4 _
  have HV4 := dh (HV3.out.trans (hv4.mono HV3.out.size))
  have HVV := dh (HV4.out.trans (hbV.mono HV4.out.size))
  have HSV := dh (hs4.below hbV)
  have HXV : Hid (V.1[w.1.size]? = some (.cells #[.int .i64 b.sets, .slice Bi mi di, .slice Bn mn dn] 25 (0, 0))) := dh ((HVV.out.block w.1.size (by omega)).trans HXB.out)
  have HYV : Hid (V.1[w.1.size + 1]? = some (.cells #[.int .i64 0, .slice none 0 0, .slice none 0 0] 25 (0, 0))) := dh ((HVV.out.block (w.1.size + 1) (by omega)).trans ((HTC.out.block (w.1.size + 1) hww (fun e => by have e : w.1.size + 1 = w.1.size := e; omega)).trans HY0.out))
  have HKV := dh kV
  have HV := dh hV
  have hrbV := HPB.out V (below_tch HVV.out)
  have hr4V := HSV.out.rd
  have hnb : b.nodes.length ≤ 256 := HGB.out.n256
  have hn4 : b4.nodes.length ≤ 256 := HG4.out.n256
  have HSM := dh (autoSame_any b b4 Bi mi di Bn mn dn Gi oi4 pi4 Gn on4 pn4 V V.1.size hrbV hr4V lR (by have := HDB.out.init; have := HD4.out.init; omega) (by have := HDB.out.init; have := HD4.out.init; omega) (fun x hx => by have := HDB.out.rows x hx; omega))
  obtain ⟨eb, heb⟩ := xQ (decide (b = b4))
  rw [heb] at HSM
  have HEB := dh heb
  have hzV := HVV.out.size
  clear hr4 hv4 hs4 hV hbV kV hrbV hr4V heb
  have hT4 : w.1.size < v4.1.size := by have := HV4.out.size; omega
  obtain ⟨q0, q1, q2⟩ := box3A ((HV4.out.block w.1.size (by omega)).trans HXB.out)
  go_upto_region 4 with fail
  show Code.wp _ _ _ _ (v4.alloc (.cells #[.int .i64 b4.sets, .slice Gi oi4 pi4, .slice Gn on4 pn4] 25))
  rw [HV.out]
  clear q0 q1 q2
  obtain ⟨q0, q1, q2⟩ := box3A HXV.out
  obtain ⟨r0, r1, r2⟩ := box3A HKV.out
  go_wp2_with fail
  refine HSM.out.mono ?_
  rintro e u1 ⟨rfl, hu1⟩
  have HU1 := dh hu1
  have hzu := hu1.size
  have HSU := dh (HSV.out.below hu1)
  have HXU := dh ((hu1.block w.1.size (by omega)).trans HXV.out)
  have HYU := dh ((hu1.block (w.1.size + 1) (by omega)).trans HYV.out)
  have hkU := (hu1.block v4.1.size (aI.1 HKV.out).1).trans HKV.out
  have HBU := dh (HBW.out.trans ((HVV.out.trans (hu1.mono hzV)).mono hzw))
  clear q0 q1 q2 r0 r1 r2 hu1
  obtain ⟨r0, r1, r2⟩ := box3A hkU
  clear hkU
  cases eb
  ·obtain ⟨y0, y1, y2⟩ := box3A HXU.out
   have f0 : u1.frozen? ⟨w.1.size, 0, none⟩ = false := frozen_of_row u1 _ 0 _ _ HXU.out
   have f1 : u1.frozen? ⟨w.1.size, 1, none⟩ = false := frozen_of_row u1 _ 1 _ _ HXU.out
   have f2 : u1.frozen? ⟨w.1.size, 2, none⟩ = false := frozen_of_row u1 _ 2 _ _ HXU.out
   have yl : w.1.size < u1.1.size := by omega
   have hne : qstep b ≠ b := fun e => by
    have := HEB.out
    rw [decide_eq_false_iff_not] at this
    exact this (by rw [← HST.out, e])
   have HO4 : Hid (ofQ b4 = ofQ a) := dh (by rw [← HOB.out, ofQ_step HGB.out hne, HST.out])
   have HM4 : Hid (mu b4 < mu b) := dh (by
    obtain ⟨m1, m2⟩ := step_mu HGB.out
    rw [HST.out] at m1 m2
    rcases Nat.lt_or_eq_of_le m1 with h | h
    ·exact h
    ·exact absurd (HST.out.trans (m2 h)) hne)
   have hset := set3A (a := .int .i64 b4.sets) (b := .slice Gi oi4 pi4) (c := .slice Gn on4 pn4) HXU.out rfl
   have htc := tch3A u1 (w.1.size) (.int .i64 b4.sets) (.slice Gi oi4 pi4) (.slice Gn on4 pn4)
   obtain ⟨Y, hY⟩ := xQ (((u1.setCell ⟨w.1.size, 0, none⟩ (.int .i64 b4.sets)).setCell ⟨w.1.size, 1, none⟩ (.slice Gi oi4 pi4)).setCell ⟨w.1.size, 2, none⟩ (.slice Gn on4 pn4))
   rw [hY] at hset htc
   have HSET := dh hset
   have HP4 : Hid (∀ W2, Tch (fun k => k = w.1.size) Y W2 → AutRd W2 W2.1.size b4 Gi oi4 pi4 Gn on4 pn4) := dh (fun W2 ht => HSU.out _ W2 (htc.then_ ht) (fun g hg _ => by have hg : g = w.1.size := hg; rw [hg]; exact ⟨_, HXU.out⟩))
   have HT4 : Hid (Tch (fun k => k = w.1.size) W0 Y) := dh (((HTC.out.then_ (below_tch HVV.out)).then_ (below_tch HU1.out)).then_ htc)
   have HY := dh hY
   clear hset htc hne hY
   go_wp2_with fail
   try rw [HY.out]
   go_roundg (mu b4)
   case rel => exact ⟨b4, Gi, oi4, pi4, Gn, on4, pn4, lR, HG4, HD4, HO4, HSET, HP4, HT4⟩
   case measure => have := HM4.out; omega
  ·obtain ⟨y0, y1, y2⟩ := box3A HYU.out
   have f0 : u1.frozen? ⟨w.1.size + 1, 0, none⟩ = false := frozen_of_row u1 _ 0 _ _ HYU.out
   have f1 : u1.frozen? ⟨w.1.size + 1, 1, none⟩ = false := frozen_of_row u1 _ 1 _ _ HYU.out
   have f2 : u1.frozen? ⟨w.1.size + 1, 2, none⟩ = false := frozen_of_row u1 _ 2 _ _ HYU.out
   have yl : w.1.size + 1 < u1.1.size := by omega
   have HQ : Hid (ofQ a = b4) := dh (by
    have e : b = b4 := of_decide_eq_true HEB.out
    rw [← HOB.out, ofQ_fix HGB.out (by rw [HST.out, e]), e])
   go_wp2_with fail
   have hset := set3A (a := .int .i64 b4.sets) (b := .slice Gi oi4 pi4) (c := .slice Gn on4 pn4) HYU.out rfl
   have htc := tch3A u1 (w.1.size + 1) (.int .i64 b4.sets) (.slice Gi oi4 pi4) (.slice Gn on4 pn4)
   obtain ⟨Y, hY⟩ := xQ (((u1.setCell ⟨w.1.size + 1, 0, none⟩ (.int .i64 b4.sets)).setCell ⟨w.1.size + 1, 1, none⟩ (.slice Gi oi4 pi4)).setCell ⟨w.1.size + 1, 2, none⟩ (.slice Gn on4 pn4))
   rw [hY] at hset htc ⊢
   have hbY : Below w.1.size w Y := HBU.out.trans (htc.below (show w.1.size ≤ u1.1.size by omega) (fun y hy e => by have e : y = w.1.size + 1 := e; omega))
   have hsY := HSU.out.tch htc (fun g hg => by have hg : g = w.1.size + 1 := hg; rw [hg]; exact ⟨_, HYU.out⟩)
   obtain ⟨g0, g1, g2⟩ := box3A hset
   refine bodyPost_ret (v := .agg #[.int .i64 b4.sets, .slice Gi oi4 pi4, .slice Gn on4 pn4]) ?_ rfl ?_
   ·simp [results, Tryz.results6, go_sem, g0, g1, g2]
   ·rw [HQ.out]; exact ⟨_, _, _, _, _, _, rfl, hsY.rd, hbY, hsY⟩
theorem ofP_all (a : Aut) (Ai : Option Addr) (ni ci : Nat) (An : Option Addr) (nn cn : Nat) (w : World) (B : Nat) (h : AutRd w B a Ai ni ci An nn cn) (hB : B ≤ w.1.size) (hT : TabAt 0 Lib.deBruijn64tab w) (hg : 0 < w.1.size) (KE : Nat) (hd : NDA a KE) (hKE : KE ≤ 1000000) : Calls Tryz.prog 6 #[.agg #[.int .i64 a.sets, .slice Ai ni ci, .slice An nn cn]] w (AutOneS w (ofFA a)) := by
 unfold ofFA
 by_cases hck : chkA a = 0
 ·rw [if_pos hck]; exact ofP_ok a Ai ni ci An nn cn w B h hB hck hT hg KE hd hKE
 ·rw [if_neg hck]; exact ofBad a Ai ni ci An nn cn w B h hB hck KE hd.rows hd.init hKE
end Go.Proofs.YtiebpncpdbnelaaGreatDoor
namespace Go.Proofs.YtiebpncpdbnelaaGreatDoor
open Go.RowKit
theorem twoA_rd {W : World} {q0 q1 q2 q3 B : Nat} (h0 : W.1[q0]? = some (.cells #[.int .i64 1, .int .i64 0] 3 (0, 0))) (h1 : W.1[q1]? = some (.cells #[.int .i64 0, .int .i64 1] 3 (0, 0))) (h2 : W.1[q2]? = some (.cells #[.int .i64 1, .int .i64 0] 3 (0, 0)))
  (h3 : W.1[q3]? = some (.cells #[.int .u64 0, .int .u64 0, .int .u64 1, .slice (some ⟨q1, 0, none⟩) 2 2, .int .u64 0, .int .u64 0, .int .u64 1, .slice (some ⟨q2, 0, none⟩) 2 2] 36 (0, 0))) (hB : q0 < B ∧ q1 < B ∧ q2 < B ∧ q3 < B) :
  AutRd W B twoA (some ⟨q0, 0, none⟩) 2 2 (some ⟨q3, 0, none⟩) 2 2 := by
 refine ⟨rfl, rfl, sl_blkA h0 rfl rfl (by decide) hB.1, _, sl_blkA (n := 2) (size := 4) h3 rfl rfl (by decide) hB.2.2.2, fun k x hk => ?_⟩
 have hkl : k < 2 := (gB.1 hk).1
 rcases lt2 hkl with rfl | rfl
 ·cases hk
  exact ⟨some ⟨q1, 0, none⟩, 2, rfl, rfl, rfl, rfl, sl_blkA h1 rfl rfl (by decide) hB.2.1⟩
 ·cases hk
  exact ⟨some ⟨q2, 0, none⟩, 2, rfl, rfl, rfl, rfl, sl_blkA h2 rfl rfl (by decide) hB.2.2.1⟩
theorem cutA_rd {W : World} {q0 q1 q2 q3 B : Nat} (h0 : W.1[q0]? = some (.cells #[.int .i64 0, .int .i64 1] 3 (0, 0))) (h1 : W.1[q1]? = some (.cells #[.int .i64 0] 3 (0, 0))) (h2 : W.1[q2]? = some (.cells #[.int .i64 1] 3 (0, 0)))
  (h3 : W.1[q3]? = some (.cells #[.int .u64 1, .int .u64 0, .int .u64 1, .slice (some ⟨q1, 0, none⟩) 1 1, .int .u64 0, .int .u64 0, .int .u64 1, .slice (some ⟨q2, 0, none⟩) 1 1] 36 (0, 0))) (hB : q0 < B ∧ q1 < B ∧ q2 < B ∧ q3 < B) :
  AutRd W B cutA (some ⟨q0, 0, none⟩) 2 2 (some ⟨q3, 0, none⟩) 2 2 := by
 refine ⟨rfl, rfl, sl_blkA h0 rfl rfl (by decide) hB.1, _, sl_blkA (n := 2) (size := 4) h3 rfl rfl (by decide) hB.2.2.2, fun k x hk => ?_⟩
 have hkl : k < 2 := (gB.1 hk).1
 rcases lt2 hkl with rfl | rfl
 ·cases hk
  exact ⟨some ⟨q1, 0, none⟩, 1, rfl, rfl, rfl, rfl, sl_blkA h1 rfl rfl (by decide) hB.2.1⟩
 ·cases hk
  exact ⟨some ⟨q2, 0, none⟩, 1, rfl, rfl, rfl, rfl, sl_blkA h2 rfl rfl (by decide) hB.2.2.1⟩
theorem two_any (w : World) : Calls Tryz.prog 9 #[] w (AutOne w twoA) := by
 obtain ⟨W0, hW0⟩ := xQ (w.alloc (.cells #[.int .i64 0, .slice none 0 0, .slice none 0 0] 25))
 have hb0 : Below w.1.size w W0 := by rw [← hW0]; exact bR.alloc lR _
 have k0 : W0.1[w.1.size]? = some (.cells #[.int .i64 0, .slice none 0 0, .slice none 0 0] 25) := by rw [← hW0]; exact heap_alloc_new w _
 have z0 : W0.1.size = w.1.size + 1 := by rw [← hW0]; simp
 obtain ⟨y0, y1, y2⟩ := box3A k0
 have f0 := frozen_of_row W0 _ 0 _ _ k0
 have f1 := frozen_of_row W0 _ 1 _ _ k0
 have f2 := frozen_of_row W0 _ 2 _ _ k0
 have yl : w.1.size < W0.1.size := by omega
 have yl1 : w.1.size < W0.1.size + 1 := by omega
 have yl2 : w.1.size < W0.1.size + 1 + 1 := by omega
 have yl3 : w.1.size < W0.1.size + 1 + 1 + 1 := by omega
 have yl4 : w.1.size < W0.1.size + 1 + 1 + 1 + 1 := by omega
 have HW0 := dh hW0
 have HB0 := dh hb0
 have HK0 := dh k0
 have HZ0 := dh z0
 clear hW0 hb0 k0 z0
 go_enter Tryz.func9, Tryz.ntmps9
 go_upto_region 1 with fail
 rw [HW0.out]
 go_wp2_with fail
 have hset := set3A (a := .int .i64 1) (b := .slice (some ⟨W0.1.size, 0, none⟩) 2 2) (c := .slice (some ⟨W0.1.size + 1 + 1 + 1, 0, none⟩) 2 2) HK0.out rfl
 have htc := tch3A W0 (w.1.size) (.int .i64 1) (.slice (some ⟨W0.1.size, 0, none⟩) 2 2) (.slice (some ⟨W0.1.size + 1 + 1 + 1, 0, none⟩) 2 2)
 obtain ⟨Y, hY⟩ := xQ (((W0.setCell ⟨w.1.size, 0, none⟩ (.int .i64 1)).setCell ⟨w.1.size, 1, none⟩ (.slice (some ⟨W0.1.size, 0, none⟩) 2 2)).setCell ⟨w.1.size, 2, none⟩ (.slice (some ⟨W0.1.size + 1 + 1 + 1, 0, none⟩) 2 2))
 have hzY : Y.1.size = W0.1.size := by rw [← hY]; simp [World.setCell]
 rw [hY] at hset htc ⊢
 obtain ⟨hb4, hz4, hl4⟩ := als ([.cells #[.int .i64 1, .int .i64 0] 3, .cells #[.int .i64 0, .int .i64 1] 3, .cells #[.int .i64 1, .int .i64 0] 3, .cells #[.int .u64 0, .int .u64 0, .int .u64 1, .slice (some ⟨W0.1.size + 1, 0, none⟩) 2 2, .int .u64 0, .int .u64 0, .int .u64 1, .slice (some ⟨W0.1.size + 1 + 1, 0, none⟩) 2 2] 36] : List Obj) Y
 obtain ⟨Z, hZ⟩ := xQ (([.cells #[.int .i64 1, .int .i64 0] 3, .cells #[.int .i64 0, .int .i64 1] 3, .cells #[.int .i64 1, .int .i64 0] 3, .cells #[.int .u64 0, .int .u64 0, .int .u64 1, .slice (some ⟨W0.1.size + 1, 0, none⟩) 2 2, .int .u64 0, .int .u64 0, .int .u64 1, .slice (some ⟨W0.1.size + 1 + 1, 0, none⟩) 2 2] 36] : List Obj).foldl World.alloc Y)
 rw [hZ] at hb4 hz4 hl4
 show bodyPost _ _ _ _ _ (([.cells #[.int .i64 1, .int .i64 0] 3, .cells #[.int .i64 0, .int .i64 1] 3, .cells #[.int .i64 1, .int .i64 0] 3, .cells #[.int .u64 0, .int .u64 0, .int .u64 1, .slice (some ⟨W0.1.size + 1, 0, none⟩) 2 2, .int .u64 0, .int .u64 0, .int .u64 1, .slice (some ⟨W0.1.size + 1 + 1, 0, none⟩) 2 2] 36] : List Obj).foldl World.alloc Y)
 rw [hZ]
 have k0 := hl4 0 _ rfl
 have k1 := hl4 1 _ rfl
 have k2 := hl4 2 _ rfl
 have k3 := hl4 3 _ rfl
 rw [hzY] at k0 k1 k2 k3
 simp only [List.length_cons, List.length_nil] at hz4
 obtain ⟨g0, g1, g2⟩ := box3A ((hb4.block w.1.size (by omega)).trans hset)
 have hbZ : Below w.1.size w Z := (HB0.out.trans (htc.below (show w.1.size ≤ W0.1.size by omega) (fun x hx e => by have e : x = w.1.size := e; omega))).trans (hb4.mono (show w.1.size ≤ Y.1.size by omega))
 refine bodyPost_ret (v := .agg #[.int .i64 1, .slice (some ⟨W0.1.size, 0, none⟩) 2 2, .slice (some ⟨W0.1.size + 1 + 1 + 1, 0, none⟩) 2 2]) ?_ rfl ⟨_, _, _, _, _, _, rfl, twoA_rd k0 k1 k2 k3 (by omega), hbZ⟩
 simp [results, Tryz.results9, go_sem, g0, g1, g2]
end Go.Proofs.YtiebpncpdbnelaaGreatDoor
namespace Go.Proofs.YtiebpncpdbnelaaGreatDoor
open Go.RowKit
theorem boxA (w : World) (x y z : Value) : ∃ W, w.alloc (.cells #[x, y, z] 25) = W ∧ Below w.1.size w W ∧ W.1.size = w.1.size + 1 ∧ W.1[w.1.size]? = some (.cells #[x, y, z] 25 (0, 0)) :=
 ⟨_, rfl, bR.alloc lR _, by simp, heap_alloc_new w _⟩
theorem awake33_any (w : World) (hT : TabAt 0 Lib.deBruijn64tab w) (hg : 0 < w.1.size) : Calls Tryz.prog 5 #[] w (Tru w true) := by
 have HTB : Hid (∀ W', Below w.1.size w W' → TabAt 0 Lib.deBruijn64tab W' ∧ 0 < W'.1.size) := dh (fun W' hb => ⟨fun x hx => bC hb hg (hT x hx), Nat.lt_of_lt_of_le hg hb.size⟩)
 clear hT hg
 have HTW := dh (two_any w)
 go_enter Tryz.func5, Tryz.ntmps5
 go_wp2_with fail
 refine HTW.out.mono ?_
 rintro e w1 ⟨Ti, ti, ei, Tn, tn, en, rfl, hrt, hb1⟩
 have HOF := dh (ofP_ok twoA Ti ti ei Tn tn en w1 w1.1.size hrt lR two_chk (HTB.out w1 hb1).1 (HTB.out w1 hb1).2 10 ⟨by decide, by decide, by decide, by decide⟩ (by decide))
 rw [two_of] at HOF
 have HB1 := dh hb1
 clear hrt hb1
 go_wp2_with fail
 refine HOF.out.mono ?_
 rintro e w2 ⟨Oi, oi, pi, On, on, pn, rfl, hro, hb2, -⟩
 have eoi : oi = 1 := hro.eni
 have eon : on = 1 := hro.enn
 subst eoi
 subst eon
 obtain ⟨bo, oo, x, Ax, cx, rfl, hbo, hx, -, -, c2, c3, -⟩ := rd_aut hro (show 0 < 1 by omega)
 obtain rfl : x = ⟨0, 0, 1, [0]⟩ := by
  have h : oneA.nodes[0]? = some ⟨0, 0, 1, [0]⟩ := rfl
  rw [h] at hx; exact (Option.some.inj hx).symm
 have hpn := (Exists.choose_spec hro.nodes).1.cap
 have hpm := (Exists.choose_spec hro.nodes).1.max
 unfold maxLen at hpm
 have HB2 := dh (HB1.out.trans (hb2.mono HB1.out.size))
 obtain ⟨W3, hW3, hb3, z3, k3⟩ := boxA w2 (.int .i64 1) (.slice Oi 1 pi) (.slice (some ⟨bo, oo, none⟩) 1 pn)
 have HC2 : Hid (w2.cell? ⟨bo, oo + 2, none⟩ = some (.int .u64 1)) := dh (by simpa using c2)
 have HC3 : Hid (w2.cell? ⟨bo, oo + 3, none⟩ = some (.slice Ax 1 cx)) := dh (by simpa using c3)
 have HB23 := dh hb3
 have HB3 := dh (HB2.out.trans (hb3.mono HB2.out.size))
 have HK3 := dh k3
 have HW3 := dh hW3
 clear hro hb2 hx c2 c3 hb3 z3 k3 hW3
 go_upto_region 2 with fail
 show Code.wp _ _ _ _ (w2.alloc (.cells #[.int .i64 1, .slice Oi 1 pi, .slice (some ⟨bo, oo, none⟩) 1 pn] 25))
 rw [HW3.out]
 obtain ⟨hb7, hz7, hl7⟩ := als ([.cells #[.int .i64 0, .int .i64 1] 3, .cells #[.int .i64 0] 3, .cells #[.int .i64 1] 3, .cells #[.int .u64 1, .int .u64 0, .int .u64 1, .slice (some ⟨W3.1.size + 1, 0, none⟩) 1 1, .int .u64 0, .int .u64 0, .int .u64 1, .slice (some ⟨W3.1.size + 1 + 1, 0, none⟩) 1 1] 36] : List Obj) W3
 obtain ⟨W7, hW7⟩ := xQ (([.cells #[.int .i64 0, .int .i64 1] 3, .cells #[.int .i64 0] 3, .cells #[.int .i64 1] 3, .cells #[.int .u64 1, .int .u64 0, .int .u64 1, .slice (some ⟨W3.1.size + 1, 0, none⟩) 1 1, .int .u64 0, .int .u64 0, .int .u64 1, .slice (some ⟨W3.1.size + 1 + 1, 0, none⟩) 1 1] 36] : List Obj).foldl World.alloc W3)
 rw [hW7] at hb7 hz7 hl7
 have j0 := hl7 0 _ rfl
 have j1 := hl7 1 _ rfl
 have j2 := hl7 2 _ rfl
 have j3 := hl7 3 _ rfl
 simp only [List.length_cons, List.length_nil] at hz7
 have HPR := dh (pruneP_any cutA (some ⟨W3.1.size, 0, none⟩) 2 2 (some ⟨W3.1.size + 1 + 1 + 1, 0, none⟩) 2 2 W7 W7.1.size (cutA_rd j0 j1 j2 j3 (by omega)) lR cut_chk (by decide) (by decide) 10 (by decide) (by decide) (by decide))
 rw [cut_prune] at HPR
 have HPR2 := HPR.out
 rw [← hW7] at HPR2
 simp only [List.foldl_cons, List.foldl_nil] at HPR2
 have HPS := dh HPR2
 have HB7 := dh (HB3.out.trans (hb7.mono HB3.out.size))
 have HB37 := dh hb7
 have HW7 := dh hW7
 simp only [List.foldl_cons, List.foldl_nil] at hW7
 have HW7 := dh hW7
 clear hb7 hz7 hl7 j0 j1 j2 j3 hW7 HPR2 HPR
 go_wp2_with fail
 refine HPS.out.mono ?_
 rw [HW7.out]
 rintro e w8 ⟨Pi, pi2, qi, Pn, pn2, qn, rfl, hrp, hb8, -⟩
 have epi : pi2 = 1 := hrp.eni
 have epn : pn2 = 2 := hrp.enn
 subst epi
 subst epn
 have hqc := hrp.init.cap
 have hqm := hrp.init.max
 unfold maxLen at hqm
 obtain ⟨bp, op, rfl, hbp, c4⟩ := hrp.init.rd.at_ (j := 0) (show (icells [(1 : Int)])[0]? = some (.int .i64 1) from rfl)
 have HB8 := dh (HB7.out.trans (hb8.mono HB7.out.size))
 have HB38 := dh (HB37.out.trans (hb8.mono HB37.out.size))
 obtain ⟨W9, hW9, hb9, z9, k9⟩ := boxA w8 (.int .i64 1) (.slice (some ⟨bp, op, none⟩) 1 qi) (.slice Pn 2 qn)
 have HC4 : Hid (w8.cell? ⟨bp, op, none⟩ = some (.int .i64 1)) := dh (by simpa using c4)
 have HB89 := dh hb9
 have HB9 := dh (HB8.out.trans (hb9.mono HB8.out.size))
 have HB39 := dh (HB38.out.trans (hb9.mono HB38.out.size))
 have HK9 := dh k9
 have HW9 := dh hW9
 have HT9 := dh (two_any W9)
 clear hrp hb8 c4 hb9 z9 k9 hW9
 go_upto_region 3 with fail
 show Code.wp _ _ _ _ (w8.alloc (.cells #[.int .i64 1, .slice (some ⟨bp, op, none⟩) 1 qi, .slice Pn 2 qn] 25))
 rw [HW9.out]
 go_wp2_with fail
 refine HT9.out.mono ?_
 rintro e w10 ⟨Ui, ui, fi, Un, un, fn, rfl, hru, hb10⟩
 have HM := dh (mergeP_any twoA Ui ui fi Un un fn w10 w10.1.size hru lR two_chk (by decide) (by decide) 10 (by decide) (by decide) (by decide))
 rw [two_merge] at HM
 have HB10 := dh (HB9.out.trans (hb10.mono HB9.out.size))
 have HB910 := dh hb10
 clear hru hb10
 go_wp2_with fail
 refine HM.out.mono ?_
 rintro e w11 ⟨Mi, m1, ki, Mn, m2, kn, rfl, hrm, hb11, -⟩
 have em2 : m2 = 1 := hrm.enn
 subst em2
 have HB11 := dh (HB10.out.trans (hb11.mono HB10.out.size))
 have HB911 := dh (HB910.out.trans (hb11.mono HB910.out.size))
 obtain ⟨W12, hW12, hb12, z12, k12⟩ := boxA w11 (.int .i64 1) (.slice Mi m1 ki) (.slice Mn 1 kn)
 have HB12 := dh (HB11.out.trans (hb12.mono HB11.out.size))
 have HB912 := dh (HB911.out.trans (hb12.mono HB911.out.size))
 have HB312 := dh (HB39.out.trans (HB912.out.mono HB39.out.size))
 have HW12 := dh hW12
 have HK12 := dh k12
 clear hrm hb11 hb12 z12 k12 hW12
 go_upto_region 4 with fail
 show Code.wp _ _ _ _ (w11.alloc (.cells #[.int .i64 1, .slice Mi m1 ki, .slice Mn 1 kn] 25))
 rw [HW12.out]
 obtain ⟨a0, a1, a2⟩ := box3A ((HB312.out.block w2.1.size (aI.1 HK3.out).1).trans HK3.out)
 obtain ⟨b0, b1, b2⟩ := box3A ((HB912.out.block w8.1.size (aI.1 HK9.out).1).trans HK9.out)
 obtain ⟨e0, e1, e2⟩ := box3A HK12.out
 have n2 := bC (HB23.out.trans (HB312.out.mono HB23.out.size)) hbo HC2.out
 have n3 := bC (HB23.out.trans (HB312.out.mono HB23.out.size)) hbo HC3.out
 have n4 := bC (HB89.out.trans (HB912.out.mono HB89.out.size)) hbp HC4.out
 go_wp2_with fail
 go_ret
 exact ⟨rfl, HB12.out⟩
end Go.Proofs.YtiebpncpdbnelaaGreatDoor
namespace Go.Proofs.YtiebpncpdbnelaaGreatDoor
open Go Go.RowKit
theorem LessA.zero (a : Aut) : LessA Aut.zero a := ⟨Nat.zero_le _, Nat.zero_le _, fun x hx => (by cases hx)⟩
theorem NDA.zero (KE : Nat) : NDA Aut.zero KE := ⟨fun x hx => (by cases hx), fun x hx => (by cases hx), fun x hx => (by cases hx), Nat.zero_le _⟩
structure SmallA (b a : Aut) (KE : Nat) : Prop where
 less : LessA b a
 nda : NDA b KE
theorem of_small {a : Aut} {KE : Nat} (h : NDA a KE) : SmallA (ofFA a) a KE := by
 unfold ofFA
 split
 ·rename_i hck
  refine ⟨ofQ_lessA (chk_iff.1 hck), ?_⟩
  exact (ofQ_rel (chk_iff.1 hck) (R := fun b a => NDA a KE → NDA b KE) (fun _ h => h) (fun _ _ _ ih h => ih h.trim.merge.prune.trim)) h
 ·exact ⟨LessA.zero a, NDA.zero KE⟩
end Go.Proofs.YtiebpncpdbnelaaGreatDoor
