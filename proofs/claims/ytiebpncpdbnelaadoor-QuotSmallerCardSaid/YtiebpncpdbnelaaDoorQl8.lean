/- The laws of layer 33: QuotSmaller. -/
import Derived.Test.YtiebpncpdbnelaaDoorZbx
set_option maxHeartbeats 8000000
set_option maxRecDepth 100000
namespace Go.Proofs.YtiebpncpdbnelaaDoor
open Go.RowKit
attribute [local go_sem] Oper.semAt_some
theorem mergeF_sets {a : Aut} (h : chkA a = 0) : (mergeF a).sets = a.sets := by unfold mergeF; rw [if_pos h]; rfl
theorem ofFA_chk {a : Aut} (h : chkA a = 0) : chkA (ofFA a) = 0 := by unfold ofFA; rw [if_pos h]; exact chk_iff.2 (ofQ_good (chk_iff.1 h)).1
theorem ofFA_merge {a : Aut} (h : chkA a = 0) : (ofFA a).nodes.length ≤ (mergeF a).nodes.length := by
 unfold ofFA mergeF
 rw [if_pos h, if_pos h]
 exact ofQ_merge_len (chk_iff.1 h)
def RelC (b : Aut) (x : Value) (w : World) : Prop := ∃ Bi bi di Bn bn dn, x = .agg #[.int .i64 b.sets, .slice Bi bi di, .slice Bn bn dn] ∧ SepA w b Bi bi di Bn bn dn
def RelN (x : Value) (w : World) : Prop := ∃ g, x = .pointer (some ⟨g, 0, none⟩) ∧ g < w.1.size ∧ w.1[g]? = some (.cells #[.int .i64 0, .slice none 0 0, .slice none 0 0] 25 (0, 0))
theorem RelC.below {b : Aut} {x : Value} {w w' : World} (h : RelC b x w) (hb : Below w.1.size w w') : RelC b x w' := by
 obtain ⟨Bi, bi, di, Bn, bn, dn, e, hs⟩ := h
 exact ⟨Bi, bi, di, Bn, bn, dn, e, hs.below hb⟩
theorem RelN.below {x : Value} {w w' : World} (h : RelN x w) (hb : Below w.1.size w w') : RelN x w' := by
 obtain ⟨g, e, hg, hs⟩ := h
 exact ⟨g, e, Nat.lt_of_lt_of_le hg hb.size, (hb.block g hg).trans hs⟩
theorem newV_agg (w : World) (l : Array Value) : NewV w (.agg l) := fun _ _ e => by cases e
theorem oldV_agg (w : World) (l : Array Value) : OldV w (.agg l) := fun _ _ e => by cases e
theorem AutOneS.relC {w : World} {b : Aut} {e : Ending} {w' : World} (h : AutOneS w b e w') : ∃ v, e = .returned v ∧ RelC b v w' ∧ Below w.1.size w w' ∧ NewV w v ∧ OldV w' v := by
 obtain ⟨Bi, bi, di, Bn, bn, dn, rfl, -, hb, hs⟩ := h
 exact ⟨_, rfl, ⟨Bi, bi, di, Bn, bn, dn, rfl, hs⟩, hb, newV_agg _ _, oldV_agg _ _⟩
theorem relN_new (w : World) : RelN (.pointer (some ⟨w.1.size, 0, none⟩)) (w.alloc (.cells #[.int .i64 0, .slice none 0 0, .slice none 0 0] 25)) ∧ Below w.1.size w (w.alloc (.cells #[.int .i64 0, .slice none 0 0, .slice none 0 0] 25)) ∧ NewV w (.pointer (some ⟨w.1.size, 0, none⟩)) ∧ OldV (w.alloc (.cells #[.int .i64 0, .slice none 0 0, .slice none 0 0] 25)) (.pointer (some ⟨w.1.size, 0, none⟩)) := by
 have hz : (w.alloc (.cells #[.int .i64 0, .slice none 0 0, .slice none 0 0] 25)).1.size = w.1.size + 1 := by simp
 have h1 : NewV w (.pointer (some ⟨w.1.size, 0, none⟩)) := fun g o e => by cases e; exact lR
 have h2 : OldV (w.alloc (.cells #[.int .i64 0, .slice none 0 0, .slice none 0 0] 25)) (.pointer (some ⟨w.1.size, 0, none⟩)) := fun g o e => by cases e; omega
 exact ⟨⟨_, rfl, by omega, heap_alloc_new w _⟩, bR.alloc lR _, h1, h2⟩
theorem QuotSmaller_any (a : Aut) (Ai : Option Addr) (ni ci : Nat) (An : Option Addr) (nn cn : Nat) (w : World) (hrd : AutRd w w.1.size a Ai ni ci An nn cn) (hok : ∀ x ∈ a.nodes, ANdOk x) (_hsW : (Lit.int .i64 a.sets).wf = true) (hT : TabAt 0 Lib.deBruijn64tab w) (hg : 0 < w.1.size) :
  Calls Tryd.prog 6 #[.agg #[.int .i64 a.sets, .slice Ai ni ci, .slice An nn cn]] w (Tru w true) := by
 have hb0 : Below w.1.size w (w.alloc (.cells #[.int .i64 a.sets, .slice Ai ni ci, .slice An nn cn] 25)) := bR.alloc lR _
 have x0 := heap_alloc_new w (.cells #[.int .i64 a.sets, .slice Ai ni ci, .slice An nn cn] 25)
 have z0 : (w.alloc (.cells #[.int .i64 a.sets, .slice Ai ni ci, .slice An nn cn] 25)).1.size = w.1.size + 1 := by simp
 obtain ⟨W0, hW0⟩ := xQ (w.alloc (.cells #[.int .i64 a.sets, .slice Ai ni ci, .slice An nn cn] 25))
 rw [hW0] at hb0 x0 z0
 have hq0 : w.1.size ≤ W0.1.size := by omega
 have HRD := dh (hrd.below hb0 lR)
 have HW0 := dh hW0
 have HB0 := dh hb0
 have HND : Hid (∀ x ∈ a.nodes, x.need < 2 ^ 64 ∧ x.ban < 2 ^ 64) := dh (fun x hx => ⟨(hok x hx).1, (hok x hx).2.1⟩)
 have HINN : Hid (∀ x ∈ a.nodes, x.inn < 2 ^ 64) := dh (fun x hx => (hok x hx).2.2.1)
 have HNN := dh hrd.enn
 have HCL : Hid (∀ W', Below W0.1.size W0 W' → W'.cell? ⟨w.1.size, 0, none⟩ = some (.int .i64 a.sets) ∧ W'.cell? ⟨w.1.size, 1, none⟩ = some (.slice Ai ni ci) ∧ W'.cell? ⟨w.1.size, 2, none⟩ = some (.slice An nn cn)) := dh (fun W' hb => by
  have k0 := (hb.block w.1.size (by omega)).trans x0
  refine ⟨?_, ?_, ?_⟩ <;> (rw [cell_of_row _ _ _ _ _ (0, 0) k0]; rfl))
 have HTB : Hid (∀ W', Below W0.1.size W0 W' → TabAt 0 Lib.deBruijn64tab W' ∧ 0 < W'.1.size) := dh (fun W' hb => by
  have hbw := hb0.trans (hb.mono hq0)
  exact ⟨fun x hx => bC hbw hg (hT x hx), Nat.lt_of_lt_of_le hg hbw.size⟩)
 have HAW : Hid (∀ W', Below W0.1.size W0 W' → Calls Tryd.prog 14 #[] W' (Tru W' true)) := dh (fun W' hb => awake33_any W' (HTB.out W' hb).1 (HTB.out W' hb).2)
 have HHV := dh (heavy33_any a Ai ni ci An nn cn none 0 0 none 0 0 W0 w.1.size HRD.out hq0)
 have HXA := dh x0
 have hwW0 : w.1.size < W0.1.size := by omega
 have HHR := dh hrd
 have HTT := dh hT
 have HGG := dh hg
 clear hW0 hb0 x0 z0 hrd hok hT hg
 go_enter Tryd.func6, Tryd.ntmps6
 go_upto_region 1 with fail
 rw [HW0.out]
 obtain ⟨q0, q1, q2⟩ := HCL.out W0 bR
 go_wp2_with fail
 refine HHV.out.mono ?_
 rintro e w1 ⟨rfl, hb1⟩
 have hz1 := hb1.size
 have HB1 := dh hb1
 clear q0 q1 q2 hb1
 cases hh : heavy33 a 0 0
 rotate_left 1
 ·have HAW1 := dh (HAW.out w1 HB1.out)
  clear hh
  go_wp2_with fail
  refine HAW1.out.mono ?_
  rintro e w9 ⟨rfl, hb9⟩
  have HB9 := dh (HB0.out.trans ((HB1.out.trans (hb9.mono HB1.out.size)).mono hq0))
  clear hb9
  go_wp2_with fail
  go_ret
  exact ⟨rfl, HB9.out⟩
 ·obtain ⟨hc1, hc2, -, -, hc5⟩ := heavy33_bd hh
  have HC5 := dh hc5
  have hnn : nn ≤ 16 := by rw [HNN.out]; exact hc1
  have HDA : Hid (NDA a 40) := dh ⟨HND.out, HINN.out, HC5.out, by omega⟩
  clear hh hc5
  have HPM : Hid (∀ W', Below W0.1.size W0 W' → Calls Tryd.prog 16 #[.agg #[.int .i64 a.sets, .slice Ai ni ci, .slice An nn cn]] W' (AutOneS W' (mergeF a))) := dh (fun W' hb => mergeP_all a Ai ni ci An nn cn W' w.1.size (HRD.out.below hb hq0) (Nat.le_trans hq0 hb.size) 40 HDA.out (by omega))
  have HPP : Hid (∀ W', Below W0.1.size W0 W' → Calls Tryd.prog 18 #[.agg #[.int .i64 a.sets, .slice Ai ni ci, .slice An nn cn]] W' (AutOneS W' (pruneF a))) := dh (fun W' hb => pruneP_all a Ai ni ci An nn cn W' w.1.size (HRD.out.below hb hq0) (Nat.le_trans hq0 hb.size) 40 HDA.out (by omega))
  have HPQ : Hid (∀ W', Below W0.1.size W0 W' → Calls Tryd.prog 21 #[.agg #[.int .i64 a.sets, .slice Ai ni ci, .slice An nn cn]] W' (AutOneS W' (ofFA a))) := dh (fun W' hb => ofP_all a Ai ni ci An nn cn W' w.1.size (HRD.out.below hb hq0) (Nat.le_trans hq0 hb.size) (HTB.out W' hb).1 (HTB.out W' hb).2 40 HDA.out (by omega))
  have hlm := (merge_small HDA.out)
  have hlp := (prune_small HDA.out)
  have hlq := (of_small HDA.out)
  have hcm : chkA a = 0 → (ofFA a).nodes.length ≤ (mergeF a).nodes.length ∧ (mergeF a).sets = a.sets ∧ chkA (ofFA a) = 0 := fun h => ⟨ofFA_merge h, mergeF_sets h, ofFA_chk h⟩
  have hcz : ¬ chkA a = 0 → mergeF a = Aut.zero ∧ pruneF a = Aut.zero ∧ ofFA a = Aut.zero := fun h => ⟨if_neg h, if_neg h, if_neg h⟩
  obtain ⟨bm, hbm⟩ := xQ (mergeF a)
  obtain ⟨bp, hbp⟩ := xQ (pruneF a)
  obtain ⟨bq, hbq⟩ := xQ (ofFA a)
  rw [hbm] at HPM hlm hcm hcz
  rw [hbp] at HPP hlp hcz
  rw [hbq] at HPQ hlq hcm hcz
  have HLM := dh hlm
  have HLP := dh hlp
  have HLQ := dh hlq
  have HCM := dh hcm
  have HCZ := dh hcz
  clear hlm hlp hlq hcm hcz hbm hbp hbq
  obtain ⟨s0, s1, s2⟩ := HCL.out w1 HB1.out
  go_upto_region 3 with fail
  refine wp_region_held_drew (S := fun w' => w'.cell? ⟨w.1.size, 0, none⟩ = some (.int .i64 a.sets) ∧ w'.cell? ⟨w.1.size, 1, none⟩ = some (.slice Ai ni ci) ∧ w'.cell? ⟨w.1.size, 2, none⟩ = some (.slice An nn cn)) (by kernel_rfl) ⟨s0, s1, s2⟩ (fun hS => ?_)
  refine tkH 0 ?_
  refine tkH 2 ?_
  refine tkH 4 ?_
  have hzd : w1.drew.1.size = w1.1.size := rfl
  have HBD : Hid (∀ W', Below w1.drew.1.size w1.drew W' → Below W0.1.size W0 W') := dh (fun W' hb => (Below.drew HB1.out).trans (hb.mono (by rw [hzd]; exact hz1)))
  refine wpAnyH_items 6 [⟨1, 11, RelC bm⟩, ⟨3, 13, RelC bp⟩, ⟨5, 15, RelC bq⟩, ⟨6, 3, RelN⟩, ⟨7, 4, RelN⟩, ⟨8, 5, RelN⟩] rfl _ _ _ _ (show [11, 13, 15, 3, 4, 5].Nodup by decide) (show [1, 3, 5, 6, 7, 8].Nodup by decide) (by kernel_rfl) (fun W' hb => HCL.out W' (HBD.out W' hb)) ?_ ?_ ?_
  ·intro m hm x u1 u2 hb h
   simp only [List.mem_cons, List.not_mem_nil, or_false] at hm
   rcases hm with rfl | rfl | rfl | rfl | rfl | rfl
   ·exact RelC.below h hb
   ·exact RelC.below h hb
   ·exact RelC.below h hb
   ·exact RelN.below h hb
   ·exact RelN.below h hb
   ·exact RelN.below h hb
  ·intro m hm a' w' hfr hb
   have hbw := HBD.out w' hb
   have e10 := hfr 10 (by simp)
   have e12 := hfr 12 (by simp)
   have e14 := hfr 14 (by simp)
   simp only [List.mem_cons, List.not_mem_nil, or_false] at hm
   rcases hm with rfl | rfl | rfl | rfl | rfl | rfl
   ·refine wpOp_call rfl (vs := #[.agg #[.int .i64 a.sets, .slice Ai ni ci, .slice An nn cn]]) (by simp only [List.map_toArray, List.map_cons, List.map_nil, e10]; rfl) (by go_simp) (HPM.out w' hbw) (fun e w2 h => ?_)
    obtain ⟨v, rfl, h1, h2, h3, h4⟩ := h.relC
    exact ⟨v, rfl, v, rfl, h1, h2, h3, h4⟩
   ·refine wpOp_call rfl (vs := #[.agg #[.int .i64 a.sets, .slice Ai ni ci, .slice An nn cn]]) (by simp only [List.map_toArray, List.map_cons, List.map_nil, e12]; rfl) (by go_simp) (HPP.out w' hbw) (fun e w2 h => ?_)
    obtain ⟨v, rfl, h1, h2, h3, h4⟩ := h.relC
    exact ⟨v, rfl, v, rfl, h1, h2, h3, h4⟩
   ·refine wpOp_call rfl (vs := #[.agg #[.int .i64 a.sets, .slice Ai ni ci, .slice An nn cn]]) (by simp only [List.map_toArray, List.map_cons, List.map_nil, e14]; rfl) (by go_simp) (HPQ.out w' hbw) (fun e w2 h => ?_)
    obtain ⟨v, rfl, h1, h2, h3, h4⟩ := h.relC
    exact ⟨v, rfl, v, rfl, h1, h2, h3, h4⟩
   ·exact wpOp_alloc rfl (by go_simp) ⟨_, rfl, relN_new w'⟩
   ·exact wpOp_alloc rfl (by go_simp) ⟨_, rfl, relN_new w'⟩
   ·exact wpOp_alloc rfl (by go_simp) ⟨_, rfl, relN_new w'⟩
  intro v w2 hb2' hv hap
  have hb2 := HBD.out w2 hb2'
  obtain ⟨hm0, -, -⟩ := hv ⟨1, 11, RelC bm⟩ (by simp)
  obtain ⟨hp0, -, -⟩ := hv ⟨3, 13, RelC bp⟩ (by simp)
  obtain ⟨hq0', -, -⟩ := hv ⟨5, 15, RelC bq⟩ (by simp)
  obtain ⟨hx0, hx1, -⟩ := hv ⟨6, 3, RelN⟩ (by simp)
  obtain ⟨hy0, hy1, -⟩ := hv ⟨7, 4, RelN⟩ (by simp)
  obtain ⟨hu0, hu1, -⟩ := hv ⟨8, 5, RelN⟩ (by simp)
  obtain ⟨gx, ex, lx, bx⟩ := hx0
  obtain ⟨gy, ey, ly, byy⟩ := hy0
  obtain ⟨gu, eu, lu, bu⟩ := hu0
  have hxy : gx ≠ gy := hap ⟨6, 3, RelN⟩ (by simp) ⟨7, 4, RelN⟩ (by simp) (by decide) _ _ _ _ ex ey
  have hxu : gx ≠ gu := hap ⟨6, 3, RelN⟩ (by simp) ⟨8, 5, RelN⟩ (by simp) (by decide) _ _ _ _ ex eu
  have hyu : gy ≠ gu := hap ⟨7, 4, RelN⟩ (by simp) ⟨8, 5, RelN⟩ (by simp) (by decide) _ _ _ _ ey eu
  have hgx := hx1 _ _ ex
  have hgy := hy1 _ _ ey
  have hgu := hu1 _ _ eu
  obtain ⟨Mi, mi, mc, Mn, mn, md, em, HSM⟩ := hm0
  obtain ⟨Pi, pi, pc, Pn, pn, pd, ep, HSP⟩ := hp0
  obtain ⟨Qi, qi, qc, Qn, qn, qd, eq, HSQ⟩ := hq0'
  dsimp only at em ep eq ex ey eu
  simp only [putV, List.foldl_cons, List.foldl_nil, em, ep, eq, ex, ey, eu, markL]
  have hwx : w.1.size < w2.1.size := by have := hb2.size; omega
  have kA : w2.1[w.1.size]? = some (.cells #[.int .i64 a.sets, .slice Ai ni ci, .slice An nn cn] 25 (0, 0)) := (hb2.block w.1.size (by omega)).trans HXA.out
  have HKA := dh kA
  have HBX := dh bx
  have HBY := dh byy
  have HBU := dh bu
  have HBW2 := dh (HB0.out.trans (hb2.mono hq0))
  have HSM := dh HSM
  have HSP := dh HSP
  have HSQ := dh HSQ
  have hgw : w.1.size < gx ∧ w.1.size < gy ∧ w.1.size < gu := by rw [hzd] at hgx hgy hgu; omega
  obtain ⟨d1, d2, d3⟩ := hgw
  clear hv hap hx1 hy1 hu1 em ep eq ex ey eu hb2' hb2 bx byy bu kA HBD hS hgx hgy hgu hzd
  obtain ⟨y0, y1, y2⟩ := box3A HBX.out
  have f0 : w2.frozen? ⟨gx, 0, none⟩ = false := frozen_of_row w2 _ 0 _ _ HBX.out
  have f1 : w2.frozen? ⟨gx, 1, none⟩ = false := frozen_of_row w2 _ 1 _ _ HBX.out
  have f2 : w2.frozen? ⟨gx, 2, none⟩ = false := frozen_of_row w2 _ 2 _ _ HBX.out
  have yl : gx < w2.1.size := by omega
  refine oneH 9 (fun K hK => ?_)
  go_simp
  have hset := set3A (a := .int .i64 bm.sets) (b := .slice Mi mi mc) (c := .slice Mn mn md) HBX.out rfl
  have htc := tch3A w2 gx (.int .i64 bm.sets) (.slice Mi mi mc) (.slice Mn mn md)
  obtain ⟨Y1, hY⟩ := xQ (((w2.setCell ⟨gx, 0, none⟩ (.int .i64 bm.sets)).setCell ⟨gx, 1, none⟩ (.slice Mi mi mc)).setCell ⟨gx, 2, none⟩ (.slice Mn mn md))
  rw [hY] at hset htc ⊢
  clear y0 y1 y2 f0 f1 f2 yl
  have HKA1 := dh ((htc.block w.1.size hwx (fun e => by have e : w.1.size = gx := e; omega)).trans HKA.out)
  have HX1 := dh hset
  have HY1 := dh ((htc.block gy ly (fun e => by have e : gy = gx := e; omega)).trans HBY.out)
  have HU1 := dh ((htc.block gu lu (fun e => by have e : gu = gx := e; omega)).trans HBU.out)
  have HM1 := dh (HSM.out.tch htc (fun g hg => by have hg : g = gx := hg; rw [hg]; exact ⟨_, HBX.out⟩))
  have HP1 := dh (HSP.out.tch htc (fun g hg => by have hg : g = gx := hg; rw [hg]; exact ⟨_, HBX.out⟩))
  have HQ1 := dh (HSQ.out.tch htc (fun g hg => by have hg : g = gx := hg; rw [hg]; exact ⟨_, HBX.out⟩))
  have HBY1 := dh (HBW2.out.trans (htc.below (show w.1.size ≤ w2.1.size by omega) (fun y hy e => by have e : y = gx := e; omega)))
  have hzY1 : w2.1.size ≤ Y1.1.size := htc.size
  obtain ⟨k0, k1, k2⟩ := box3A HKA1.out
  refine hK.out _ _ ⟨k0, k1, k2⟩ (fun hS => ?_)
  clear hK hset htc hY hS k0 k1 k2
  obtain ⟨y0, y1, y2⟩ := box3A HY1.out
  have f0 : Y1.frozen? ⟨gy, 0, none⟩ = false := frozen_of_row Y1 _ 0 _ _ HY1.out
  have f1 : Y1.frozen? ⟨gy, 1, none⟩ = false := frozen_of_row Y1 _ 1 _ _ HY1.out
  have f2 : Y1.frozen? ⟨gy, 2, none⟩ = false := frozen_of_row Y1 _ 2 _ _ HY1.out
  have yl : gy < Y1.1.size := by omega
  refine oneH 10 (fun K hK => ?_)
  go_simp
  have hset := set3A (a := .int .i64 bp.sets) (b := .slice Pi pi pc) (c := .slice Pn pn pd) HY1.out rfl
  have htc := tch3A Y1 gy (.int .i64 bp.sets) (.slice Pi pi pc) (.slice Pn pn pd)
  obtain ⟨Y2, hY⟩ := xQ (((Y1.setCell ⟨gy, 0, none⟩ (.int .i64 bp.sets)).setCell ⟨gy, 1, none⟩ (.slice Pi pi pc)).setCell ⟨gy, 2, none⟩ (.slice Pn pn pd))
  rw [hY] at hset htc ⊢
  clear y0 y1 y2 f0 f1 f2 yl
  have HKA2 := dh ((htc.block w.1.size (by omega) (fun e => by have e : w.1.size = gy := e; omega)).trans HKA1.out)
  have HX2 := dh ((htc.block gx (by omega) (fun e => by have e : gx = gy := e; omega)).trans HX1.out)
  have HY2 := dh hset
  have HU2 := dh ((htc.block gu (by omega) (fun e => by have e : gu = gy := e; omega)).trans HU1.out)
  have HM2 := dh (HM1.out.tch htc (fun g hg => by have hg : g = gy := hg; rw [hg]; exact ⟨_, HY1.out⟩))
  have HP2 := dh (HP1.out.tch htc (fun g hg => by have hg : g = gy := hg; rw [hg]; exact ⟨_, HY1.out⟩))
  have HQ2 := dh (HQ1.out.tch htc (fun g hg => by have hg : g = gy := hg; rw [hg]; exact ⟨_, HY1.out⟩))
  have HBY2 := dh (HBY1.out.trans (htc.below (show w.1.size ≤ Y1.1.size by omega) (fun y hy e => by have e : y = gy := e; omega)))
  have hzY2 : Y1.1.size ≤ Y2.1.size := htc.size
  obtain ⟨k0, k1, k2⟩ := box3A HKA2.out
  refine hK.out _ _ ⟨k0, k1, k2⟩ (fun hS => ?_)
  clear hK hset htc hY hS k0 k1 k2 HKA1 HX1 HY1 HU1 HM1 HP1 HQ1 HBY1
  obtain ⟨y0, y1, y2⟩ := box3A HU2.out
  have f0 : Y2.frozen? ⟨gu, 0, none⟩ = false := frozen_of_row Y2 _ 0 _ _ HU2.out
  have f1 : Y2.frozen? ⟨gu, 1, none⟩ = false := frozen_of_row Y2 _ 1 _ _ HU2.out
  have f2 : Y2.frozen? ⟨gu, 2, none⟩ = false := frozen_of_row Y2 _ 2 _ _ HU2.out
  have yl : gu < Y2.1.size := by omega
  refine oneH 11 (fun K hK => ?_)
  go_simp
  have hset := set3A (a := .int .i64 bq.sets) (b := .slice Qi qi qc) (c := .slice Qn qn qd) HU2.out rfl
  have htc := tch3A Y2 gu (.int .i64 bq.sets) (.slice Qi qi qc) (.slice Qn qn qd)
  obtain ⟨Y3, hY⟩ := xQ (((Y2.setCell ⟨gu, 0, none⟩ (.int .i64 bq.sets)).setCell ⟨gu, 1, none⟩ (.slice Qi qi qc)).setCell ⟨gu, 2, none⟩ (.slice Qn qn qd))
  rw [hY] at hset htc ⊢
  clear y0 y1 y2 f0 f1 f2 yl
  have HKA3 := dh ((htc.block w.1.size (by omega) (fun e => by have e : w.1.size = gu := e; omega)).trans HKA2.out)
  have HX3 := dh ((htc.block gx (by omega) (fun e => by have e : gx = gu := e; omega)).trans HX2.out)
  have HY3 := dh ((htc.block gy (by omega) (fun e => by have e : gy = gu := e; omega)).trans HY2.out)
  have HU3 := dh hset
  have HM3 := dh (HM2.out.tch htc (fun g hg => by have hg : g = gu := hg; rw [hg]; exact ⟨_, HU2.out⟩))
  have HP3 := dh (HP2.out.tch htc (fun g hg => by have hg : g = gu := hg; rw [hg]; exact ⟨_, HU2.out⟩))
  have HQ3 := dh (HQ2.out.tch htc (fun g hg => by have hg : g = gu := hg; rw [hg]; exact ⟨_, HU2.out⟩))
  have HBY3 := dh (HBY2.out.trans (htc.below (show w.1.size ≤ Y2.1.size by omega) (fun y hy e => by have e : y = gu := e; omega)))
  have hzY3 : Y2.1.size ≤ Y3.1.size := htc.size
  obtain ⟨k0, k1, k2⟩ := box3A HKA3.out
  refine hK.out _ _ ⟨k0, k1, k2⟩ (fun hS => ?_)
  clear hK hset htc hY hS k0 k1 k2 HKA2 HX2 HY2 HU2 HM2 HP2 HQ2 HBY2 HKA HBX HBY HBU HSM HSP HSQ
  refine wpAnyH_done (by kernel_rfl) ?_ _
  have lx3 : gx < Y3.1.size := by omega
  have ly3 : gy < Y3.1.size := by omega
  have lu3 : gu < Y3.1.size := by omega
  have lw3 : w.1.size < Y3.1.size := by omega
  have HC3 : Hid (∀ W', Below Y3.1.size Y3 W' → (W'.cell? ⟨w.1.size, 0, none⟩ = some (.int .i64 a.sets) ∧ W'.cell? ⟨w.1.size, 1, none⟩ = some (.slice Ai ni ci) ∧ W'.cell? ⟨w.1.size, 2, none⟩ = some (.slice An nn cn)) ∧ (W'.cell? ⟨gx, 0, none⟩ = some (.int .i64 bm.sets) ∧ W'.cell? ⟨gx, 1, none⟩ = some (.slice Mi mi mc) ∧ W'.cell? ⟨gx, 2, none⟩ = some (.slice Mn mn md)) ∧ (W'.cell? ⟨gy, 0, none⟩ = some (.int .i64 bp.sets) ∧ W'.cell? ⟨gy, 1, none⟩ = some (.slice Pi pi pc) ∧ W'.cell? ⟨gy, 2, none⟩ = some (.slice Pn pn pd)) ∧ (W'.cell? ⟨gu, 0, none⟩ = some (.int .i64 bq.sets) ∧ W'.cell? ⟨gu, 1, none⟩ = some (.slice Qi qi qc) ∧ W'.cell? ⟨gu, 2, none⟩ = some (.slice Qn qn qd))) := dh (fun W' hb => ⟨box3A ((hb.block _ lw3).trans HKA3.out), box3A ((hb.block _ lx3).trans HX3.out), box3A ((hb.block _ ly3).trans HY3.out), box3A ((hb.block _ lu3).trans HU3.out)⟩)
  have HBW : Hid (∀ W', Below Y3.1.size Y3 W' → Below w.1.size w W') := dh (fun W' hb => HBY3.out.trans (hb.mono (by omega)))
  have HRA : Hid (∀ W', Below Y3.1.size Y3 W' → AutRd W' W'.1.size a Ai ni ci An nn cn) := dh (fun W' hb => ((HHR.out.below (HBW.out W' hb) lR).up (HBW.out W' hb).size))
  have HAW3 : Hid (∀ W', Below Y3.1.size Y3 W' → Calls Tryd.prog 14 #[] W' (Tru W' true)) := dh (fun W' hb => by
   have hbw := HBW.out W' hb
   exact awake33_any W' (fun x hx => bC hbw HGG.out (HTT.out x hx)) (Nat.lt_of_lt_of_le HGG.out hbw.size))
  have HCK := dh (chkR_any a Ai ni ci An nn cn Y3 Y3.1.size (HRA.out Y3 bR) lR)
  obtain ⟨⟨q0, q1, q2⟩, -⟩ := HC3.out Y3 bR
  clear HKA3 HX3 HY3 HU3
  go_wp2_with fail
  refine HCK.out.mono ?_
  rintro e w4 ⟨rfl, hb4⟩
  have HB4 := dh hb4
  have hz4 := hb4.size
  clear q0 q1 q2 hb4
  by_cases hck : chkA a = 0
  ·obtain ⟨e1, e2, e3⟩ := HCM.out hck
   rw [hck]
   rw [e2] at HC3
   have HSI := dh (fun x (hx : x ∈ a.nodes) => (by have := HC5.out x hx; omega : x.to.length ≤ 1000000))
   have hl1 := HLM.out.less.nodes
   have HF1 : Hid (∀ W', Below Y3.1.size Y3 W' → Calls Tryd.prog 23 #[.agg #[.int .i64 a.sets, .slice Ai ni ci, .slice An nn cn], .agg #[.int .i64 a.sets, .slice Mi mi mc, .slice Mn mn md]] W' (Tru W' true)) := dh (fun W' hb => by
    have h := lessQ_any a bm Ai ni ci An nn cn Mi mi mc Mn mn md W' W'.1.size (HRA.out W' hb) (HM3.out.below hb).rd lR HLM.out.less (by omega) HSI.out
    rwa [e2] at h)
   have HF2 : Hid (∀ W', Below Y3.1.size Y3 W' → Calls Tryd.prog 23 #[.agg #[.int .i64 a.sets, .slice Ai ni ci, .slice An nn cn], .agg #[.int .i64 bp.sets, .slice Pi pi pc, .slice Pn pn pd]] W' (Tru W' true)) := dh (fun W' hb => lessQ_any a bp Ai ni ci An nn cn Pi pi pc Pn pn pd W' W'.1.size (HRA.out W' hb) (HP3.out.below hb).rd lR HLP.out.less (by omega) HSI.out)
   have HF3 : Hid (∀ W', Below Y3.1.size Y3 W' → Calls Tryd.prog 23 #[.agg #[.int .i64 a.sets, .slice Ai ni ci, .slice An nn cn], .agg #[.int .i64 bq.sets, .slice Qi qi qc, .slice Qn qn qd]] W' (Tru W' true)) := dh (fun W' hb => lessQ_any a bq Ai ni ci An nn cn Qi qi qc Qn qn qd W' W'.1.size (HRA.out W' hb) (HQ3.out.below hb).rd lR HLQ.out.less (by omega) HSI.out)
   have HF4 : Hid (∀ W', Below Y3.1.size Y3 W' → Calls Tryd.prog 22 #[.agg #[.int .i64 bq.sets, .slice Qi qi qc, .slice Qn qn qd]] W' (Num W' 0)) := dh (fun W' hb => by
    have h := chkR_any bq Qi qi qc Qn qn qd W' W'.1.size (HQ3.out.below hb).rd lR
    rwa [e3] at h)
   have hqm : (qn : Int) ≤ (mn : Int) := by
    rw [HQ3.out.rd.enn, HM3.out.rd.enn]
    exact Int.ofNat_le.2 e1
   have hqm' : qn ≤ mn := by omega
   clear hck e1 e2 e3 HCM HCZ hl1
   obtain ⟨⟨q0, q1, q2⟩, ⟨m0, m1, m2⟩, ⟨p0, p1, p2⟩, ⟨r0, r1, r2⟩⟩ := HC3.out w4 HB4.out
   go_wp2_with fail
   refine (HF1.out _ HB4.out).mono ?_
   rintro e w5 ⟨rfl, hb'⟩
   have HB5 := dh (HB4.out.trans (hb'.mono HB4.out.size))
   clear hb' q0 q1 q2 m0 m1 m2 p0 p1 p2 r0 r1 r2
   obtain ⟨⟨q0, q1, q2⟩, ⟨m0, m1, m2⟩, ⟨p0, p1, p2⟩, ⟨r0, r1, r2⟩⟩ := HC3.out w5 HB5.out
   go_wp2_with fail
   refine (HF2.out _ HB5.out).mono ?_
   rintro e w6 ⟨rfl, hb'⟩
   have HB6 := dh (HB5.out.trans (hb'.mono HB5.out.size))
   clear hb' q0 q1 q2 m0 m1 m2 p0 p1 p2 r0 r1 r2
   obtain ⟨⟨q0, q1, q2⟩, ⟨m0, m1, m2⟩, ⟨p0, p1, p2⟩, ⟨r0, r1, r2⟩⟩ := HC3.out w6 HB6.out
   go_wp2_with fail
   refine (HF3.out _ HB6.out).mono ?_
   rintro e w7 ⟨rfl, hb'⟩
   have HB7 := dh (HB6.out.trans (hb'.mono HB6.out.size))
   clear hb' q0 q1 q2 m0 m1 m2 p0 p1 p2 r0 r1 r2
   obtain ⟨⟨q0, q1, q2⟩, ⟨m0, m1, m2⟩, ⟨p0, p1, p2⟩, ⟨r0, r1, r2⟩⟩ := HC3.out w7 HB7.out
   go_wp2_with fail
   refine (HF4.out _ HB7.out).mono ?_
   rintro e w8 ⟨rfl, hb'⟩
   have HB8 := dh (HB7.out.trans (hb'.mono HB7.out.size))
   clear hb' q0 q1 q2 m0 m1 m2 p0 p1 p2 r0 r1 r2
   obtain ⟨⟨q0, q1, q2⟩, ⟨m0, m1, m2⟩, ⟨p0, p1, p2⟩, ⟨r0, r1, r2⟩⟩ := HC3.out w8 HB8.out
   go_wp2_with fail
   refine (HAW3.out _ HB8.out).mono ?_
   rintro e w9 ⟨rfl, hb'⟩
   have HB9 := dh (HB8.out.trans (hb'.mono HB8.out.size))
   clear hb' q0 q1 q2 m0 m1 m2 p0 p1 p2 r0 r1 r2
   obtain ⟨⟨q0, q1, q2⟩, ⟨m0, m1, m2⟩, ⟨p0, p1, p2⟩, ⟨r0, r1, r2⟩⟩ := HC3.out w9 HB9.out
   go_wp2_with fail
   have HBF := dh (HBW.out w9 HB9.out)
   go_ret
   exact ⟨rfl, HBF.out⟩
  ·have hne : ((chkA a) == 0) = false := by rw [beq_eq_false_iff_ne]; exact hck
   have hne2 : ((chkA a) != 0) = true := by rw [bne_iff_ne]; exact hck
   have hne3 : decide (chkA a = 0) = false := decide_eq_false hck
   obtain ⟨e1, e2, e3⟩ := HCZ.out hck
   have HG1 := (show Hid (∀ W', Below Y3.1.size Y3 W' → Calls Tryd.prog 15 #[.agg #[.int .i64 bm.sets, .slice Mi mi mc, .slice Mn mn md], .agg #[.int .i64 0, .slice none 0 0, .slice none 0 0]] W' (Tru W' true)) from dh (fun W' hb => by
    have h := sameRB_any bm Aut.zero Mi mi mc Mn mn md none 0 0 none 0 0 W' W'.1.size (HM3.out.below hb).rd (autRd_nil W' _) lR (by have := HLM.out.less.nodes; omega) (by have := HLM.out.less.init; omega) (fun x hx => by have := HLM.out.nda.rows x hx; omega)
    rw [decide_eq_true e1] at h
    exact h))
   have HG2 := (show Hid (∀ W', Below Y3.1.size Y3 W' → Calls Tryd.prog 15 #[.agg #[.int .i64 bp.sets, .slice Pi pi pc, .slice Pn pn pd], .agg #[.int .i64 0, .slice none 0 0, .slice none 0 0]] W' (Tru W' true)) from dh (fun W' hb => by
    have h := sameRB_any bp Aut.zero Pi pi pc Pn pn pd none 0 0 none 0 0 W' W'.1.size (HP3.out.below hb).rd (autRd_nil W' _) lR (by have := HLP.out.less.nodes; omega) (by have := HLP.out.less.init; omega) (fun x hx => by have := HLP.out.nda.rows x hx; omega)
    rw [decide_eq_true e2] at h
    exact h))
   have HG3 := (show Hid (∀ W', Below Y3.1.size Y3 W' → Calls Tryd.prog 15 #[.agg #[.int .i64 bq.sets, .slice Qi qi qc, .slice Qn qn qd], .agg #[.int .i64 0, .slice none 0 0, .slice none 0 0]] W' (Tru W' true)) from dh (fun W' hb => by
    have h := sameRB_any bq Aut.zero Qi qi qc Qn qn qd none 0 0 none 0 0 W' W'.1.size (HQ3.out.below hb).rd (autRd_nil W' _) lR (by have := HLQ.out.less.nodes; omega) (by have := HLQ.out.less.init; omega) (fun x hx => by have := HLQ.out.nda.rows x hx; omega)
    rw [decide_eq_true e3] at h
    exact h))
   clear hck e1 e2 e3 HCM HCZ
   obtain ⟨⟨q0, q1, q2⟩, ⟨m0, m1, m2⟩, ⟨p0, p1, p2⟩, ⟨r0, r1, r2⟩⟩ := HC3.out w4 HB4.out
   go_wp2_with fail
   refine (HG1.out _ HB4.out).mono ?_
   rintro e w5 ⟨rfl, hb'⟩
   have HB5 := dh (HB4.out.trans (hb'.mono HB4.out.size))
   clear hb' q0 q1 q2 m0 m1 m2 p0 p1 p2 r0 r1 r2
   obtain ⟨⟨q0, q1, q2⟩, ⟨m0, m1, m2⟩, ⟨p0, p1, p2⟩, ⟨r0, r1, r2⟩⟩ := HC3.out w5 HB5.out
   go_wp2_with fail
   refine (HG2.out _ HB5.out).mono ?_
   rintro e w6 ⟨rfl, hb'⟩
   have HB6 := dh (HB5.out.trans (hb'.mono HB5.out.size))
   clear hb' q0 q1 q2 m0 m1 m2 p0 p1 p2 r0 r1 r2
   obtain ⟨⟨q0, q1, q2⟩, ⟨m0, m1, m2⟩, ⟨p0, p1, p2⟩, ⟨r0, r1, r2⟩⟩ := HC3.out w6 HB6.out
   go_wp2_with fail
   refine (HG3.out _ HB6.out).mono ?_
   rintro e w7 ⟨rfl, hb'⟩
   have HB7 := dh (HB6.out.trans (hb'.mono HB6.out.size))
   clear hb' q0 q1 q2 m0 m1 m2 p0 p1 p2 r0 r1 r2
   obtain ⟨⟨q0, q1, q2⟩, ⟨m0, m1, m2⟩, ⟨p0, p1, p2⟩, ⟨r0, r1, r2⟩⟩ := HC3.out w7 HB7.out
   go_wp2_with fail
   refine (HAW3.out _ HB7.out).mono ?_
   rintro e w8 ⟨rfl, hb'⟩
   have HB8 := dh (HB7.out.trans (hb'.mono HB7.out.size))
   clear hb' q0 q1 q2 m0 m1 m2 p0 p1 p2 r0 r1 r2
   obtain ⟨⟨q0, q1, q2⟩, ⟨m0, m1, m2⟩, ⟨p0, p1, p2⟩, ⟨r0, r1, r2⟩⟩ := HC3.out w8 HB8.out
   go_wp2_with fail
   have HBF := dh (HBW.out w8 HB8.out)
   go_ret
   exact ⟨rfl, HBF.out⟩
end Go.Proofs.YtiebpncpdbnelaaDoor
