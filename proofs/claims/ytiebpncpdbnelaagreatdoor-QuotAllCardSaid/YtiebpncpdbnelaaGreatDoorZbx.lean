/- Texts that stand one behind the other, in one file. -/
import Derived.Test.YtiebpncpdbnelaaGreatDoorZbw
set_option maxHeartbeats 8000000
set_option maxRecDepth 100000
namespace Go.Proofs.YtiebpncpdbnelaaGreatDoor
open Go.RowKit
theorem pruneR_any (a : Aut) (Ai : Option Addr) (ni ci : Nat) (An : Option Addr) (nn cn : Nat) (w : World) (B : Nat) (h : AutRd w B a Ai ni ci An nn cn) (hB : B ≤ w.1.size) (hck : chkA a = 0) (hnd : ∀ x ∈ a.nodes, x.need < 2 ^ 64 ∧ x.ban < 2 ^ 64) (hinn : ∀ x ∈ a.nodes, x.inn < 2 ^ 64) (KE : Nat) (hr : ∀ x ∈ a.nodes, x.to.length ≤ KE) (hri : a.init.length ≤ 1000000) (hKE : KE ≤ 1000000) :
  Calls Tryz.prog 18 #[.agg #[.int .i64 a.sets, .slice Ai ni ci, .slice An nn cn]] w (AutOneS w (pruneA a)) := by
 obtain ⟨hb0, x0, y0, z0⟩ := two_new w (.cells #[.int .i64 a.sets, .slice Ai ni ci, .slice An nn cn] 25) (.cells #[.int .i64 0, .slice none 0 0, .slice none 0 0] 25)
 obtain ⟨W0, hW0⟩ := xQ ((w.alloc (.cells #[.int .i64 a.sets, .slice Ai ni ci, .slice An nn cn] 25)).alloc (.cells #[.int .i64 0, .slice none 0 0, .slice none 0 0] 25))
 rw [hW0] at hb0 x0 y0 z0
 have HR0 := dh (h.below hb0 hB)
 have HC0 := dh (chkR_any a Ai ni ci An nn cn W0 B HR0.out (by omega))
 obtain ⟨hn256, -, hA, -⟩ := chk_iff.1 hck
 have HNN := dh h.enn
 have hnn : nn ≤ 256 := by rw [HNN.out]; exact hn256
 have HW0 := dh hW0
 have HB0 := dh hb0
 have HOK := dh hA
 have HX0 := dh x0
 have HY0 := dh y0
 have hBw : B ≤ W0.1.size := by omega
 have hww : w.1.size + 1 < W0.1.size := by omega
 have HCL : Hid (∀ W', Below W0.1.size W0 W' → W'.cell? ⟨w.1.size, 0, none⟩ = some (.int .i64 a.sets) ∧ W'.cell? ⟨w.1.size, 1, none⟩ = some (.slice Ai ni ci) ∧ W'.cell? ⟨w.1.size, 2, none⟩ = some (.slice An nn cn)) := dh (fun W' hb => box3A ((hb.block w.1.size (by omega)).trans HX0.out))
 have HHR := dh hr
 have HND0 := dh hnd
 have HINN := dh hinn
 have HCK := dh hck
 clear hW0 hb0 x0 y0 z0 h hnd hinn hr hA hck
 go_enter Tryz.func18, Tryz.ntmps18
 go_upto_region 1 with fail
 rw [HW0.out]
 obtain ⟨q0, q1, q2⟩ := HCL.out W0 bR
 go_wp2_with fail
 refine HC0.out.mono ?_
 rintro e w1 ⟨rfl, hb1⟩
 rw [HCK.out]
 have HB1 := dh hb1
 have hz1 := hb1.size
 clear q0 q1 q2 hb1
 obtain ⟨q0, q1, q2⟩ := HCL.out w1 HB1.out
 have HDI := dh (directR_any a Ai ni ci An nn cn w1 B (HR0.out.below HB1.out hBw) (Nat.le_trans hBw hz1) HCK.out (fun x hx => ⟨(HND0.out x hx).1, (HND0.out x hx).2, HINN.out x hx⟩) (fun x hx => Nat.le_trans (HHR.out x hx) hKE))
 go_wp2_with fail
 refine HDI.out.mono ?_
 rintro e V ⟨v, rfl, hG⟩
 obtain ⟨Ar, cr, rfl, hR2⟩ := hG.sl2
 have hbV := hG.choose_spec.2.2
 have HBV := dh (HB1.out.trans (hbV.mono hz1))
 have hzV := HBV.out.size
 have HRR := dh hR2
 have HCV : Hid (∀ W', Below V.1.size V W' → W'.cell? ⟨w.1.size, 0, none⟩ = some (.int .i64 a.sets) ∧ W'.cell? ⟨w.1.size, 1, none⟩ = some (.slice Ai ni ci) ∧ W'.cell? ⟨w.1.size, 2, none⟩ = some (.slice An nn cn)) := dh (fun W' hb => HCL.out W' (HBV.out.trans (hb.mono hzV)))
 have HRV := dh (HR0.out.below HBV.out hBw)
 have hBV : B ≤ V.1.size := by omega
 have HYV := dh ((HBV.out.block (w.1.size + 1) hww).trans HY0.out)
 have hyV : w.1.size + 1 < V.1.size := by omega
 have HBW := dh (HB0.out.trans (HBV.out.mono (show w.1.size ≤ W0.1.size by omega)))
 have hsl : (simL a).length = nn := by rw [simL_len, HNN.out]
 rw [hsl] at HRR ⊢
 have HSL := dh hsl
 have HLF : Hid (∀ (W' : World) (l : List Int) (A : Option Addr) (n c : Nat), Below V.1.size V W' → Sl W' W'.1.size 1 A n c (icells l) → (∀ t ∈ l, isNd nn t = true) → l.length ≤ 1000000 → n = l.length → Calls Tryz.prog 40 #[.slice A n c, .slice Ar nn cr] W' (IntsPost W' (leftL (simL a) l))) := dh (fun W' l A n c hb hs hl hll hn => by
  have hq := HSL.out
  exact left33_any l A n c Ar nn cr (simL a) W' W'.1.size hs ((HRR.out.below hb lR).up hb.size) lR hn (by omega) hq.symm (simL_row a) (fun t ht => by rw [hq]; exact hl t ht))
 clear hG hR2 hbV q0 q1 q2 hsl
 obtain ⟨ks, hks⟩ := xQ (List.range nn)
 have hkl : ks.length = nn := by rw [← hks]; simp
 have HKS := dh hks
 have HGE : Hid (pruneA a = ⟨a.sets, leftL (simL a) a.init, ks.map (fun i => (a.at i).put (leftL (simL a) (a.at i).to))⟩) := dh (by
  unfold pruneA
  rw [prune_gen, genU, List.filter_eq_self.2 (fun _ _ => rfl), ← HKS.out, HNN.out])
 clear hks
 go_upto_region 4 with fail
 obtain ⟨x0, x1, -⟩ := HCV.out V bR
 go_cut [4] from 5 (fun p wF => ∃ ob vi, p = .pointer (some ⟨ob, 0, none⟩) ∧ V.1.size ≤ ob ∧ Hid (OutM V.1.size ob a.sets vi (leftL (simL a) a.init) (.slice none 0 0) [] [] wF) ∧ Hid (Below V.1.size V wF))
 case first =>
  refine wp_region_held_drew (S := fun w' => w'.cell? ⟨w.1.size, 0, none⟩ = some (.int .i64 a.sets) ∧ w'.cell? ⟨w.1.size, 1, none⟩ = some (.slice Ai ni ci)) (by kernel_rfl) ⟨x0, x1⟩ (fun hS => ?_)
  refine tkH 0 ?_
  refine tkH 1 ?_
  refine tkH 2 ?_
  refine tkH 3 ?_
  refine tkH 4 ?_
  refine wpAnyH_ready (rs := [5, 7]) (by kernel_rfl) (by simp) ?_
  refine (allReadyH_consD (i := 5) rfl (fun K hK => ?_) (allReadyH_consD (i := 7) rfl (fun K hK => ?_) AllReadyH.nil))
  ·skip
   go_simp
   refine (HLF.out _ a.init Ai ni ci (Below.drew bR) ((HRV.out.below (Below.drew bR) hBV).init.up (show B ≤ _ by first | exact hBV | exact Nat.le_trans hBV hbA.size)) (fun t ht => by rw [HNN.out]; exact HOK.out.1 t ht) hri HRV.out.eni).mono ?_
   rintro e w8 ⟨v8, rfl, ho8, hb8'⟩
   have hb8 : Below V.1.size V w8 := below_undrew hb8'
   obtain ⟨A8, c8, rfl, -⟩ := own_sl ho8
   dsimp only
   refine hK.out _ _ ⟨(HCV.out _ hb8).1, (HCV.out _ hb8).2.1⟩ (fun hS => ?_)
   clear hK
   refine tkH 6 ?_
   refine oneH 7 (fun K hK => ?_)
   obtain ⟨wA, hwA⟩ := xQ (w8.alloc (.cells #[.int .i64 0, .slice none 0 0, .slice none 0 0] 25))
   have hbA : Below V.1.size V wA := by rw [← hwA]; exact hb8.alloc hb8.size _
   have hzA : wA.1.size = w8.1.size + 1 := by rw [← hwA]; simp
   have haA : wA.1[w8.1.size]? = some (.cells #[.int .i64 0, .slice none 0 0, .slice none 0 0] 25) := by rw [← hwA]; exact heap_alloc_new w8 _
   have hoA := own_below ho8 (by rw [← hwA]; exact bR.alloc lR _ : Below w8.1.size w8 wA)
   go_simp
   refine hK.out _ _ ⟨(HCV.out _ hbA).1, (HCV.out _ hbA).2.1⟩ (fun hS => ?_)
   clear hK
   refine oneH 8 (fun K hK => ?_)
   obtain ⟨y0, y1, y2⟩ := box3A haA
   have f0 := frozen_of_row wA _ 0 _ _ haA
   have f1 := frozen_of_row wA _ 1 _ _ haA
   have f2 := frozen_of_row wA _ 2 _ _ haA
   have yl : w8.1.size < wA.1.size := (aI.1 haA).1
   have ob0 : V.1.size ≤ w8.1.size := by first | exact lR | exact hb8.size
   have hset := set3A (a := .int .i64 a.sets) (b := .slice A8 (leftL (simL a) a.init).length c8) (c := .slice none 0 0) haA rfl
   have htc := tch3A wA (w8.1.size) (.int .i64 a.sets) (.slice A8 (leftL (simL a) a.init).length c8) (.slice none 0 0)
   have hof := own_tch hoA htc (fun g hg e => own_ne_blk hoA haA (by decide) (by rw [hg, e]))
   obtain ⟨wF, hwF⟩ := xQ (((wA.setCell ⟨w8.1.size, 0, none⟩ (.int .i64 a.sets)).setCell ⟨w8.1.size, 1, none⟩ (.slice A8 (leftL (simL a) a.init).length c8)).setCell ⟨w8.1.size, 2, none⟩ (.slice none 0 0))
   rw [hwF] at hset htc hof
   have hbF : Below V.1.size V wF := hbA.trans (htc.below hbA.size (fun x hx e => by have e : x = w8.1.size := e; omega))
   have HOUT : Hid (OutM V.1.size (w8.1.size) a.sets (.slice A8 (leftL (simL a) a.init).length c8) (leftL (simL a) a.init) (.slice none 0 0) [] [] wF) := dh ⟨hset, own_base hof (Nat.zero_le _), NodesM.nil _ _⟩
   have HBF := dh hbF
   have OB0 := dh ob0
   clear hset htc hof
   go_simp
   try rw [hwF]
   refine hK.out _ _ ⟨(HCV.out _ hbF).1, (HCV.out _ hbF).2.1⟩ (fun hS => ?_)
   clear hK
   refine wpAnyH_done (by kernel_rfl) ?_ _
   go_wp2_with fail
   go_meet
   case rel => exact ⟨_, _, rfl, OB0.out, HOUT, HBF⟩
  ·skip
   obtain ⟨wA, hwA⟩ := xQ (V.drew.alloc (.cells #[.int .i64 0, .slice none 0 0, .slice none 0 0] 25))
   have hbA : Below V.1.size V wA := by rw [← hwA]; exact (Below.drew bR).alloc lR _
   have hzA : wA.1.size = V.1.size + 1 := by rw [← hwA]; simp
   have haA : wA.1[V.1.size]? = some (.cells #[.int .i64 0, .slice none 0 0, .slice none 0 0] 25) := by rw [← hwA]; exact heap_alloc_new V.drew _
   go_simp
   refine hK.out _ _ ⟨(HCV.out _ hbA).1, (HCV.out _ hbA).2.1⟩ (fun hS => ?_)
   clear hK
   refine oneH 5 (fun K hK => ?_)
   go_simp
   refine (HLF.out _ a.init Ai ni ci hbA ((HRV.out.below hbA hBV).init.up (show B ≤ _ by first | exact hBV | exact Nat.le_trans hBV hbA.size)) (fun t ht => by rw [HNN.out]; exact HOK.out.1 t ht) hri HRV.out.eni).mono ?_
   rintro e w8 ⟨v8, rfl, ho8, hb8'⟩
   have hb8 : Below V.1.size V w8 := hbA.trans (hb8'.mono hbA.size)
   obtain ⟨A8, c8, rfl, -⟩ := own_sl ho8
   have ha8 : w8.1[V.1.size]? = some (.cells #[.int .i64 0, .slice none 0 0, .slice none 0 0] 25) := (hb8'.block V.1.size (by rw [hzA]; omega)).trans haA
   dsimp only
   refine hK.out _ _ ⟨(HCV.out _ hb8).1, (HCV.out _ hb8).2.1⟩ (fun hS => ?_)
   clear hK
   refine tkH 6 ?_
   refine oneH 8 (fun K hK => ?_)
   obtain ⟨y0, y1, y2⟩ := box3A ha8
   have f0 := frozen_of_row w8 _ 0 _ _ ha8
   have f1 := frozen_of_row w8 _ 1 _ _ ha8
   have f2 := frozen_of_row w8 _ 2 _ _ ha8
   have yl : V.1.size < w8.1.size := (aI.1 ha8).1
   have ob0 : V.1.size ≤ V.1.size := by first | exact lR | exact hb8.size
   have hset := set3A (a := .int .i64 a.sets) (b := .slice A8 (leftL (simL a) a.init).length c8) (c := .slice none 0 0) ha8 rfl
   have htc := tch3A w8 (V.1.size) (.int .i64 a.sets) (.slice A8 (leftL (simL a) a.init).length c8) (.slice none 0 0)
   have hof := own_tch ho8 htc (fun g hg e => own_ne_blk ho8 ha8 (by decide) (by rw [hg, e]))
   obtain ⟨wF, hwF⟩ := xQ (((w8.setCell ⟨V.1.size, 0, none⟩ (.int .i64 a.sets)).setCell ⟨V.1.size, 1, none⟩ (.slice A8 (leftL (simL a) a.init).length c8)).setCell ⟨V.1.size, 2, none⟩ (.slice none 0 0))
   rw [hwF] at hset htc hof
   have hbF : Below V.1.size V wF := hb8.trans (htc.below hb8.size (fun x hx e => by have e : x = V.1.size := e; omega))
   have HOUT : Hid (OutM V.1.size (V.1.size) a.sets (.slice A8 (leftL (simL a) a.init).length c8) (leftL (simL a) a.init) (.slice none 0 0) [] [] wF) := dh ⟨hset, own_base hof (Nat.zero_le _), NodesM.nil _ _⟩
   have HBF := dh hbF
   have OB0 := dh ob0
   clear hset htc hof
   go_simp
   try rw [hwF]
   refine hK.out _ _ ⟨(HCV.out _ hbF).1, (HCV.out _ hbF).2.1⟩ (fun hS => ?_)
   clear hK
   refine wpAnyH_done (by kernel_rfl) ?_ _
   go_wp2_with fail
   go_meet
   case rel => exact ⟨_, _, rfl, OB0.out, HOUT, HBF⟩
 case rest =>
  obtain ⟨ob, vi, rfl, hob, HOUT, HBF⟩ := hcut
  obtain ⟨q0, q1, q2⟩ := HCV.out wc HBF.out
  clear x0 x1
  go_wp2_with fail
  clear q0 q1 q2
  go_loopw [5] (fun i wr' => ∃ (k : Nat) (vn : Value) (xs : List Value), k ≤ nn ∧ i = .int .i64 (k : Int) ∧ Hid (OutM V.1.size ob a.sets vi (leftL (simL a) a.init) vn ((ks.take k).map (fun i => (a.at i).put (leftL (simL a) (a.at i).to))) xs wr') ∧ Hid (Below V.1.size V wr')) (fun i _ => nn - (intOf i).toNat)
  case atStart => exact ⟨0, _, _, by omega, rfl, dh (by rw [List.take_zero]; exact HOUT.out), HBF⟩
  case round =>
   obtain ⟨k, vn, xs, hk, rfl, HOm, HBm⟩ := hrel
   clear HOUT HBF
   by_cases hlt : k < nn
   ·have wk : IntKind.i64.wrap ((k : Int) + 1) = (k : Int) + 1 := by rw [wI]; omega
    have hk0 : (0 : Int) ≤ (k : Int) := by omega
    have hk1 : (k : Int) < (nn : Int) := by omega
    obtain ⟨q0, q1, q2⟩ := HCV.out wr HBm.out
    have hRX := HRV.out.below HBm.out hBV
    have hcn := (Exists.choose_spec hRX.nodes).1.cap
    have hmn := (Exists.choose_spec hRX.nodes).1.max
    unfold maxLen at hmn
    obtain ⟨bx, ox, nd, At, ct, hAn, hbx, hnd', d0, d1, d2, d3, hst⟩ := rd_aut hRX hlt
    obtain ⟨q, hq⟩ := xR k
    have HND : Hid (a.at q = nd) := dh (by rw [hq]; unfold Aut.at; rw [gD, hnd']; rfl)
    have HNM := dh (List.mem_of_getElem? hnd')
    have HSR : Hid (ks.take (k + 1) = ks.take k ++ [q]) := dh (by subst hq; rw [take_snoc ks q (by omega)]; congr 2; simp [← HKS.out])
    have HST := dh hst
    subst hAn
    clear hRX hnd' hst hq
    obtain ⟨Av, cv, rfl, -⟩ := own_sl HOm.out.nodes.own
    obtain ⟨ns, hns⟩ := xQ ((ks.take k).map (fun i => (a.at i).put (leftL (simL a) (a.at i).to)))
    have hnl : ns.length = k := by rw [← hns, List.length_map, List.length_take]; omega
    rw [hns, hnl] at HOm
    have HNS := dh hns
    have HNL := dh hnl
    obtain ⟨XA, hXA⟩ := xQ (wr.alloc (.cells #[.int .u64 (nd.need : Int), .int .u64 (nd.ban : Int), .int .u64 (nd.inn : Int), .slice At nd.to.length ct] 36))
    have hbXA : Below wr.1.size wr XA := by rw [← hXA]; exact bR.alloc lR _
    have hzXA : XA.1.size = wr.1.size + 1 := by rw [← hXA]; simp
    have hxA : XA.1[wr.1.size]? = some (.cells #[.int .u64 (nd.need : Int), .int .u64 (nd.ban : Int), .int .u64 (nd.inn : Int), .slice At nd.to.length ct] 36 (0, 0)) := by rw [← hXA]; exact heap_alloc_new wr _
    have HXC := dh hxA
    have HXA := dh hXA
    have HBA := dh (HBm.out.trans (hbXA.mono HBm.out.size))
    have HOA := dh (HOm.out.below hbXA)
    have HVG := dh (fun g (hg : (Value.slice Av k cv).ownBlock = some g) => (HOm.out.nodes.own.lt g hg).2)
    have hXAz := HBA.out.size
    have HKC := dh (HLF.out XA nd.to At _ ct HBA.out ((HST.out.below hbXA (show B ≤ wr.1.size by have := HBm.out.size; omega)).up (show B ≤ XA.1.size by have := HBm.out.size; omega)) (fun t ht => by rw [HNN.out]; exact HOK.out.2 nd HNM.out t ht) (by have := HHR.out nd HNM.out; omega) rfl)
    clear hXA hbXA hxA hns hnl
    obtain ⟨s0, s1, s2, s3⟩ := box4A HXC.out
    go_upto_region 9 with fail
    rw [HXA.out]
    clear d0 d1 d2 d3 q0 q1 q2
    go_wp2_with fail
    refine HKC.out.mono ?_
    rintro e w8 ⟨v8, rfl, ho8, hb8⟩
    obtain ⟨A8, c8, rfl, -⟩ := own_sl ho8
    have hx8 := (hb8.block wr.1.size (by omega)).trans HXC.out
    have hz8 := hb8.size
    obtain ⟨y0, y1, y2, y3⟩ := box4A hx8
    have f3 := frozen_of_row w8 wr.1.size 3 _ _ hx8
    have yl : wr.1.size < w8.1.size := by omega
    have hO8 := HOA.out.below hb8
    obtain ⟨w9, hw9⟩ := xQ (w8.setCell ⟨wr.1.size, 3, none⟩ (.slice A8 (leftL (simL a) nd.to).length c8))
    have hx9 : w9.1[wr.1.size]? = some (.cells #[.int .u64 (nd.need : Int), .int .u64 (nd.ban : Int), .int .u64 (nd.inn : Int), .slice A8 (leftL (simL a) nd.to).length c8] 36 (0, 0)) := by
     rw [← hw9, heap_setCell_same w8 wr.1.size 3 _ _ _ hx8]; rfl
    have ht9 : Tch (fun k => k = wr.1.size) w8 w9 := by rw [← hw9]; exact tch_cell (w := w8) wr.1.size 3 _
    have hO9 := hO8.keep ht9 (fun e => by have e : ob = wr.1.size := e; have := HOm.out.lt; omega) (fun g hg e => by have e : g = wr.1.size := e; have := HVG.out g hg; omega) (fun u' n ys ho g hg e => by have e : g = wr.1.size := e; exact own_ne_blk ho hx8 (by decide) (by rw [hg, e]))
    have ho9 := own_tch ho8 ht9 (fun g hg e => by have e : g = wr.1.size := e; exact own_ne_blk ho8 hx8 (by decide) (by rw [hg, e]))
    have HO9 := dh hO9
    have HR9 := dh (own_base ho9 (Nat.zero_le _))
    have HX9 := dh hx9
    have HW9 := dh hw9
    have HB9 := dh ((HBA.out.trans (hb8.mono HBA.out.size)).trans (ht9.below (show V.1.size ≤ w8.1.size by omega) (fun y hy e => by have e : y = wr.1.size := e; have := HBm.out.size; omega)))
    clear hw9 hx9 ht9 hO9 ho9 hO8 ho8 hb8 hx8 s0 s1 s2 s3
    go_upto_region 10 with fail
    rw [HW9.out]
    clear y0 y1 y2 y3 f3
    obtain ⟨s0, s1, s2, s3⟩ := box4A HX9.out
    obtain ⟨r0, r1, r2⟩ := HO9.out.cells
    clear r0 r1
    have hz9 := HB9.out.size
    have hnw := dh (heap_alloc_new w9 (.cells #[.int .u64 (nd.need : Int), .int .u64 (nd.ban : Int), .int .u64 (nd.inn : Int), .slice A8 (leftL (simL a) nd.to).length c8] 36))
    go_wp2_with (at_builtin; refine wpList_push rfl (.tmp 38) (.tmp 40) 23 rfl V.1.size 36 4 48 sliceANd _ _ _ (HO9.out.nodes.own.alloc _) rfl w9.1.size #[.int .u64 (nd.need : Int), .int .u64 (nd.ban : Int), .int .u64 (nd.inn : Int), .slice A8 (leftL (simL a) nd.to).length c8] rfl hnw.out rfl (by simp [Value.oneCell']) (by have := HNL.out; omega) (by omega) (by simp; omega) ?_; intro u' wA hown3 ht3 hat3 hne3; rw [HNL.out] at hown3; obtain ⟨g', cap', rfl, _⟩ := own_form hown3 (by omega); have HPU := dh (HO9.out.push (x := nd.put (leftL (simL a) nd.to)) HR9.out (by rw [HNL.out]; exact hown3) ht3); have HBP := dh ((HB9.out.trans ((Tch.trans ((Tch.refl _ w9).alloc _) ht3 (fun _ _ h => h)).below hz9 (fun k hk e => by have := (HO9.out.nodes.own.lt k e).1; omega))).setCell (p := ⟨ob, 2, none⟩) (show V.1.size ≤ ob from hob) (.slice (some ⟨g', 0, none⟩) (k + 1) cap')); have p1 := HPU.out.1.1; have p2 := HPU.out.1.2.1; have p3 := HPU.out.1.2.2)
    have hO := HPU.out.2
    rw [← HND.out] at hO
    have hmp : (ks.take (k + 1)).map (fun i => (a.at i).put (leftL (simL a) (a.at i).to)) = ns ++ [(a.at q).put (leftL (simL a) (a.at q).to)] := by rw [HSR.out, List.map_append, HNS.out]; rfl
    rw [← hmp] at hO
    have HOF := dh hO
    clear hO hmp
    go_roundw
    case rel => exact ⟨k + 1, _, _, by omega, congrArg (Value.int .i64) (by omega), HOF, HBP⟩
    case measure => simp [intOf]; omega
   ·have hkn : k = nn := by omega
    have hle : ¬ (k : Int) < (nn : Int) := by omega
    obtain ⟨q0, q1, q2⟩ := HCV.out wr HBm.out
    rw [hkn, tL (by omega)] at HOm
    clear hkn
    have hout := HOm.out
    obtain ⟨Ai', ci', An', cn', hvi, hvn, -⟩ := hout.rd
    obtain ⟨n1, hn1⟩ := xQ (leftL (simL a) a.init).length
    obtain ⟨n2, hn2⟩ := xQ (ks.map (fun i => (a.at i).put (leftL (simL a) (a.at i).to))).length
    rw [hn1] at hvi
    rw [hn2] at hvn
    rw [hvi, hvn] at hout
    have HOX := dh hout
    obtain ⟨r0, r1, r2⟩ := hout.cells
    have hy := (HBm.out.block (w.1.size + 1) hyV).trans HYV.out
    obtain ⟨y0, y1, y2⟩ := box3A hy
    have f0 : wr.frozen? ⟨w.1.size + 1, 0, none⟩ = false := frozen_of_row wr _ 0 _ _ hy
    have f1 : wr.frozen? ⟨w.1.size + 1, 1, none⟩ = false := frozen_of_row wr _ 1 _ _ hy
    have f2 : wr.frozen? ⟨w.1.size + 1, 2, none⟩ = false := frozen_of_row wr _ 2 _ _ hy
    have yl : w.1.size + 1 < wr.1.size := (aI.1 hy).1
    have HY := dh hy
    clear hn1 hn2 hvi hvn hout hy
    go_wp2_with fail
    have hset := set3A (a := .int .i64 a.sets) (b := .slice Ai' n1 ci') (c := .slice An' n2 cn') HY.out rfl
    have htc := tch3A wr (w.1.size + 1) (.int .i64 a.sets) (.slice Ai' n1 ci') (.slice An' n2 cn')
    obtain ⟨Y, hY⟩ := xQ (((wr.setCell ⟨w.1.size + 1, 0, none⟩ (.int .i64 a.sets)).setCell ⟨w.1.size + 1, 1, none⟩ (.slice Ai' n1 ci')).setCell ⟨w.1.size + 1, 2, none⟩ (.slice An' n2 cn'))
    rw [hY] at hset htc ⊢
    clear hY y0 y1 y2 f0 f1 f2 r0 r1 r2
    have hOY := HOX.out.keep htc (fun e => by have e : ob = w.1.size + 1 := e; omega) (fun g hg e => by have e : g = w.1.size + 1 := e; exact own_ne_blk HOX.out.nodes.own HY.out (by decide) (by rw [hg, e])) (fun u' n ys ho g hg e => by have e : g = w.1.size + 1 := e; exact own_ne_blk ho HY.out (by decide) (by rw [hg, e]))
    have hbY : Below w.1.size w Y := (HBW.out.trans (HBm.out.mono HBW.out.size)).trans (htc.below (show w.1.size ≤ wr.1.size by omega) (fun y hy e => by have e : y = w.1.size + 1 := e; omega))
    obtain ⟨g0, g1, g2⟩ := box3A hset
    have hfin : AutOneS w (pruneA a) (.returned (.agg #[.int .i64 a.sets, .slice Ai' n1 ci', .slice An' n2 cn'])) Y := by
     rw [HGE.out]
     obtain ⟨_, _, _, _, e1, e2, hrd⟩ := hOY.rd
     cases e1
     cases e2
     exact ⟨_, _, _, _, _, _, rfl, hrd, hbY, hOY.sep⟩
    refine bodyPost_ret (v := .agg #[.int .i64 a.sets, .slice Ai' n1 ci', .slice An' n2 cn']) ?_ rfl ?_
    ·simp [results, Tryz.results18, go_sem, g0, g1, g2]
    ·exact hfin
end Go.Proofs.YtiebpncpdbnelaaGreatDoor
namespace Go.Proofs.YtiebpncpdbnelaaGreatDoor
open Go.RowKit
def likeL (r : List (List Bool)) (n : Nat) : List Nat := (List.range n).map (likeF r)
theorem likeL_snoc (r : List (List Bool)) (n : Nat) : likeL r (n + 1) = likeL r n ++ [likeF r n] := by simp [likeL, List.range_succ]
theorem likeL_len (r : List (List Bool)) (n : Nat) : (likeL r n).length = n := by simp [likeL]
def NoL (r : List (List Bool)) (i k : Nat) : Prop := ∀ j, j < k → (relL r i j && relL r j i) = false
theorem NoL.next {r : List (List Bool)} {i k : Nat} (h : NoL r i k) (hk : (relL r i k && relL r k i) = false) : NoL r i (k + 1) := fun j hj => by
 by_cases e : j = k
 ·rw [e]; exact hk
 ·exact h j (by omega)
theorem NoL.done {r : List (List Bool)} {i k : Nat} (h : NoL r i k) (hk : k ≤ i) (hp : k < i → (relL r i k && relL r k i) = true) : likeF r i = k := firstB_uniq hk h hp
theorem like33_any (a : Aut) (Ai : Option Addr) (ni ci : Nat) (An : Option Addr) (nn cn : Nat) (w : World) (B : Nat) (h : AutRd w B a Ai ni ci An nn cn) (hB : B ≤ w.1.size) (hck : chkA a = 0) (hnd : ∀ x ∈ a.nodes, x.need < 2 ^ 64 ∧ x.ban < 2 ^ 64 ∧ x.inn < 2 ^ 64) (hr : ∀ x ∈ a.nodes, x.to.length ≤ 1000000) :
  Calls Tryz.prog 41 #[.agg #[.int .i64 a.sets, .slice Ai ni ci, .slice An nn cn]] w (IntsPost w (natI (likeL (simL a) nn))) := by
 have hb0 : Below w.1.size w (w.alloc (.cells #[.int .i64 a.sets, .slice Ai ni ci, .slice An nn cn] 25)) := bR.alloc lR _
 have x0 := heap_alloc_new w (.cells #[.int .i64 a.sets, .slice Ai ni ci, .slice An nn cn] 25)
 have z0 : (w.alloc (.cells #[.int .i64 a.sets, .slice Ai ni ci, .slice An nn cn] 25)).1.size = w.1.size + 1 := by simp
 obtain ⟨W0, hW0⟩ := xQ (w.alloc (.cells #[.int .i64 a.sets, .slice Ai ni ci, .slice An nn cn] 25))
 rw [hW0] at hb0 x0 z0
 have HDI := dh (directR_any a Ai ni ci An nn cn W0 B (h.below hb0 hB) (by omega) hck hnd hr)
 have hn256 := (chk_iff.1 hck).1
 have HNN := dh h.enn
 have hnn : nn ≤ 256 := by rw [HNN.out]; exact hn256
 have HW0 := dh hW0
 have HB0 := dh hb0
 have hww : w.1.size < W0.1.size := by omega
 have HCL : Hid (∀ W', Below W0.1.size W0 W' → W'.cell? ⟨w.1.size, 0, none⟩ = some (.int .i64 a.sets) ∧ W'.cell? ⟨w.1.size, 1, none⟩ = some (.slice Ai ni ci) ∧ W'.cell? ⟨w.1.size, 2, none⟩ = some (.slice An nn cn)) := dh (fun W' hb => by
  have k0 := (hb.block w.1.size hww).trans x0
  refine ⟨?_, ?_, ?_⟩ <;> (rw [cell_of_row _ _ _ _ _ (0, 0) k0]; rfl))
 clear hW0 hb0 x0 z0 h hnd hck hr hn256
 go_enter Tryz.func41, Tryz.ntmps41
 go_upto_region 1 with fail
 rw [HW0.out]
 obtain ⟨q0, q1, q2⟩ := HCL.out W0 bR
 go_wp2_with fail
 refine HDI.out.mono ?_
 rintro e D ⟨v, rfl, hG⟩
 obtain ⟨Ar, cr, rfl, hR2⟩ := hG.sl2
 have HBD := dh hG.choose_spec.2.2
 have hzD := HBD.out.size
 have hsl : (simL a).length = nn := by rw [simL_len, HNN.out]
 have hcr := hR2.cap
 have hmr := hR2.max
 unfold maxLen at hmr
 rw [hsl] at hR2 hcr ⊢
 have HRR := dh hR2
 have HSL := dh hsl
 clear hG hR2 hsl q0 q1 q2
 go_wp2_with fail
 go_loopw [4, 5] (fun o i wr => ∃ m : Nat, m ≤ nn ∧ i = .int .i64 (m : Int) ∧ Hid (wr.ownsRow D.1.size 3 1 o m (icells (natI (likeL (simL a) m)))) ∧ Hid (Below D.1.size D wr)) (fun _ i _ => nn - (intOf i).toNat)
 case atStart => exact ⟨0, Nat.zero_le _, rfl, dh (World.ownsRow_nil _ _ _ _), dh bR⟩
 case round =>
  obtain ⟨m, hm, rfl, HO, HB⟩ := hrel
  rename World => U
  have hz := HB.out.size
  obtain ⟨q0, q1, q2⟩ := HCL.out U (HBD.out.trans (HB.out.mono hzD))
  by_cases hlt : m < nn
  ·have wm : IntKind.i64.wrap ((m : Int) + 1) = (m : Int) + 1 := by rw [wI]; omega
   have hm0 : (0 : Int) ≤ (m : Int) := by omega
   have hm1 : (m : Int) < (nn : Int) := by omega
   obtain ⟨br, orr, Ar', dr, hAr, r0, hd1, hd2, hbr, bq, oq, hAq, hbq, r1⟩ := rd_relB HRR.out (simL_row a) (i := m) (by rw [HSL.out]; exact hlt)
   subst hAr hAq
   unfold maxLen at hd2
   rw [HSL.out] at r0 hd1
   rw [HSL.out] at r1
   have e0 := bC HB.out (by show br < _; omega) r0
   have R1 := dh r1
   clear r0 r1
   go_wp2_with fail
   clear q0 q1 q2
   go_loopw [6] (fun k wq => ∃ q : Nat, q ≤ m ∧ k = .int .i64 (q : Int) ∧ wq = U ∧ Hid (NoL (simL a) m q)) (fun k _ => m - (intOf k).toNat)
   case atStart => exact ⟨0, Nat.zero_le _, rfl, rfl, dh (fun j hj => absurd hj (Nat.not_lt_zero _))⟩
   case round =>
    obtain ⟨q, hq, rfl, hwq, HNO⟩ := hrel
    rw [hwq]
    clear hwq
    have hfin : Hid (likeF (simL a) m = q) → Hid (natI (likeL (simL a) (m + 1)) = natI (likeL (simL a) m) ++ [(q : Int)]) := fun h => dh (by rw [likeL_snoc, h.out, natI, List.map_append]; rfl)
    by_cases hlq : q < m
    ·have wq1 : IntKind.i64.wrap ((q : Int) + 1) = (q : Int) + 1 := by rw [wI]; omega
     have hq0 : (0 : Int) ≤ (q : Int) := by omega
     have hq1 : (q : Int) < (m : Int) := by omega
     have hq2 : (q : Int) < (nn : Int) := by omega
     obtain ⟨br2, or2, Ar2, dr2, hAr2, r2, hd3, hd4, -, bk, ok, hAk, hbk, r3⟩ := rd_relB HRR.out (simL_row a) (i := q) (by rw [HSL.out]; omega)
     cases hAr2
     subst hAk
     unfold maxLen at hd4
     rw [HSL.out] at r2 hd3
     have r1u := R1.out q (by omega)
     have r3t := r3 m (by rw [HSL.out]; exact hlt)
     obtain ⟨c1, hc1⟩ := xQ (relL (simL a) m q)
     obtain ⟨c2, hc2⟩ := xQ (relL (simL a) q m)
     have HNX := dh (fun hk => HNO.out.next hk)
     have HDN := dh (fun hk => HNO.out.done (by omega) hk)
     rw [hc1, hc2] at HNX HDN
     rw [hc1] at r1u
     rw [hc2] at r3t
     have e1 := bC HB.out (by show bq < _; omega) r1u
     have e2 := bC HB.out (by show br < _; omega) r2
     have e3 := bC HB.out (by show bk < _; omega) r3t
     clear r2 r3 r1u r3t hc1 hc2
     cases c1
     ·go_wp2_with fail
      go_roundw
      case rel => exact ⟨q + 1, by omega, by go_num, by trivial, dh (HNX.out rfl)⟩
      case measure => simp [intOf]; omega
     ·cases c2
      ·go_wp2_with fail
       go_roundw
       case rel => exact ⟨q + 1, by omega, by go_num, by trivial, dh (HNX.out rfl)⟩
       case measure => simp [intOf]; omega
      ·have HF := hfin (dh (HDN.out (fun _ => rfl)))
       obtain ⟨Au, cu, rfl, -⟩ := own_sl HO.out
       have hnw := dh (heap_alloc_new U (.cells #[.int .i64 (q : Int)] 3))
       go_wp2_with (at_builtin; refine wpList_push rfl (.tmp 40) (.tmp 42) 22 rfl D.1.size 3 1 8 sliceInt _ _ _ (HO.out.alloc _) rfl U.1.size #[.int .i64 (q : Int)] rfl hnw.out rfl (by simp [Value.oneCell']) (by omega) (by omega) (by simp; omega) ?_; intro u' wA hown3 ht3 hat3 hne3; obtain ⟨g', cap', rfl, _⟩ := own_form hown3 (by omega); have HOA := dh hown3; have HBA := dh (HB.out.trans ((Tch.trans ((Tch.refl _ U).alloc _) ht3 (fun _ _ h => h)).below hz (fun k hk e => by have := (HO.out.lt k e).1; omega))))
       exact ⟨⟨m + 1, by omega, congrArg (Value.int .i64) (by omega), dh (by rw [HF.out, icells_append]; simpa [icells] using HOA.out), HBA⟩, by simp [intOf]; omega⟩
    ·have hqe : q = m := by omega
     subst hqe
     have HF := hfin (dh (HNO.out.done lR (fun h => absurd h (Nat.lt_irrefl _))))
     obtain ⟨Au, cu, rfl, -⟩ := own_sl HO.out
     have hnw := dh (heap_alloc_new U (.cells #[.int .i64 (q : Int)] 3))
     go_wp2_with (at_builtin; refine wpList_push rfl (.tmp 40) (.tmp 42) 22 rfl D.1.size 3 1 8 sliceInt _ _ _ (HO.out.alloc _) rfl U.1.size #[.int .i64 (q : Int)] rfl hnw.out rfl (by simp [Value.oneCell']) (by omega) (by omega) (by simp; omega) ?_; intro u' wA hown3 ht3 hat3 hne3; obtain ⟨g', cap', rfl, _⟩ := own_form hown3 (by omega); have HOA := dh hown3; have HBA := dh (HB.out.trans ((Tch.trans ((Tch.refl _ U).alloc _) ht3 (fun _ _ h => h)).below hz (fun k hk e => by have := (HO.out.lt k e).1; omega))))
     exact ⟨⟨q + 1, by omega, congrArg (Value.int .i64) (by omega), dh (by rw [HF.out, icells_append]; simpa [icells] using HOA.out), HBA⟩, by simp [intOf]; omega⟩
  ·have hme : m = nn := by omega
   subst hme
   have HF := dh (own_base HO.out (show w.1.size ≤ D.1.size by omega))
   have HBF := dh (HB0.out.trans ((HBD.out.trans (HB.out.mono hzD)).mono (show w.1.size ≤ W0.1.size by omega)))
   have HLN := dh (show (natI (likeL (simL a) m)).length = m by rw [natI, List.length_map, likeL_len])
   go_wp2_with fail
   go_ret
   exact ⟨_, rfl, by rw [HLN.out]; exact HF.out, HBF.out⟩
theorem mem_take_snoc {Y : List Int} {x : Int} {q : Nat} (h : q < Y.length) : decide (x ∈ Y.take (q + 1)) = (decide (x ∈ Y.take q) || (Y[q] == x)) := by
 rw [take_snoc Y q h, Bool.eq_iff_iff]
 simp only [List.mem_append, mS, decide_eq_true_eq, Bool.or_eq_true, beq_iff_eq]
 exact or_congr Iff.rfl eq_comm
theorem once33_any (f : Nat → Nat) (l : List Int) (A : Option Addr) (n c : Nat) (At : Option Addr) (nt ct : Nat) (nums : List Int) (w : World) (B : Nat) (hs : Sl w B 1 A n c (icells l)) (ht : Sl w B 1 At nt ct (icells nums)) (hB : B ≤ w.1.size) (hn : n = l.length) (hln : n ≤ 100000000) (hnum : ∀ j, j < nt → nums.getD j 0 = ((f j : Nat) : Int)) (hl : ∀ t ∈ l, isNd nt t = true) :
  Calls Tryz.prog 42 #[.slice A n c, .slice At nt ct] w (IntsPost w (onceI f l)) := by
 subst hn
 have hcap := hs.cap
 have hmax := hs.max
 unfold maxLen at hmax
 have hct := ht.cap
 have hmt := ht.max
 unfold maxLen at hmt
 have hnt : nt = nums.length := by have := ht.len; rw [icells_len] at this; omega
 have HS := dh hs
 have HT := dh ht
 have HNT := dh hnt
 have HNU := dh hnum
 have HL := dh hl
 clear hs ht hnt hnum hl
 go_enter Tryz.func42, Tryz.ntmps42
 go_wp2_with fail
 go_loopw [5, 6] (fun o i wr => ∃ m : Nat, m ≤ l.length ∧ i = .int .i64 (m : Int) ∧ Hid (wr.ownsRow w.1.size 3 1 o (onceI f (l.take m)).length (icells (onceI f (l.take m)))) ∧ Hid (Below w.1.size w wr)) (fun _ i _ => l.length - (intOf i).toNat)
 case atStart => exact ⟨0, Nat.zero_le _, rfl, dh (World.ownsRow_nil _ _ _ _), dh bR⟩
 case round =>
  obtain ⟨m, hm, rfl, HO, HB⟩ := hrel
  rename World => U
  have hz := HB.out.size
  by_cases hlt : m < l.length
  ·have wm : IntKind.i64.wrap ((m : Int) + 1) = (m : Int) + 1 := by rw [wI]; omega
   have hm0 : (0 : Int) ≤ (m : Int) := by omega
   have hm1 : (m : Int) < (l.length : Int) := by omega
   obtain ⟨b, off, rfl, hbl, hcl⟩ := rd_intS (HS.out.below HB.out hB) hlt
   obtain ⟨tn, htn, htl⟩ := isNd_nat (HL.out _ (mM hlt))
   rw [htn] at hcl
   obtain ⟨b2, off2, rfl, hbl2, hcn⟩ := rd_intS (HT.out.below HB.out hB) (show tn < nums.length by rw [← HNT.out]; exact htl)
   have hge : nums[tn]'(by rw [← HNT.out]; exact htl) = ((f tn : Nat) : Int) := by
    rw [← HNU.out tn htl, gD, gE (by rw [← HNT.out]; exact htl)]; rfl
   rw [hge] at hcn
   have htn0 : (0 : Int) ≤ (tn : Int) := by omega
   have htn1 : (tn : Int) < (nt : Int) := by omega
   have hle : (onceI f (l.take m)).length ≤ m := Nat.le_trans (onceI_le _ _) (by rw [List.length_take]; omega)
   have HSN : Hid (onceI f (l.take (m + 1)) = if ((f tn : Nat) : Int) ∈ onceI f (l.take m) then onceI f (l.take m) else onceI f (l.take m) ++ [((f tn : Nat) : Int)]) := dh (by rw [take_snoc l m hlt, onceI_snoc, htn, tN])
   generalize ((f tn : Nat) : Int) = x at *
   generalize onceI f (l.take m) = Y at *
   clear hge htn
   obtain ⟨Au, cu, rfl, hsY⟩ := own_sl HO.out
   have hcY := hsY.cap
   have hmY := hsY.max
   unfold maxLen at hmY
   have HSY := dh hsY
   clear hsY
   go_wp2_with fail
   clear hcl hcn
   go_loopw [8, 9] (fun s k wq => ∃ q : Nat, q ≤ Y.length ∧ s = .bool (decide (x ∈ Y.take q)) ∧ k = .int .i64 (q : Int) ∧ wq = U) (fun _ k _ => Y.length - (intOf k).toNat)
   case atStart => exact ⟨0, Nat.zero_le _, by simp, rfl, rfl⟩
   case round =>
    obtain ⟨q, hq, rfl, rfl, hwq⟩ := hrel
    rw [hwq]
    clear hwq
    obtain ⟨sv, hsv⟩ := xQ (decide (x ∈ Y.take q))
    rw [hsv]
    by_cases hlq : q < Y.length
    ·have wq1 : IntKind.i64.wrap ((q : Int) + 1) = (q : Int) + 1 := by rw [wI]; omega
     have hq0 : (0 : Int) ≤ (q : Int) := by omega
     have hq1 : (q : Int) < (Y.length : Int) := by omega
     obtain ⟨bY, oY, rfl, -, hcY2⟩ := rd_intS HSY.out hlq
     have HSN2 := dh (mem_take_snoc (x := x) hlq)
     rw [hsv] at HSN2
     obtain ⟨y, hy⟩ := xQ (Y[q])
     rw [hy] at hcY2 HSN2
     obtain ⟨e, he⟩ := xQ (y == x)
     rw [he] at HSN2
     clear hy hsv
     cases sv
     ·go_wp2_with fail
      go_roundw
      case rel => exact ⟨q + 1, by omega, by rw [HSN2.out]; rfl, by go_num, by trivial⟩
      case measure => simp [intOf]; omega
     ·go_wp2_with fail
      go_roundw
      case rel => exact ⟨q + 1, by omega, by rw [HSN2.out]; rfl, by go_num, by trivial⟩
      case measure => simp [intOf]; omega
    ·have hqe : q = Y.length := by omega
     subst hqe
     rw [List.take_length] at hsv
     cases sv
     ·have HF : Hid (onceI f (l.take (m + 1)) = Y ++ [x]) := dh (by rw [HSN.out, if_neg (of_decide_eq_false hsv)])
      have hnw := dh (heap_alloc_new U (.cells #[.int .i64 x] 3))
      clear hsv
      go_wp2_with (at_builtin; refine wpList_push rfl (.tmp 40) (.tmp 42) 22 rfl w.1.size 3 1 8 sliceInt _ _ _ (HO.out.alloc _) rfl U.1.size #[.int .i64 x] rfl hnw.out rfl (by simp [Value.oneCell']) (by omega) (by omega) (by simp; omega) ?_; intro u' wA hown3 ht3 hat3 hne3; obtain ⟨g', cap', rfl, _⟩ := own_form hown3 (by omega); have HOA := dh hown3; have HBA := dh (HB.out.trans ((Tch.trans ((Tch.refl _ U).alloc _) ht3 (fun _ _ h => h)).below hz (fun k hk e => by have := (HO.out.lt k e).1; omega))))
      exact ⟨⟨m + 1, by omega, congrArg (Value.int .i64) (by omega), dh (by rw [HF.out, lA, icells_append]; simpa [icells] using HOA.out), HBA⟩, by simp [intOf]; omega⟩
     ·have HF : Hid (onceI f (l.take (m + 1)) = Y) := dh (by rw [HSN.out, if_pos (of_decide_eq_true hsv)])
      clear hsv
      go_wp2_with fail
      go_roundw
      case rel => exact ⟨m + 1, by omega, by go_num, dh (by rw [HF.out]; exact HO.out), HB⟩
      case measure => simp [intOf]; omega
  ·have hme : m = l.length := by omega
   have HO2 : Hid (U.ownsRow w.1.size 3 1 u5 (onceI f l).length (icells (onceI f l))) := dh (by have := HO.out; rwa [hme, List.take_length] at this)
   clear HO hme
   go_wp2_with fail
   go_ret
   exact ⟨_, rfl, HO2.out, HB.out⟩
end Go.Proofs.YtiebpncpdbnelaaGreatDoor
