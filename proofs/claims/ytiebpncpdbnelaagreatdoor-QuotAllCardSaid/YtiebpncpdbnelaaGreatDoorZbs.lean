/- Texts that stand one behind the other, in one file. -/
import Derived.Test.YtiebpncpdbnelaaGreatDoorQu2
import Derived.Test.YtiebpncpdbnelaaGreatDoorSi5
set_option maxHeartbeats 8000000
set_option maxRecDepth 100000
namespace Go.Proofs.YtiebpncpdbnelaaGreatDoor
open Go.RowKit
theorem Grid.sl2 {w w' : World} {v : Value} {R : List (List Bool)} (h : Grid w w' v R) : ∃ A c, v = .slice A R.length c ∧ Sl2 w' w'.1.size 1 A R.length c (R.map bcells) := by
 obtain ⟨vs, h1, h2, h3⟩ := h
 obtain ⟨A, c, rfl, hs⟩ := own_sl h1
 have hl : vs.length = R.length := by rw [h1.1]; simp
 refine ⟨A, c, rfl, vs, hs, by simpa using hl, fun j ys hj => ?_⟩
 rw [List.getElem?_map] at hj
 obtain ⟨r, hr, rfl⟩ := Option.map_eq_some_iff.1 hj
 obtain ⟨u, hu, ho⟩ := h2 j r hr
 obtain ⟨A', c', rfl, hs'⟩ := own_sl ho
 exact ⟨A', _, c', hu, hs'⟩
theorem simL_row (a : Aut) : ∀ r ∈ simL a, r.length = (simL a).length := fun r hr => by
 unfold simL at hr ⊢
 obtain ⟨i, _, rfl⟩ := List.mem_map.1 hr
 simp
theorem pruneP_any (a : Aut) (Ai : Option Addr) (ni ci : Nat) (An : Option Addr) (nn cn : Nat) (w : World) (B : Nat) (h : AutRd w B a Ai ni ci An nn cn) (hB : B ≤ w.1.size) (hck : chkA a = 0) (hnd : ∀ x ∈ a.nodes, x.need < 2 ^ 64 ∧ x.ban < 2 ^ 64) (hinn : ∀ x ∈ a.nodes, x.inn < 2 ^ 64) (KE : Nat) (hr : ∀ x ∈ a.nodes, x.to.length ≤ KE) (hri : a.init.length ≤ 1000000) (hKE : KE ≤ 1000000) :
  Calls Tryz.prog 10 #[.agg #[.int .i64 a.sets, .slice Ai ni ci, .slice An nn cn]] w (AutOneS w (pruneA a)) := by
 obtain ⟨hb0, x0, y0, z0⟩ := two_new w (.cells #[.int .i64 a.sets, .slice Ai ni ci, .slice An nn cn] 25) (.cells #[.int .i64 0, .slice none 0 0, .slice none 0 0] 25)
 obtain ⟨W0, hW0⟩ := xQ ((w.alloc (.cells #[.int .i64 a.sets, .slice Ai ni ci, .slice An nn cn] 25)).alloc (.cells #[.int .i64 0, .slice none 0 0, .slice none 0 0] 25))
 rw [hW0] at hb0 x0 y0 z0
 have HR0 := dh (h.below hb0 hB)
 have HC0 := dh (autoCheck_any a Ai ni ci An nn cn W0 B HR0.out (by omega) (by omega) (fun x hx => by have := hr x hx; omega))
 obtain ⟨hn256, -, hA, -⟩ := chk_iff.1 hck
 have HNN := dh h.enn
 have hnn : nn ≤ 256 := by rw [HNN.out]; exact hn256
 have HW0 := dh hW0
 have HB0 := dh hb0
 have HOK := dh hA
 have HX0 := dh x0
 have HY0 := dh y0
 have hBw : B ≤ W0.1.size := by omega
 have hww : w.1.size + 1 < W0.1.size := by omega
 have HCL : Hid (∀ W', Below W0.1.size W0 W' → W'.cell? ⟨w.1.size, 0, none⟩ = some (.int .i64 a.sets) ∧ W'.cell? ⟨w.1.size, 1, none⟩ = some (.slice Ai ni ci) ∧ W'.cell? ⟨w.1.size, 2, none⟩ = some (.slice An nn cn)) := dh (fun W' hb => box3A ((hb.block w.1.size (by omega)).trans HX0.out))
 have HHR := dh hr
 have HND0 := dh hnd
 have HINN := dh hinn
 have HCK := dh hck
 clear hW0 hb0 x0 y0 z0 h hnd hinn hr hA hck
 go_enter Tryz.func10, Tryz.ntmps10
 go_upto_region 1 with fail
 rw [HW0.out]
 obtain ⟨q0, q1, q2⟩ := HCL.out W0 bR
 go_wp2_with fail
 refine HC0.out.mono ?_
 rintro e w1 ⟨rfl, hb1⟩
 rw [HCK.out]
 have HB1 := dh hb1
 have hz1 := hb1.size
 clear q0 q1 q2 hb1
 obtain ⟨q0, q1, q2⟩ := HCL.out w1 HB1.out
 have HDI := dh (direct_any a Ai ni ci An nn cn w1 B (HR0.out.below HB1.out hBw) (Nat.le_trans hBw hz1) HCK.out HND0.out HINN.out KE HHR.out (by omega) hKE)
 go_wp2_with fail
 refine HDI.out.mono ?_
 rintro e V ⟨v, rfl, hG⟩
 obtain ⟨Ar, cr, rfl, hR2⟩ := hG.sl2
 have hbV := hG.choose_spec.2.2
 have HBV := dh (HB1.out.trans (hbV.mono hz1))
 have hzV := HBV.out.size
 have HRR := dh hR2
 have HCV : Hid (∀ W', Below V.1.size V W' → W'.cell? ⟨w.1.size, 0, none⟩ = some (.int .i64 a.sets) ∧ W'.cell? ⟨w.1.size, 1, none⟩ = some (.slice Ai ni ci) ∧ W'.cell? ⟨w.1.size, 2, none⟩ = some (.slice An nn cn)) := dh (fun W' hb => HCL.out W' (HBV.out.trans (hb.mono hzV)))
 have HRV := dh (HR0.out.below HBV.out hBw)
 have hBV : B ≤ V.1.size := by omega
 have HYV := dh ((HBV.out.block (w.1.size + 1) hww).trans HY0.out)
 have hyV : w.1.size + 1 < V.1.size := by omega
 have HBW := dh (HB0.out.trans (HBV.out.mono (show w.1.size ≤ W0.1.size by omega)))
 have hsl : (simL a).length = nn := by rw [simL_len, HNN.out]
 rw [hsl] at HRR ⊢
 have HSL := dh hsl
 have HLF : Hid (∀ (W' : World) (l : List Int) (A : Option Addr) (n c : Nat), Below V.1.size V W' → Sl W' W'.1.size 1 A n c (icells l) → (∀ t ∈ l, isNd nn t = true) → l.length ≤ 1000000 → n = l.length → Calls Tryz.prog 21 #[.slice A n c, .slice Ar nn cr] W' (IntsPost W' (leftL (simL a) l))) := dh (fun W' l A n c hb hs hl hll hn => by
  have hq := HSL.out
  exact lesser_any l A n c Ar nn cr (simL a) W' W'.1.size hs ((HRR.out.below hb lR).up hb.size) lR hn (by omega) hq.symm (by omega) (simL_row a) (fun t ht => by rw [hq]; exact hl t ht))
 clear hG hR2 hbV q0 q1 q2 hsl
 obtain ⟨ks, hks⟩ := xQ (List.range nn)
 have hkl : ks.length = nn := by rw [← hks]; simp
 have HKS := dh hks
 have HGE : Hid (pruneA a = ⟨a.sets, leftL (simL a) a.init, ks.map (fun i => (a.at i).put (leftL (simL a) (a.at i).to))⟩) := dh (by
  unfold pruneA
  rw [prune_gen, genU, List.filter_eq_self.2 (fun _ _ => rfl), ← HKS.out, HNN.out])
 clear hks
 go_upto_region 4 with fail
 obtain ⟨x0, x1, -⟩ := HCV.out V bR
 go_cut [4] from 5 (fun p wF => ∃ ob vi, p = .pointer (some ⟨ob, 0, none⟩) ∧ V.1.size ≤ ob ∧ Hid (OutM V.1.size ob a.sets vi (leftL (simL a) a.init) (.slice none 0 0) [] [] wF) ∧ Hid (Below V.1.size V wF))
 case first =>
  refine wp_region_held_drew (S := fun w' => w'.cell? ⟨w.1.size, 0, none⟩ = some (.int .i64 a.sets) ∧ w'.cell? ⟨w.1.size, 1, none⟩ = some (.slice Ai ni ci)) (by kernel_rfl) ⟨x0, x1⟩ (fun hS => ?_)
  refine tkH 0 ?_
  refine tkH 1 ?_
  refine tkH 2 ?_
  refine tkH 3 ?_
  refine tkH 4 ?_
  refine wpAnyH_ready (rs := [5, 7]) (by kernel_rfl) (by simp) ?_
  refine (allReadyH_consD (i := 5) rfl (fun K hK => ?_) (allReadyH_consD (i := 7) rfl (fun K hK => ?_) AllReadyH.nil))
  ·skip
   go_simp
   refine (HLF.out _ a.init Ai ni ci (Below.drew bR) ((HRV.out.below (Below.drew bR) hBV).init.up (show B ≤ _ by first | exact hBV | exact Nat.le_trans hBV hbA.size)) (fun t ht => by rw [HNN.out]; exact HOK.out.1 t ht) hri HRV.out.eni).mono ?_
   rintro e w8 ⟨v8, rfl, ho8, hb8'⟩
   have hb8 : Below V.1.size V w8 := below_undrew hb8'
   obtain ⟨A8, c8, rfl, -⟩ := own_sl ho8
   dsimp only
   refine hK.out _ _ ⟨(HCV.out _ hb8).1, (HCV.out _ hb8).2.1⟩ (fun hS => ?_)
   clear hK
   refine tkH 6 ?_
   refine oneH 7 (fun K hK => ?_)
   obtain ⟨wA, hwA⟩ := xQ (w8.alloc (.cells #[.int .i64 0, .slice none 0 0, .slice none 0 0] 25))
   have hbA : Below V.1.size V wA := by rw [← hwA]; exact hb8.alloc hb8.size _
   have hzA : wA.1.size = w8.1.size + 1 := by rw [← hwA]; simp
   have haA : wA.1[w8.1.size]? = some (.cells #[.int .i64 0, .slice none 0 0, .slice none 0 0] 25) := by rw [← hwA]; exact heap_alloc_new w8 _
   have hoA := own_below ho8 (by rw [← hwA]; exact bR.alloc lR _ : Below w8.1.size w8 wA)
   go_simp
   refine hK.out _ _ ⟨(HCV.out _ hbA).1, (HCV.out _ hbA).2.1⟩ (fun hS => ?_)
   clear hK
   refine oneH 8 (fun K hK => ?_)
   obtain ⟨y0, y1, y2⟩ := box3A haA
   have f0 := frozen_of_row wA _ 0 _ _ haA
   have f1 := frozen_of_row wA _ 1 _ _ haA
   have f2 := frozen_of_row wA _ 2 _ _ haA
   have yl : w8.1.size < wA.1.size := (aI.1 haA).1
   have ob0 : V.1.size ≤ w8.1.size := by first | exact lR | exact hb8.size
   have hset := set3A (a := .int .i64 a.sets) (b := .slice A8 (leftL (simL a) a.init).length c8) (c := .slice none 0 0) haA rfl
   have htc := tch3A wA (w8.1.size) (.int .i64 a.sets) (.slice A8 (leftL (simL a) a.init).length c8) (.slice none 0 0)
   have hof := own_tch hoA htc (fun g hg e => own_ne_blk hoA haA (by decide) (by rw [hg, e]))
   obtain ⟨wF, hwF⟩ := xQ (((wA.setCell ⟨w8.1.size, 0, none⟩ (.int .i64 a.sets)).setCell ⟨w8.1.size, 1, none⟩ (.slice A8 (leftL (simL a) a.init).length c8)).setCell ⟨w8.1.size, 2, none⟩ (.slice none 0 0))
   rw [hwF] at hset htc hof
   have hbF : Below V.1.size V wF := hbA.trans (htc.below hbA.size (fun x hx e => by have e : x = w8.1.size := e; omega))
   have HOUT : Hid (OutM V.1.size (w8.1.size) a.sets (.slice A8 (leftL (simL a) a.init).length c8) (leftL (simL a) a.init) (.slice none 0 0) [] [] wF) := dh ⟨hset, own_base hof (Nat.zero_le _), NodesM.nil _ _⟩
   have HBF := dh hbF
   have OB0 := dh ob0
   clear hset htc hof
   go_simp
   try rw [hwF]
   refine hK.out _ _ ⟨(HCV.out _ hbF).1, (HCV.out _ hbF).2.1⟩ (fun hS => ?_)
   clear hK
   refine wpAnyH_done (by kernel_rfl) ?_ _
   go_wp2_with fail
   go_meet
   case rel => exact ⟨_, _, rfl, OB0.out, HOUT, HBF⟩
  ·skip
   obtain ⟨wA, hwA⟩ := xQ (V.drew.alloc (.cells #[.int .i64 0, .slice none 0 0, .slice none 0 0] 25))
   have hbA : Below V.1.size V wA := by rw [← hwA]; exact (Below.drew bR).alloc lR _
   have hzA : wA.1.size = V.1.size + 1 := by rw [← hwA]; simp
   have haA : wA.1[V.1.size]? = some (.cells #[.int .i64 0, .slice none 0 0, .slice none 0 0] 25) := by rw [← hwA]; exact heap_alloc_new V.drew _
   go_simp
   refine hK.out _ _ ⟨(HCV.out _ hbA).1, (HCV.out _ hbA).2.1⟩ (fun hS => ?_)
   clear hK
   refine oneH 5 (fun K hK => ?_)
   go_simp
   refine (HLF.out _ a.init Ai ni ci hbA ((HRV.out.below hbA hBV).init.up (show B ≤ _ by first | exact hBV | exact Nat.le_trans hBV hbA.size)) (fun t ht => by rw [HNN.out]; exact HOK.out.1 t ht) hri HRV.out.eni).mono ?_
   rintro e w8 ⟨v8, rfl, ho8, hb8'⟩
   have hb8 : Below V.1.size V w8 := hbA.trans (hb8'.mono hbA.size)
   obtain ⟨A8, c8, rfl, -⟩ := own_sl ho8
   have ha8 : w8.1[V.1.size]? = some (.cells #[.int .i64 0, .slice none 0 0, .slice none 0 0] 25) := (hb8'.block V.1.size (by rw [hzA]; omega)).trans haA
   dsimp only
   refine hK.out _ _ ⟨(HCV.out _ hb8).1, (HCV.out _ hb8).2.1⟩ (fun hS => ?_)
   clear hK
   refine tkH 6 ?_
   refine oneH 8 (fun K hK => ?_)
   obtain ⟨y0, y1, y2⟩ := box3A ha8
   have f0 := frozen_of_row w8 _ 0 _ _ ha8
   have f1 := frozen_of_row w8 _ 1 _ _ ha8
   have f2 := frozen_of_row w8 _ 2 _ _ ha8
   have yl : V.1.size < w8.1.size := (aI.1 ha8).1
   have ob0 : V.1.size ≤ V.1.size := by first | exact lR | exact hb8.size
   have hset := set3A (a := .int .i64 a.sets) (b := .slice A8 (leftL (simL a) a.init).length c8) (c := .slice none 0 0) ha8 rfl
   have htc := tch3A w8 (V.1.size) (.int .i64 a.sets) (.slice A8 (leftL (simL a) a.init).length c8) (.slice none 0 0)
   have hof := own_tch ho8 htc (fun g hg e => own_ne_blk ho8 ha8 (by decide) (by rw [hg, e]))
   obtain ⟨wF, hwF⟩ := xQ (((w8.setCell ⟨V.1.size, 0, none⟩ (.int .i64 a.sets)).setCell ⟨V.1.size, 1, none⟩ (.slice A8 (leftL (simL a) a.init).length c8)).setCell ⟨V.1.size, 2, none⟩ (.slice none 0 0))
   rw [hwF] at hset htc hof
   have hbF : Below V.1.size V wF := hb8.trans (htc.below hb8.size (fun x hx e => by have e : x = V.1.size := e; omega))
   have HOUT : Hid (OutM V.1.size (V.1.size) a.sets (.slice A8 (leftL (simL a) a.init).length c8) (leftL (simL a) a.init) (.slice none 0 0) [] [] wF) := dh ⟨hset, own_base hof (Nat.zero_le _), NodesM.nil _ _⟩
   have HBF := dh hbF
   have OB0 := dh ob0
   clear hset htc hof
   go_simp
   try rw [hwF]
   refine hK.out _ _ ⟨(HCV.out _ hbF).1, (HCV.out _ hbF).2.1⟩ (fun hS => ?_)
   clear hK
   refine wpAnyH_done (by kernel_rfl) ?_ _
   go_wp2_with fail
   go_meet
   case rel => exact ⟨_, _, rfl, OB0.out, HOUT, HBF⟩
 case rest =>
  obtain ⟨ob, vi, rfl, hob, HOUT, HBF⟩ := hcut
  obtain ⟨q0, q1, q2⟩ := HCV.out wc HBF.out
  clear x0 x1
  go_wp2_with fail
  clear q0 q1 q2
  go_loopw [6, 23] (fun _ i wr' => ∃ (k : Nat) (vn : Value) (xs : List Value), k ≤ nn ∧ i = .int .i64 (k : Int) ∧ Hid (OutM V.1.size ob a.sets vi (leftL (simL a) a.init) vn ((ks.take k).map (fun i => (a.at i).put (leftL (simL a) (a.at i).to))) xs wr') ∧ Hid (Below V.1.size V wr')) (fun _ i _ => nn - (intOf i).toNat)
  case atStart => exact ⟨0, _, _, by omega, rfl, dh (by rw [List.take_zero]; exact HOUT.out), HBF⟩
  case round =>
   obtain ⟨k, vn, xs, hk, rfl, HOm, HBm⟩ := hrel
   clear HOUT HBF
   by_cases hlt : k < nn
   ·have wk : IntKind.i64.wrap ((k : Int) + 1) = (k : Int) + 1 := by rw [wI]; omega
    have hk0 : (0 : Int) ≤ (k : Int) := by omega
    have hk1 : (k : Int) < (nn : Int) := by omega
    obtain ⟨q0, q1, q2⟩ := HCV.out wr HBm.out
    have hRX := HRV.out.below HBm.out hBV
    have hcn := (Exists.choose_spec hRX.nodes).1.cap
    have hmn := (Exists.choose_spec hRX.nodes).1.max
    unfold maxLen at hmn
    obtain ⟨bx, ox, nd, At, ct, hAn, hbx, hnd', d0, d1, d2, d3, hst⟩ := rd_aut hRX hlt
    obtain ⟨q, hq⟩ := xR k
    have HND : Hid (a.at q = nd) := dh (by rw [hq]; unfold Aut.at; rw [gD, hnd']; rfl)
    have HNM := dh (List.mem_of_getElem? hnd')
    have HSR : Hid (ks.take (k + 1) = ks.take k ++ [q]) := dh (by subst hq; rw [take_snoc ks q (by omega)]; congr 2; simp [← HKS.out])
    have HST := dh hst
    subst hAn
    clear hRX hnd' hst hq
    obtain ⟨Av, cv, rfl, -⟩ := own_sl HOm.out.nodes.own
    obtain ⟨ns, hns⟩ := xQ ((ks.take k).map (fun i => (a.at i).put (leftL (simL a) (a.at i).to)))
    have hnl : ns.length = k := by rw [← hns, List.length_map, List.length_take]; omega
    rw [hns, hnl] at HOm
    have HNS := dh hns
    have HNL := dh hnl
    obtain ⟨XA, hXA⟩ := xQ (wr.alloc (.cells #[.int .u64 (nd.need : Int), .int .u64 (nd.ban : Int), .int .u64 (nd.inn : Int), .slice At nd.to.length ct] 36))
    have hbXA : Below wr.1.size wr XA := by rw [← hXA]; exact bR.alloc lR _
    have hzXA : XA.1.size = wr.1.size + 1 := by rw [← hXA]; simp
    have hxA : XA.1[wr.1.size]? = some (.cells #[.int .u64 (nd.need : Int), .int .u64 (nd.ban : Int), .int .u64 (nd.inn : Int), .slice At nd.to.length ct] 36 (0, 0)) := by rw [← hXA]; exact heap_alloc_new wr _
    have HXC := dh hxA
    have HXA := dh hXA
    have HBA := dh (HBm.out.trans (hbXA.mono HBm.out.size))
    have HOA := dh (HOm.out.below hbXA)
    have HSTA := dh ((HST.out.below hbXA (show B ≤ wr.1.size by have := HBm.out.size; omega)).up (show B ≤ XA.1.size by have := HBm.out.size; omega))
    have HVG := dh (fun g (hg : (Value.slice Av k cv).ownBlock = some g) => (HOm.out.nodes.own.lt g hg).2)
    have hXAz := HBA.out.size
    clear hXA hbXA hxA hns hnl
    go_upto_region 8 with fail
    rw [HXA.out]
    obtain ⟨s0, s1, s2, s3⟩ := box4A HXC.out
    obtain ⟨r0, r1, r2⟩ := HOA.out.cells
    clear r0 r1 q0 q1 q2 d0 d1 d2 d3
    refine wp_region_U (S := fun w' => w'.cell? ⟨ob, 2, none⟩ = some (.slice Av k cv) ∧ w'.cell? ⟨wr.1.size, 0, none⟩ = some (.int .u64 (nd.need : Int)) ∧ w'.cell? ⟨wr.1.size, 1, none⟩ = some (.int .u64 (nd.ban : Int)) ∧ w'.cell? ⟨wr.1.size, 2, none⟩ = some (.int .u64 (nd.inn : Int)) ∧ w'.cell? ⟨wr.1.size, 3, none⟩ = some (.slice At nd.to.length ct)) 16 (by kernel_rfl) (⟨r2, s0, s1, s2, s3⟩) (fun hS => ?_)
    refine tkU 0 [] ?_
    refine tkU 1 [] ?_
    refine tkU 2 [] ?_
    refine tkU 3 [] ?_
    refine tkU 4 [] ?_
    refine tkU 5 [] ?_
    refine tkU 6 [] ?_
    refine tkU 7 [] ?_
    refine tkU 8 [] ?_
    refine tkU 9 [] ?_
    refine tkU 10 [] ?_
    refine wpAnyU_oneD (i := 11) rfl (by kernel_rfl) (fun K hK => ?_)
    go_simp
    refine (HLF.out _ nd.to At _ ct (Below.drew HBA.out) (HSTA.out.below (B' := XA.1.size) (Below.drew bR) lR) (fun t ht => by rw [HNN.out]; exact HOK.out.2 nd HNM.out t ht) (by have := HHR.out nd HNM.out; omega) rfl).mono ?_
    rintro e w8 ⟨v8, rfl, ho8, hb8'⟩
    have hb8 : Below XA.1.size XA w8 := below_undrew hb8'
    obtain ⟨A8, c8, rfl, -⟩ := own_sl ho8
    have HO8 := dh ho8
    have HB8 := dh hb8
    have HOM8 := dh (HOA.out.below hb8)
    have S8 : Hid (∀ W', Below w8.1.size w8 W' → W'.cell? ⟨wr.1.size, 0, none⟩ = some (.int .u64 (nd.need : Int)) ∧ W'.cell? ⟨wr.1.size, 1, none⟩ = some (.int .u64 (nd.ban : Int)) ∧ W'.cell? ⟨wr.1.size, 2, none⟩ = some (.int .u64 (nd.inn : Int)) ∧ W'.cell? ⟨wr.1.size, 3, none⟩ = some (.slice At nd.to.length ct)) := dh (fun W' hb => box4A ((hb.block wr.1.size (by have := HB8.out.size; omega)).trans ((HB8.out.block wr.1.size (by omega)).trans HXC.out)))
    clear ho8 hb8' hb8
    dsimp only
    refine hK.out _ _ ⟨HOM8.out.cells.2.2, S8.out _ bR⟩ (fun hS => ?_)
    clear hK
    refine tkU 12 [] ?_
    refine wpAnyU_oneD (i := 13) rfl (by kernel_rfl) (fun K hK => ?_)
    go_simp
    have tb := heap_alloc_new w8 (.cells #[.int .u64 (nd.need : Int), .int .u64 (nd.ban : Int), .int .u64 (nd.inn : Int), .slice A8 (leftL (simL a) nd.to).length c8] 36)
    obtain ⟨wY, hwY⟩ := xQ (w8.alloc (.cells #[.int .u64 (nd.need : Int), .int .u64 (nd.ban : Int), .int .u64 (nd.inn : Int), .slice A8 (leftL (simL a) nd.to).length c8] 36))
    have hbY : Below w8.1.size w8 wY := by rw [← hwY]; exact bR.alloc lR _
    have hOY := HOM8.out.below hbY
    have hz8 := HB8.out.size
    rw [hwY] at tb ⊢
    have HWY := dh hwY
    have hzY : wY.1.size = w8.1.size + 1 := by rw [← hwY]; simp
    clear hwY
    refine hK.out _ _ ⟨hOY.cells.2.2, S8.out _ hbY⟩ (fun hS => ?_)
    clear hK
    refine wpAnyU_oneD (i := 14) rfl (by kernel_rfl) (fun K hK => ?_)
    refine step_push rfl (.tmp 28) (.tmp 40) 23 rfl V.1.size 36 4 48 sliceANd _ _ _ hOY.nodes.own (by rfl) w8.1.size #[.int .u64 (nd.need : Int), .int .u64 (nd.ban : Int), .int .u64 (nd.inn : Int), .slice A8 (leftL (simL a) nd.to).length c8] (by rfl) tb rfl (by simp [Value.oneCell']) (by have := HNL.out; omega) (by omega) (by have := HBA.out.size; omega) ?_
    intro uZ wZ hownZ htZ hatZ _
    obtain ⟨gZ, cZ, hu⟩ := ownsRow_succ hownZ
    rw [HNL.out] at hu
    subst hu
    rw [← HWY.out] at htZ
    have hpush := HOM8.out.push (x := nd.put (leftL (simL a) nd.to)) (own_base HO8.out (Nat.zero_le _)) hownZ htZ
    obtain ⟨⟨fz, lz, cz⟩, hOZ⟩ := hpush
    have htz := Tch.trans ((Tch.refl _ w8).alloc _) htZ (fun _ _ e => e)
    have sz := box4A ((htz.block wr.1.size (by omega) (fun e => by have := HVG.out _ e; omega)).trans ((HB8.out.block wr.1.size (by omega)).trans HXC.out))
    have HOZ := dh hOZ
    have HBZ := dh ((HBA.out.trans (HB8.out.mono HBA.out.size)).trans (htz.below (show V.1.size ≤ w8.1.size by have := HBA.out.size; omega) (fun q hq e => by have := (HOM8.out.nodes.own.lt q e).1; omega)))
    clear hOZ htZ htz hatZ hownZ
    refine hK.out _ _ ⟨cz, sz⟩ (fun hS => ?_)
    clear hK
    refine tkU 15 [] ?_
    refine wpAnyU_lastD (i := 16) rfl (by kernel_rfl) (by kernel_rfl) (fun K hK => ?_)
    go_simp
    refine hK.out _ _ ?_
    clear hK
    refine wpAnyU_done (by kernel_rfl) ?_
    clear hS r2 s0 s1 s2 s3
    have hO := HOZ.out
    rw [← HND.out] at hO
    have hmp : (ks.take (k + 1)).map (fun i => (a.at i).put (leftL (simL a) (a.at i).to)) = ns ++ [(a.at q).put (leftL (simL a) (a.at q).to)] := by rw [HSR.out, List.map_append, HNS.out]; rfl
    rw [← hmp] at hO
    have HOF := dh hO
    have HBG := dh (HBZ.out.setCell (p := ⟨ob, 2, none⟩) (show V.1.size ≤ ob from hob) (.slice (some ⟨gZ, 0, none⟩) (k + 1) cZ))
    clear hO hmp fz lz cz sz
    go_wp2_with fail
    go_roundw
    case rel => exact ⟨k + 1, _, _, by omega, congrArg (Value.int .i64) (by omega), HOF, HBG⟩
    case measure => simp [intOf]; omega
   ·have hkn : k = nn := by omega
    have hle : ¬ (k : Int) < (nn : Int) := by omega
    rw [hkn, tL (by omega)] at HOm
    clear hkn
    have hout := HOm.out
    obtain ⟨Ai', ci', An', cn', hvi, hvn, -⟩ := hout.rd
    obtain ⟨n1, hn1⟩ := xQ (leftL (simL a) a.init).length
    obtain ⟨n2, hn2⟩ := xQ (ks.map (fun i => (a.at i).put (leftL (simL a) (a.at i).to))).length
    rw [hn1] at hvi
    rw [hn2] at hvn
    rw [hvi, hvn] at hout
    have HOX := dh hout
    obtain ⟨r0, r1, r2⟩ := hout.cells
    have hy := (HBm.out.block (w.1.size + 1) hyV).trans HYV.out
    obtain ⟨y0, y1, y2⟩ := box3A hy
    have f0 : wr.frozen? ⟨w.1.size + 1, 0, none⟩ = false := frozen_of_row wr _ 0 _ _ hy
    have f1 : wr.frozen? ⟨w.1.size + 1, 1, none⟩ = false := frozen_of_row wr _ 1 _ _ hy
    have f2 : wr.frozen? ⟨w.1.size + 1, 2, none⟩ = false := frozen_of_row wr _ 2 _ _ hy
    have yl : w.1.size + 1 < wr.1.size := (aI.1 hy).1
    have HY := dh hy
    clear hn1 hn2 hvi hvn hout hy
    go_wp2_with fail
    have hset := set3A (a := .int .i64 a.sets) (b := .slice Ai' n1 ci') (c := .slice An' n2 cn') HY.out rfl
    have htc := tch3A wr (w.1.size + 1) (.int .i64 a.sets) (.slice Ai' n1 ci') (.slice An' n2 cn')
    obtain ⟨Y, hY⟩ := xQ (((wr.setCell ⟨w.1.size + 1, 0, none⟩ (.int .i64 a.sets)).setCell ⟨w.1.size + 1, 1, none⟩ (.slice Ai' n1 ci')).setCell ⟨w.1.size + 1, 2, none⟩ (.slice An' n2 cn'))
    rw [hY] at hset htc ⊢
    clear hY y0 y1 y2 f0 f1 f2 r0 r1 r2
    have hOY := HOX.out.keep htc (fun e => by have e : ob = w.1.size + 1 := e; omega) (fun g hg e => by have e : g = w.1.size + 1 := e; exact own_ne_blk HOX.out.nodes.own HY.out (by decide) (by rw [hg, e])) (fun u' n ys ho g hg e => by have e : g = w.1.size + 1 := e; exact own_ne_blk ho HY.out (by decide) (by rw [hg, e]))
    have hbY : Below w.1.size w Y := (HBW.out.trans (HBm.out.mono HBW.out.size)).trans (htc.below (show w.1.size ≤ wr.1.size by omega) (fun y hy e => by have e : y = w.1.size + 1 := e; omega))
    obtain ⟨g0, g1, g2⟩ := box3A hset
    have hfin : AutOneS w (pruneA a) (.returned (.agg #[.int .i64 a.sets, .slice Ai' n1 ci', .slice An' n2 cn'])) Y := by
     rw [HGE.out]
     obtain ⟨_, _, _, _, e1, e2, hrd⟩ := hOY.rd
     cases e1
     cases e2
     exact ⟨_, _, _, _, _, _, rfl, hrd, hbY, hOY.sep⟩
    refine bodyPost_ret (v := .agg #[.int .i64 a.sets, .slice Ai' n1 ci', .slice An' n2 cn']) ?_ rfl ?_
    ·simp [results, Tryz.results10, go_sem, g0, g1, g2]
    ·exact hfin
end Go.Proofs.YtiebpncpdbnelaaGreatDoor
namespace Go.Proofs.YtiebpncpdbnelaaGreatDoor
open Go.RowKit Go.Maps
theorem change_any (f : Nat → Nat) (N : Nat) (l : List Int) (A : Option Addr) (n c nb mb nm : Nat) (g : Lit → Option Value) (w : World) (B : Nat) (hs : Sl w B 1 A n c (icells l)) (hB : B ≤ w.1.size) (hn : n = l.length) (hnl : n ≤ 1000000) (hnb : w.cell? ⟨nb, 0, none⟩ = some (.map (some mb))) (hnb2 : nb < w.1.size) (hg : GMap w 3 mb nm g) (hgf : ∀ q, q < N → g (.int .i64 (q : Int)) = some (.int .i64 (f q : Int))) (hf : ∀ q, q < N → f q ≤ 1000000) (hN : N ≤ 1000000) (hl : ∀ t ∈ l, isNd N t = true) :
  Calls Tryz.prog 23 #[.slice A n c, .pointer (some ⟨nb, 0, none⟩)] w (IntsPost w (onceI f l)) := by
 have hb0 : Below w.1.size w (w.alloc (.map #[] 0)) := bR.alloc lR _
 have x0 := heap_alloc_new w (.map #[] 0)
 have z0 : (w.alloc (.map #[] 0)).1.size = w.1.size + 1 := by simp
 obtain ⟨W0, hW0⟩ := xQ (w.alloc (.map #[] 0))
 rw [hW0] at hb0 x0 z0
 have HW0 := dh hW0
 have HB0 := dh hb0
 have HS0 := dh (hs.below hb0 hB)
 have HT0 : Hid (IMap W0 w.1.size []) := dh (IMap.of_blk x0)
 have HG := dh hg
 have HNB := dh hnb
 have HL := dh hl
 have HGF := dh hgf
 have HF := dh hf
 have hmk := run_makeMap (P := Tryz.prog) 49
 have hBw : B ≤ W0.1.size := by omega
 have hww : w.1.size < W0.1.size := by omega
 have hmb := hg.lt
 have HZ0 := dh z0
 have hcc := hs.cap
 have hmm := hs.max
 unfold maxLen at hmm
 subst hn
 clear hW0 hb0 x0 hs hg hl hgf hnb hf z0
 go_enter Tryz.func23, Tryz.ntmps23
 go_upto_region 3 with fail
 rw [HW0.out]
 clear hmk
 go_wp2_with fail
 go_loopw [4, 12] (fun v i wr => ∃ (k : Nat) (out : List Int), k ≤ l.length ∧ i = .int .i64 (k : Int) ∧ out = onceI f (l.take k) ∧ Hid (wr.ownsRow W0.1.size 3 1 v out.length (icells out)) ∧ Hid (IMap wr w.1.size out) ∧ Hid (Below w.1.size w wr)) (fun _ i _ => l.length - (intOf i).toNat)
 case atStart => exact ⟨0, [], by omega, rfl, rfl, dh (World.ownsRow_nil _ _ _ _), HT0, HB0⟩
 case round =>
  obtain ⟨k, out, hk, rfl, hout, HO, HT, HB⟩ := hrel
  have hzr := HB.out.size
  have hol : out.length ≤ k := by rw [hout]; exact Nat.le_trans (onceI_le _ _) (by rw [List.length_take]; omega)
  by_cases hlt : k < l.length
  ·have HSN := dh (onceI_snoc f (l.take k) l[k])
   rw [← take_snoc l k hlt, ← hout] at HSN
   obtain ⟨tn, htn, htl⟩ := isNd_nat (HL.out _ (mM hlt))
   obtain ⟨bb, o, rfl, hbb, hc0⟩ := (HS0.out.rd.below (B' := W0.1.size) (w' := W0) bR hBw).at_ (j := k) (icells_at hlt)
   have hbw : bb < w.1.size := by omega
   have hc0 : wr.cell? ⟨bb, o + k, none⟩ = some (.int .i64 (tn : Int)) := by
    rw [← htn]
    have h1 := HB0.out.cell (p := ⟨bb, o + k, none⟩) hbw
    have h2 := HB.out.cell (p := ⟨bb, o + k, none⟩) hbw
    rw [h2, ← h1]; exact hc0
   rw [htn, tN] at HSN
   have wk : IntKind.i64.wrap ((k : Int) + 1) = (k : Int) + 1 := by rw [wI]; omega
   have hk0 : (0 : Int) ≤ (k : Int) := by omega
   have hk1 : (k : Int) < (l.length : Int) := by omega
   have hnb := bC HB.out hnb2 HNB.out
   have hlook := mapI_look (HG.out.blk (HB.out.block mb hmb)) (tn : Int) (by omega) false
   rw [HGF.out tn htl] at hlook
   simp only [Option.getD_some, Bool.false_eq_true, if_false] at hlook
   have hft := HF.out tn htl
   generalize f tn = x at *
   have hthere := HT.out.lookup (x := (x : Int)) (by omega)
   obtain ⟨Av, cv, rfl, -⟩ := own_sl HO.out
   by_cases hm : (x : Int) ∈ out
   ·rw [decide_eq_true hm] at hthere
    have HS2 : Hid (onceI f (l.take (k + 1)) = out) := dh (by rw [HSN.out, if_pos hm])
    clear hm htn hout
    go_wp2_with fail
    go_roundw
    case rel => exact ⟨k + 1, out, by omega, congrArg (Value.int .i64) (by omega), HS2.out.symm, HO, HT, HB⟩
    case measure => simp [intOf]; omega
   ·rw [decide_eq_false hm] at hthere
    have HS2 : Hid (onceI f (l.take (k + 1)) = out ++ [(x : Int)]) := dh (by rw [HSN.out, if_neg hm])
    obtain ⟨w1, hup, hT1, hgr⟩ := HT.out.update (x := (x : Int)) (by omega) (by omega)
    have HT1 := dh hT1
    have HB1 : Hid (Below w.1.size w w1) := dh (HB.out.grown hgr hzr (fun j hj => by cases hj; exact lR))
    have HO1 : Hid (w1.ownsRow W0.1.size 3 1 (.slice Av out.length cv) out.length (icells out)) := dh (own_tch HO.out ((Tch.refl (fun q => q = w.1.size) wr).grown hgr (fun q e _ => (Option.some.inj e).symm)) (fun g hg e => by
     have e : g = w.1.size := e
     have := (HO.out.lt g hg).1
     omega))
    have hz1 := HB1.out.size
    have hz2 : wr.1.size ≤ w1.1.size := hgr.size
    have hzw : W0.1.size ≤ w1.1.size := by have := HT1.out.lt; have := HZ0.out; omega
    have hnw := dh (heap_alloc_new w1 (.cells #[.int .i64 (x : Int)] 3))
    clear hm htn hT1 hgr hout
    go_wp2_with (at_builtin; refine wpList_push rfl (.tmp 25) (.tmp 27) 22 rfl W0.1.size 3 1 8 sliceInt _ _ _ (HO1.out.alloc _) rfl w1.1.size #[.int .i64 (x : Int)] rfl hnw.out rfl (by simp [Value.oneCell']) (by omega) (by omega) (by simp; omega) ?_; intro u' wA hown3 ht3 hat3 hne3; have HOA := dh hown3; have HTT := dh (Tch.trans ((Tch.refl _ w1).alloc _) ht3 (fun _ _ h => h)))
    have HBA := dh (HB1.out.trans (HTT.out.below hz1 (fun q hq e => by have := (HO1.out.lt q e).1; omega)))
    have HTA := dh (HT1.out.keep HTT.out (fun e => by have := (HO1.out.lt _ e).1; omega))
    go_roundw
    case rel => exact ⟨k + 1, out ++ [(x : Int)], by omega, congrArg (Value.int .i64) (by omega), HS2.out.symm, dh (by rw [lA, icells_append]; exact HOA.out), HTA, HBA⟩
    case measure => simp [intOf]; omega
  ·have hkn : k = l.length := by omega
   have HFI : Hid (wr.ownsRow W0.1.size 3 1 _ (onceI f l).length (icells (onceI f l))) := dh (by have := HO.out; rw [hout, hkn, tL lR] at this; exact this)
   have hle : ¬ (k : Int) < (l.length : Int) := by omega
   clear hkn HO hout
   go_wp2_with fail
   go_ret
   exact ⟨_, rfl, own_base HFI.out (Nat.le_of_lt hww), HB.out⟩
end Go.Proofs.YtiebpncpdbnelaaGreatDoor
namespace Go.Proofs.YtiebpncpdbnelaaGreatDoor
open Go.RowKit Go.Maps
def plainB (x y : ANd) : Bool := decide (x.need = y.need) && (decide (x.ban = y.ban) && decide (x.inn = y.inn))
theorem plain_eql (x y : ANd) (w : World) : (binOp .eql 46 (.agg #[.int .u64 (x.need : Int), .int .u64 (x.ban : Int), .int .u64 (x.inn : Int)]) (.agg #[.int .u64 (y.need : Int), .int .u64 (y.ban : Int), .int .u64 (y.inn : Int)])).run Tryz.prog w = .ok (.bool (plainB x y)) w := by
 have h1 : Tryz.prog.underlying 46 = some (.struct (Tryz.prog.fieldsOf 46)) := by kernel_rfl
 have h2 : Tryz.prog.stoodInHeld 46 = false := by kernel_rfl
 rw [run_eql_struct, run_equalIn_agg w 9999 _ _ _ h1 h2]
 clear h1 h2
 unfold plainB
 go_simp
 by_cases h1 : x.need = y.need <;> by_cases h2 : x.ban = y.ban <;> by_cases h3 : x.inn = y.inn <;> simp [h1, h2, h3, Int.ofNat_inj]
theorem sub_both {x y : Nat} (h : ∀ b, x.testBit b = true → y.testBit b = true) (k : ∀ b, y.testBit b = true → x.testBit b = true) : x = y := by
 refine Nat.eq_of_testBit_eq (fun b => ?_)
 cases hx : x.testBit b <;> cases hy : y.testBit b
 ·rfl
 ·rw [k b hy] at hx; cases hx
 ·rw [h b hx] at hy; cases hy
 ·rfl
theorem like_plain {a : Aut} (h : GoodA a) {i k : Nat} (h1 : relL (simL a) i k = true) (h2 : relL (simL a) k i = true) : plainB (a.at k) (a.at i) = true := by
 have s1 := sim_rel.1 h1
 have s2 := sim_rel.1 h2
 obtain ⟨hi, hk⟩ := (sim_sim a).lt i k s1
 obtain ⟨a1, a2, a3⟩ := alone_iff.1 ((sim_sim a).one i k s1)
 obtain ⟨b1, b2, b3⟩ := alone_iff.1 ((sim_sim a).one k i s2)
 have hin : ∀ q, q < a.nodes.length → ∀ b, (a.at q).inn.testBit b = true → b < a.sets.toNat := fun q hq b hb => by
  refine Nat.lt_of_not_le (fun hl => ?_)
  rw [Nat.testBit_lt_two_pow (Nat.lt_of_lt_of_le (h.inn _ (at_mem hq)) (Nat.pow_le_pow_right (by omega) hl))] at hb
  cases hb
 unfold plainB
 rw [Bool.and_eq_true, Bool.and_eq_true, decide_eq_true_eq, decide_eq_true_eq, decide_eq_true_eq]
 exact ⟨sub_both a1 b1, sub_both a2 b2, sub_both (fun b hb => b3 b (hin k hk b hb) hb) (fun b hb => a3 b (hin i hi b hb) hb)⟩
theorem rd_relB {w : World} {B : Nat} {A : Option Addr} {n c : Nat} {R : List (List Bool)} (h : Sl2 w B 1 A n c (R.map bcells)) (hq : ∀ r ∈ R, r.length = R.length) {i : Nat} (hi : i < R.length) :
  ∃ b o A' c', A = some ⟨b, o, none⟩ ∧ w.cell? ⟨b, o + i, none⟩ = some (.slice A' R.length c') ∧ R.length ≤ c' ∧ c' ≤ maxLen ∧ b < B ∧ ∃ b' o', A' = some ⟨b', o', none⟩ ∧ b' < B ∧ ∀ k, k < R.length → w.cell? ⟨b', o' + k, none⟩ = some (.bool (relL R i k)) := by
 obtain ⟨b, o, A', n', c', h1, hb, h2, h3⟩ := h.at_ (j := i) (ys := bcells R[i]) (by simp [hi])
 obtain ⟨b1, o1, A1, c1, e1, e2, e3, e4, b2, o2, e5, e6⟩ := rd_rel h hq hi
 rw [h1] at e1
 cases e1
 rw [h2] at e2
 cases e2
 subst e5
 obtain ⟨b3, o3, e7, h4, -⟩ := h3.rd.at_ (j := 0) (by
  have e : (bcells R[i])[0]? = some (.bool (R[i].getD 0 false)) := bcells'_at (by rw [hq _ (mM hi)]; omega)
  exact e)
 cases e7
 exact ⟨b, o, _, c', h1, h2, e3, e4, hb, b2, o2, rfl, h4, e6⟩
noncomputable def leadU (a : Aut) (i : Nat) : List Nat := (List.range i).filter (fun q => (leadL (simL a) a.nodes.length).getD q false)
theorem leadU_snoc (a : Aut) (i : Nat) : leadU a (i + 1) = leadU a i ++ (if (leadL (simL a) a.nodes.length).getD i false = true then [i] else []) := by
 unfold leadU
 rw [List.range_succ, List.filter_append]
 congr 1
 rw [List.filter_cons, List.filter_nil]
theorem leadU_le (a : Aut) (i : Nat) : (leadU a i).length ≤ i := by
 unfold leadU
 have := List.length_filter_le (fun q => (leadL (simL a) a.nodes.length).getD q false) (List.range i)
 rwa [List.length_range] at this
theorem leadU_lt {a : Aut} {i q : Nat} (h : q ∈ leadU a i) : q < i := List.mem_range.1 (List.mem_filter.1 h).1
def NumG (a : Aut) (i : Nat) (g : Lit → Option Value) : Prop := ∀ q, q < i → g (.int .i64 (q : Int)) = some (.int .i64 (numM (simL a) a.nodes.length q : Int))
theorem NumG.put {a : Aut} {i : Nat} {g g' : Lit → Option Value} (h : NumG a i g) (hp : PutG g g' (.int .i64 (i : Int)) (.int .i64 (numM (simL a) a.nodes.length i : Int))) : NumG a (i + 1) g' := fun q hq => by
 by_cases e : q = i
 ·subst e; exact hp.1
 ·rw [hp.2 _ (fun h => e (by injection h with _ h; omega))]
  exact h q (by omega)
theorem num_lead {a : Aut} {i : Nat} (h : likeF (simL a) i = i) : numM (simL a) a.nodes.length i = (leadU a i).length := by
 unfold numM; rw [h]; rfl
theorem num_like {a : Aut} (hA : a.Ok) {i : Nat} (hi : i < a.nodes.length) : numM (simL a) a.nodes.length (likeF (simL a) i) = numM (simL a) a.nodes.length i := by
 unfold numM; rw [like_like hA hi]
theorem num_le (a : Aut) {i : Nat} (hi : i < a.nodes.length) : numM (simL a) a.nodes.length i ≤ a.nodes.length := by
 unfold numM
 exact Nat.le_trans (numC_le _) (Nat.le_of_lt (Nat.lt_of_le_of_lt (like_le _ _) hi))
def NoneB (a : Aut) (i k : Nat) : Prop := ∀ q, q < k → (relL (simL a) i q && relL (simL a) q i) = false
theorem NoneB.next {a : Aut} {i k : Nat} (h : NoneB a i k) (hk : (relL (simL a) i k && relL (simL a) k i) = false) : NoneB a i (k + 1) := fun q hq => by
 by_cases e : q = k
 ·subst e; exact hk
 ·exact h q (by omega)
theorem NoneB.all {a : Aut} {i : Nat} (h : NoneB a i i) : likeF (simL a) i = i := firstB_uniq lR h (fun e => absurd e (Nat.lt_irrefl _))
theorem NoneB.hit {a : Aut} {i k : Nat} (h : NoneB a i k) (hk : k < i) (h1 : relL (simL a) i k = true) (h2 : relL (simL a) k i = true) : likeF (simL a) i = k := firstB_uniq (Nat.le_of_lt hk) h (fun _ => by rw [h1, h2]; rfl)
end Go.Proofs.YtiebpncpdbnelaaGreatDoor
