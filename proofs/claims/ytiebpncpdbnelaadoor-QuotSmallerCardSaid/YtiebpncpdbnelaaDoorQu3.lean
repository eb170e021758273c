/- The walks of layer 33 (quot): Prune. -/
import Derived.Test.YtiebpncpdbnelaaDoorQu2
import Derived.Test.YtiebpncpdbnelaaDoorSi5
set_option maxHeartbeats 8000000
set_option maxRecDepth 100000
namespace Go.Proofs.YtiebpncpdbnelaaDoor
open Go.RowKit
theorem Grid.sl2 {w w' : World} {v : Value} {R : List (List Bool)} (h : Grid w w' v R) : ∃ A c, v = .slice A R.length c ∧ Sl2 w' w'.1.size 1 A R.length c (R.map bcells) := by
 obtain ⟨vs, h1, h2, h3⟩ := h
 obtain ⟨A, c, rfl, hs⟩ := own_sl h1
 have hl : vs.length = R.length := by rw [h1.1]; simp
 refine ⟨A, c, rfl, vs, hs, by simpa using hl, fun j ys hj => ?_⟩
 rw [List.getElem?_map] at hj
 obtain ⟨r, hr, rfl⟩ := Option.map_eq_some_iff.1 hj
 obtain ⟨u, hu, ho⟩ := h2 j r hr
 obtain ⟨A', c', rfl, hs'⟩ := own_sl ho
 exact ⟨A', _, c', hu, hs'⟩
theorem simL_row (a : Aut) : ∀ r ∈ simL a, r.length = (simL a).length := fun r hr => by
 unfold simL at hr ⊢
 obtain ⟨i, _, rfl⟩ := List.mem_map.1 hr
 simp
theorem pruneP_any (a : Aut) (Ai : Option Addr) (ni ci : Nat) (An : Option Addr) (nn cn : Nat) (w : World) (B : Nat) (h : AutRd w B a Ai ni ci An nn cn) (hB : B ≤ w.1.size) (hck : chkA a = 0) (hnd : ∀ x ∈ a.nodes, x.need < 2 ^ 64 ∧ x.ban < 2 ^ 64) (hinn : ∀ x ∈ a.nodes, x.inn < 2 ^ 64) (KE : Nat) (hr : ∀ x ∈ a.nodes, x.to.length ≤ KE) (hri : a.init.length ≤ 1000000) (hKE : KE ≤ 1000000) :
  Calls Tryd.prog 18 #[.agg #[.int .i64 a.sets, .slice Ai ni ci, .slice An nn cn]] w (AutOneS w (pruneA a)) := by
 obtain ⟨hb0, x0, y0, z0⟩ := two_new w (.cells #[.int .i64 a.sets, .slice Ai ni ci, .slice An nn cn] 25) (.cells #[.int .i64 0, .slice none 0 0, .slice none 0 0] 25)
 obtain ⟨W0, hW0⟩ := xQ ((w.alloc (.cells #[.int .i64 a.sets, .slice Ai ni ci, .slice An nn cn] 25)).alloc (.cells #[.int .i64 0, .slice none 0 0, .slice none 0 0] 25))
 rw [hW0] at hb0 x0 y0 z0
 have HR0 := dh (h.below hb0 hB)
 have HC0 := dh (autoCheck_any a Ai ni ci An nn cn W0 B HR0.out (by omega) (by omega) (fun x hx => by have := hr x hx; omega))
 obtain ⟨hn256, -, hA, -⟩ := chk_iff.1 hck
 have HNN := dh h.enn
 have hnn : nn ≤ 256 := by rw [HNN.out]; exact hn256
 have HW0 := dh hW0
 have HB0 := dh hb0
 have HOK := dh hA
 have HX0 := dh x0
 have HY0 := dh y0
 have hBw : B ≤ W0.1.size := by omega
 have hww : w.1.size + 1 < W0.1.size := by omega
 have HCL : Hid (∀ W', Below W0.1.size W0 W' → W'.cell? ⟨w.1.size, 0, none⟩ = some (.int .i64 a.sets) ∧ W'.cell? ⟨w.1.size, 1, none⟩ = some (.slice Ai ni ci) ∧ W'.cell? ⟨w.1.size, 2, none⟩ = some (.slice An nn cn)) := dh (fun W' hb => box3A ((hb.block w.1.size (by omega)).trans HX0.out))
 have HHR := dh hr
 have HND0 := dh hnd
 have HINN := dh hinn
 have HCK := dh hck
 clear hW0 hb0 x0 y0 z0 h hnd hinn hr hA hck
 go_enter Tryd.func18, Tryd.ntmps18
 go_upto_region 1 with fail
 rw [HW0.out]
 obtain ⟨q0, q1, q2⟩ := HCL.out W0 bR
 go_wp2_with fail
 refine HC0.out.mono ?_
 rintro e w1 ⟨rfl, hb1⟩
 rw [HCK.out]
 have HB1 := dh hb1
 have hz1 := hb1.size
 clear q0 q1 q2 hb1
 obtain ⟨q0, q1, q2⟩ := HCL.out w1 HB1.out
 have HDI := dh (direct_any a Ai ni ci An nn cn w1 B (HR0.out.below HB1.out hBw) (Nat.le_trans hBw hz1) HCK.out HND0.out HINN.out KE HHR.out (by omega) hKE)
 go_wp2_with fail
 refine HDI.out.mono ?_
 rintro e V ⟨v, rfl, hG⟩
 obtain ⟨Ar, cr, rfl, hR2⟩ := hG.sl2
 have hbV := hG.choose_spec.2.2
 have HBV := dh (HB1.out.trans (hbV.mono hz1))
 have hzV := HBV.out.size
 have HRR := dh hR2
 have HCV : Hid (∀ W', Below V.1.size V W' → W'.cell? ⟨w.1.size, 0, none⟩ = some (.int .i64 a.sets) ∧ W'.cell? ⟨w.1.size, 1, none⟩ = some (.slice Ai ni ci) ∧ W'.cell? ⟨w.1.size, 2, none⟩ = some (.slice An nn cn)) := dh (fun W' hb => HCL.out W' (HBV.out.trans (hb.mono hzV)))
 have HRV := dh (HR0.out.below HBV.out hBw)
 have hBV : B ≤ V.1.size := by omega
 have HYV := dh ((HBV.out.block (w.1.size + 1) hww).trans HY0.out)
 have hyV : w.1.size + 1 < V.1.size := by omega
 have HBW := dh (HB0.out.trans (HBV.out.mono (show w.1.size ≤ W0.1.size by omega)))
 have hsl : (simL a).length = nn := by rw [simL_len, HNN.out]
 rw [hsl] at HRR ⊢
 have HSL := dh hsl
 have HLF : Hid (∀ (W' : World) (l : List Int) (A : Option Addr) (n c : Nat), Below V.1.size V W' → Sl W' W'.1.size 1 A n c (icells l) → (∀ t ∈ l, isNd nn t = true) → l.length ≤ 1000000 → n = l.length → Calls Tryd.prog 43 #[.slice A n c, .slice Ar nn cr] W' (IntsPost W' (leftL (simL a) l))) := dh (fun W' l A n c hb hs hl hll hn => by
  have hq := HSL.out
  exact lesser_any l A n c Ar nn cr (simL a) W' W'.1.size hs ((HRR.out.below hb lR).up hb.size) lR hn (by omega) hq.symm (by omega) (simL_row a) (fun t ht => by rw [hq]; exact hl t ht))
 clear hG hR2 hbV q0 q1 q2 hsl
 obtain ⟨ks, hks⟩ := xQ (List.range nn)
 have hkl : ks.length = nn := by rw [← hks]; simp
 have HKS := dh hks
 have HGE : Hid (pruneA a = ⟨a.sets, leftL (simL a) a.init, ks.map (fun i => (a.at i).put (leftL (simL a) (a.at i).to))⟩) := dh (by
  unfold pruneA
  rw [prune_gen, genU, List.filter_eq_self.2 (fun _ _ => rfl), ← HKS.out, HNN.out])
 clear hks
 go_upto_region 4 with fail
 obtain ⟨x0, x1, -⟩ := HCV.out V bR
 go_cut [4] from 5 (fun p wF => ∃ ob vi, p = .pointer (some ⟨ob, 0, none⟩) ∧ V.1.size ≤ ob ∧ Hid (OutM V.1.size ob a.sets vi (leftL (simL a) a.init) (.slice none 0 0) [] [] wF) ∧ Hid (Below V.1.size V wF))
 case first =>
  refine wp_region_held_drew (S := fun w' => w'.cell? ⟨w.1.size, 0, none⟩ = some (.int .i64 a.sets) ∧ w'.cell? ⟨w.1.size, 1, none⟩ = some (.slice Ai ni ci)) (by kernel_rfl) ⟨x0, x1⟩ (fun hS => ?_)
  refine tkH 0 ?_
  refine tkH 1 ?_
  refine tkH 2 ?_
  refine tkH 3 ?_
  refine tkH 4 ?_
  refine wpAnyH_ready (rs := [5, 7]) (by kernel_rfl) (by simp) ?_
  refine (allReadyH_consD (i := 5) rfl (fun K hK => ?_) (allReadyH_consD (i := 7) rfl (fun K hK => ?_) AllReadyH.nil))
  ·skip
   go_simp
   refine (HLF.out _ a.init Ai ni ci (Below.drew bR) ((HRV.out.below (Below.drew bR) hBV).init.up (show B ≤ _ by first | exact hBV | exact Nat.le_trans hBV hbA.size)) (fun t ht => by rw [HNN.out]; exact HOK.out.1 t ht) hri HRV.out.eni).mono ?_
   rintro e w8 ⟨v8, rfl, ho8, hb8'⟩
   have hb8 : Below V.1.size V w8 := below_undrew hb8'
   obtain ⟨A8, c8, rfl, -⟩ := own_sl ho8
   dsimp only
   refine hK.out _ _ ⟨(HCV.out _ hb8).1, (HCV.out _ hb8).2.1⟩ (fun hS => ?_)
   clear hK
   refine tkH 6 ?_
   refine oneH 7 (fun K hK => ?_)
   obtain ⟨wA, hwA⟩ := xQ (w8.alloc (.cells #[.int .i64 0, .slice none 0 0, .slice none 0 0] 25))
   have hbA : Below V.1.size V wA := by rw [← hwA]; exact hb8.alloc hb8.size _
   have hzA : wA.1.size = w8.1.size + 1 := by rw [← hwA]; simp
   have haA : wA.1[w8.1.size]? = some (.cells #[.int .i64 0, .slice none 0 0, .slice none 0 0] 25) := by rw [← hwA]; exact heap_alloc_new w8 _
   have hoA := own_below ho8 (by rw [← hwA]; exact bR.alloc lR _ : Below w8.1.size w8 wA)
   go_simp
   refine hK.out _ _ ⟨(HCV.out _ hbA).1, (HCV.out _ hbA).2.1⟩ (fun hS => ?_)
   clear hK
   refine oneH 8 (fun K hK => ?_)
   obtain ⟨y0, y1, y2⟩ := box3A haA
   have f0 := frozen_of_row wA _ 0 _ _ haA
   have f1 := frozen_of_row wA _ 1 _ _ haA
   have f2 := frozen_of_row wA _ 2 _ _ haA
   have yl : w8.1.size < wA.1.size := (aI.1 haA).1
   have ob0 : V.1.size ≤ w8.1.size := by first | exact lR | exact hb8.size
   have hset := set3A (a := .int .i64 a.sets) (b := .slice A8 (leftL (simL a) a.init).length c8) (c := .slice none 0 0) haA rfl
   have htc := tch3A wA (w8.1.size) (.int .i64 a.sets) (.slice A8 (leftL (simL a) a.init).length c8) (.slice none 0 0)
   have hof := own_tch hoA htc (fun g hg e => own_ne_blk hoA haA (by decide) (by rw [hg, e]))
   obtain ⟨wF, hwF⟩ := xQ (((wA.setCell ⟨w8.1.size, 0, none⟩ (.int .i64 a.sets)).setCell ⟨w8.1.size, 1, none⟩ (.slice A8 (leftL (simL a) a.init).length c8)).setCell ⟨w8.1.size, 2, none⟩ (.slice none 0 0))
   rw [hwF] at hset htc hof
   have hbF : Below V.1.size V wF := hbA.trans (htc.below hbA.size (fun x hx e => by have e : x = w8.1.size := e; omega))
   have HOUT : Hid (OutM V.1.size (w8.1.size) a.sets (.slice A8 (leftL (simL a) a.init).length c8) (leftL (simL a) a.init) (.slice none 0 0) [] [] wF) := dh ⟨hset, own_base hof (Nat.zero_le _), NodesM.nil _ _⟩
   have HBF := dh hbF
   have OB0 := dh ob0
   clear hset htc hof
   go_simp
   try rw [hwF]
   refine hK.out _ _ ⟨(HCV.out _ hbF).1, (HCV.out _ hbF).2.1⟩ (fun hS => ?_)
   clear hK
   refine wpAnyH_done (by kernel_rfl) ?_ _
   go_wp2_with fail
   go_meet
   case rel => exact ⟨_, _, rfl, OB0.out, HOUT, HBF⟩
  ·skip
   obtain ⟨wA, hwA⟩ := xQ (V.drew.alloc (.cells #[.int .i64 0, .slice none 0 0, .slice none 0 0] 25))
   have hbA : Below V.1.size V wA := by rw [← hwA]; exact (Below.drew bR).alloc lR _
   have hzA : wA.1.size = V.1.size + 1 := by rw [← hwA]; simp
   have haA : wA.1[V.1.size]? = some (.cells #[.int .i64 0, .slice none 0 0, .slice none 0 0] 25) := by rw [← hwA]; exact heap_alloc_new V.drew _
   go_simp
   refine hK.out _ _ ⟨(HCV.out _ hbA).1, (HCV.out _ hbA).2.1⟩ (fun hS => ?_)
   clear hK
   refine oneH 5 (fun K hK => ?_)
   go_simp
   refine (HLF.out _ a.init Ai ni ci hbA ((HRV.out.below hbA hBV).init.up (show B ≤ _ by first | exact hBV | exact Nat.le_trans hBV hbA.size)) (fun t ht => by rw [HNN.out]; exact HOK.out.1 t ht) hri HRV.out.eni).mono ?_
   rintro e w8 ⟨v8, rfl, ho8, hb8'⟩
   have hb8 : Below V.1.size V w8 := hbA.trans (hb8'.mono hbA.size)
   obtain ⟨A8, c8, rfl, -⟩ := own_sl ho8
   have ha8 : w8.1[V.1.size]? = some (.cells #[.int .i64 0, .slice none 0 0, .slice none 0 0] 25) := (hb8'.block V.1.size (by rw [hzA]; omega)).trans haA
   dsimp only
   refine hK.out _ _ ⟨(HCV.out _ hb8).1, (HCV.out _ hb8).2.1⟩ (fun hS => ?_)
   clear hK
   refine tkH 6 ?_
   refine oneH 8 (fun K hK => ?_)
   obtain ⟨y0, y1, y2⟩ := box3A ha8
   have f0 := frozen_of_row w8 _ 0 _ _ ha8
   have f1 := frozen_of_row w8 _ 1 _ _ ha8
   have f2 := frozen_of_row w8 _ 2 _ _ ha8
   have yl : V.1.size < w8.1.size := (aI.1 ha8).1
   have ob0 : V.1.size ≤ V.1.size := by first | exact lR | exact hb8.size
   have hset := set3A (a := .int .i64 a.sets) (b := .slice A8 (leftL (simL a) a.init).length c8) (c := .slice none 0 0) ha8 rfl
   have htc := tch3A w8 (V.1.size) (.int .i64 a.sets) (.slice A8 (leftL (simL a) a.init).length c8) (.slice none 0 0)
   have hof := own_tch ho8 htc (fun g hg e => own_ne_blk ho8 ha8 (by decide) (by rw [hg, e]))
   obtain ⟨wF, hwF⟩ := xQ (((w8.setCell ⟨V.1.size, 0, none⟩ (.int .i64 a.sets)).setCell ⟨V.1.size, 1, none⟩ (.slice A8 (leftL (simL a) a.init).length c8)).setCell ⟨V.1.size, 2, none⟩ (.slice none 0 0))
   rw [hwF] at hset htc hof
   have hbF : Below V.1.size V wF := hb8.trans (htc.below hb8.size (fun x hx e => by have e : x = V.1.size := e; omega))
   have HOUT : Hid (OutM V.1.size (V.1.size) a.sets (.slice A8 (leftL (simL a) a.init).length c8) (leftL (simL a) a.init) (.slice none 0 0) [] [] wF) := dh ⟨hset, own_base hof (Nat.zero_le _), NodesM.nil _ _⟩
   have HBF := dh hbF
   have OB0 := dh ob0
   clear hset htc hof
   go_simp
   try rw [hwF]
   refine hK.out _ _ ⟨(HCV.out _ hbF).1, (HCV.out _ hbF).2.1⟩ (fun hS => ?_)
   clear hK
   refine wpAnyH_done (by kernel_rfl) ?_ _
   go_wp2_with fail
   go_meet
   case rel => exact ⟨_, _, rfl, OB0.out, HOUT, HBF⟩
 case rest =>
  obtain ⟨ob, vi, rfl, hob, HOUT, HBF⟩ := hcut
  obtain ⟨q0, q1, q2⟩ := HCV.out wc HBF.out
  clear x0 x1
  go_wp2_with fail
  clear q0 q1 q2
  go_loopw [6, 23] (fun _ i wr' => ∃ (k : Nat) (vn : Value) (xs : List Value), k ≤ nn ∧ i = .int .i64 (k : Int) ∧ Hid (OutM V.1.size ob a.sets vi (leftL (simL a) a.init) vn ((ks.take k).map (fun i => (a.at i).put (leftL (simL a) (a.at i).to))) xs wr') ∧ Hid (Below V.1.size V wr')) (fun _ i _ => nn - (intOf i).toNat)
  case atStart => exact ⟨0, _, _, by omega, rfl, dh (by rw [List.take_zero]; exact HOUT.out), HBF⟩
  case round =>
   obtain ⟨k, vn, xs, hk, rfl, HOm, HBm⟩ := hrel
   clear HOUT HBF
   by_cases hlt : k < nn
   ·have wk : IntKind.i64.wrap ((k : Int) + 1) = (k : Int) + 1 := by rw [wI]; omega
    have hk0 : (0 : Int) ≤ (k : Int) := by omega
    have hk1 : (k : Int) < (nn : Int) := by omega
    obtain ⟨q0, q1, q2⟩ := HCV.out wr HBm.out
    have hRX := HRV.out.below HBm.out hBV
    have hcn := (Exists.choose_spec hRX.nodes).1.cap
    have hmn := (Exists.choose_spec hRX.nodes).1.max
    unfold maxLen at hmn
    obtain ⟨bx, ox, nd, At, ct, hAn, hbx, hnd', d0, d1, d2, d3, hst⟩ := rd_aut hRX hlt
    obtain ⟨q, hq⟩ := xR k
    have HND : Hid (a.at q = nd) := dh (by rw [hq]; unfold Aut.at; rw [gD, hnd']; rfl)
    have HNM := dh (List.mem_of_getElem? hnd')
    have HSR : Hid (ks.take (k + 1) = ks.take k ++ [q]) := dh (by subst hq; rw [take_snoc ks q (by omega)]; congr 2; simp [← HKS.out])
    have HST := dh hst
    subst hAn
    clear hRX hnd' hst hq
    obtain ⟨Av, cv, rfl, -⟩ := own_sl HOm.out.nodes.own
    obtain ⟨ns, hns⟩ := xQ ((ks.take k).map (fun i => (a.at i).put (leftL (simL a) (a.at i).to)))
    have hnl : ns.length = k := by rw [← hns, List.length_map, List.length_take]; omega
    rw [hns, hnl] at HOm
    have HNS := dh hns
    have HNL := dh hnl
    obtain ⟨XA, hXA⟩ := xQ (wr.alloc (.cells #[.int .u64 (nd.need : Int), .int .u64 (nd.ban : Int), .int .u64 (nd.inn : Int), .slice At nd.to.length ct] 43))
    have hbXA : Below wr.1.size wr XA := by rw [← hXA]; exact bR.alloc lR _
    have hzXA : XA.1.size = wr.1.size + 1 := by rw [← hXA]; simp
    have hxA : XA.1[wr.1.size]? = some (.cells #[.int .u64 (nd.need : Int), .int .u64 (nd.ban : Int), .int .u64 (nd.inn : Int), .slice At nd.to.length ct] 43 (0, 0)) := by rw [← hXA]; exact heap_alloc_new wr _
    have HXC := dh hxA
    have HXA := dh hXA
    have HBA := dh (HBm.out.trans (hbXA.mono HBm.out.size))
    have HOA := dh (HOm.out.below hbXA)
    have HSTA := dh ((HST.out.below hbXA (show B ≤ wr.1.size by have := HBm.out.size; omega)).up (show B ≤ XA.1.size by have := HBm.out.size; omega))
    have HVG := dh (fun g (hg : (Value.slice Av k cv).ownBlock = some g) => (HOm.out.nodes.own.lt g hg).2)
    have hXAz := HBA.out.size
    clear hXA hbXA hxA hns hnl
    go_upto_region 8 with fail
    rw [HXA.out]
    obtain ⟨s0, s1, s2, s3⟩ := box4A HXC.out
    obtain ⟨r0, r1, r2⟩ := HOA.out.cells
    clear r0 r1 q0 q1 q2 d0 d1 d2 d3
    refine wp_region_U (S := fun w' => w'.cell? ⟨ob, 2, none⟩ = some (.slice Av k cv) ∧ w'.cell? ⟨wr.1.size, 0, none⟩ = some (.int .u64 (nd.need : Int)) ∧ w'.cell? ⟨wr.1.size, 1, none⟩ = some (.int .u64 (nd.ban : Int)) ∧ w'.cell? ⟨wr.1.size, 2, none⟩ = some (.int .u64 (nd.inn : Int)) ∧ w'.cell? ⟨wr.1.size, 3, none⟩ = some (.slice At nd.to.length ct)) 16 (by kernel_rfl) (⟨r2, s0, s1, s2, s3⟩) (fun hS => ?_)
    refine tkU 0 [] ?_
    refine tkU 1 [] ?_
    refine tkU 2 [] ?_
    refine tkU 3 [] ?_
    refine tkU 4 [] ?_
    refine tkU 5 [] ?_
    refine tkU 6 [] ?_
    refine tkU 7 [] ?_
    refine tkU 8 [] ?_
    refine tkU 9 [] ?_
    refine tkU 10 [] ?_
    refine wpAnyU_oneD (i := 11) rfl (by kernel_rfl) (fun K hK => ?_)
    go_simp
    refine (HLF.out _ nd.to At _ ct (Below.drew HBA.out) (HSTA.out.below (B' := XA.1.size) (Below.drew bR) lR) (fun t ht => by rw [HNN.out]; exact HOK.out.2 nd HNM.out t ht) (by have := HHR.out nd HNM.out; omega) rfl).mono ?_
    rintro e w8 ⟨v8, rfl, ho8, hb8'⟩
    have hb8 : Below XA.1.size XA w8 := below_undrew hb8'
    obtain ⟨A8, c8, rfl, -⟩ := own_sl ho8
    have HO8 := dh ho8
    have HB8 := dh hb8
    have HOM8 := dh (HOA.out.below hb8)
    have S8 : Hid (∀ W', Below w8.1.size w8 W' → W'.cell? ⟨wr.1.size, 0, none⟩ = some (.int .u64 (nd.need : Int)) ∧ W'.cell? ⟨wr.1.size, 1, none⟩ = some (.int .u64 (nd.ban : Int)) ∧ W'.cell? ⟨wr.1.size, 2, none⟩ = some (.int .u64 (nd.inn : Int)) ∧ W'.cell? ⟨wr.1.size, 3, none⟩ = some (.slice At nd.to.length ct)) := dh (fun W' hb => box4A ((hb.block wr.1.size (by have := HB8.out.size; omega)).trans ((HB8.out.block wr.1.size (by omega)).trans HXC.out)))
    clear ho8 hb8' hb8
    dsimp only
    refine hK.out _ _ ⟨HOM8.out.cells.2.2, S8.out _ bR⟩ (fun hS => ?_)
    clear hK
    refine tkU 12 [] ?_
    refine wpAnyU_oneD (i := 13) rfl (by kernel_rfl) (fun K hK => ?_)
    go_simp
    have tb := heap_alloc_new w8 (.cells #[.int .u64 (nd.need : Int), .int .u64 (nd.ban : Int), .int .u64 (nd.inn : Int), .slice A8 (leftL (simL a) nd.to).length c8] 43)
    obtain ⟨wY, hwY⟩ := xQ (w8.alloc (.cells #[.int .u64 (nd.need : Int), .int .u64 (nd.ban : Int), .int .u64 (nd.inn : Int), .slice A8 (leftL (simL a) nd.to).length c8] 43))
    have hbY : Below w8.1.size w8 wY := by rw [← hwY]; exact bR.alloc lR _
    have hOY := HOM8.out.below hbY
    have hz8 := HB8.out.size
    rw [hwY] at tb ⊢
    have HWY := dh hwY
    have hzY : wY.1.size = w8.1.size + 1 := by rw [← hwY]; simp
    clear hwY
    refine hK.out _ _ ⟨hOY.cells.2.2, S8.out _ hbY⟩ (fun hS => ?_)
    clear hK
    refine wpAnyU_oneD (i := 14) rfl (by kernel_rfl) (fun K hK => ?_)
    refine step_push rfl (.tmp 28) (.tmp 40) 23 rfl V.1.size 43 4 48 sliceANd _ _ _ hOY.nodes.own (by rfl) w8.1.size #[.int .u64 (nd.need : Int), .int .u64 (nd.ban : Int), .int .u64 (nd.inn : Int), .slice A8 (leftL (simL a) nd.to).length c8] (by rfl) tb rfl (by simp [Value.oneCell']) (by have := HNL.out; omega) (by omega) (by have := HBA.out.size; omega) ?_
    intro uZ wZ hownZ htZ hatZ _
    obtain ⟨gZ, cZ, hu⟩ := ownsRow_succ hownZ
    rw [HNL.out] at hu
    subst hu
    rw [← HWY.out] at htZ
    have hpush := HOM8.out.push (x := nd.put (leftL (simL a) nd.to)) (own_base HO8.out (Nat.zero_le _)) hownZ htZ
    obtain ⟨⟨fz, lz, cz⟩, hOZ⟩ := hpush
    have htz := Tch.trans ((Tch.refl _ w8).alloc _) htZ (fun _ _ e => e)
    have sz := box4A ((htz.block wr.1.size (by omega) (fun e => by have := HVG.out _ e; omega)).trans ((HB8.out.block wr.1.size (by omega)).trans HXC.out))
    have HOZ := dh hOZ
    have HBZ := dh ((HBA.out.trans (HB8.out.mono HBA.out.size)).trans (htz.below (show V.1.size ≤ w8.1.size by have := HBA.out.size; omega) (fun q hq e => by have := (HOM8.out.nodes.own.lt q e).1; omega)))
    clear hOZ htZ htz hatZ hownZ
    refine hK.out _ _ ⟨cz, sz⟩ (fun hS => ?_)
    clear hK
    refine tkU 15 [] ?_
    refine wpAnyU_lastD (i := 16) rfl (by kernel_rfl) (by kernel_rfl) (fun K hK => ?_)
    go_simp
    refine hK.out _ _ ?_
    clear hK
    refine wpAnyU_done (by kernel_rfl) ?_
    clear hS r2 s0 s1 s2 s3
    have hO := HOZ.out
    rw [← HND.out] at hO
    have hmp : (ks.take (k + 1)).map (fun i => (a.at i).put (leftL (simL a) (a.at i).to)) = ns ++ [(a.at q).put (leftL (simL a) (a.at q).to)] := by rw [HSR.out, List.map_append, HNS.out]; rfl
    rw [← hmp] at hO
    have HOF := dh hO
    have HBG := dh (HBZ.out.setCell (p := ⟨ob, 2, none⟩) (show V.1.size ≤ ob from hob) (.slice (some ⟨gZ, 0, none⟩) (k + 1) cZ))
    clear hO hmp fz lz cz sz
    go_wp2_with fail
    go_roundw
    case rel => exact ⟨k + 1, _, _, by omega, congrArg (Value.int .i64) (by omega), HOF, HBG⟩
    case measure => simp [intOf]; omega
   ·have hkn : k = nn := by omega
    have hle : ¬ (k : Int) < (nn : Int) := by omega
    rw [hkn, tL (by omega)] at HOm
    clear hkn
    have hout := HOm.out
    obtain ⟨Ai', ci', An', cn', hvi, hvn, -⟩ := hout.rd
    obtain ⟨n1, hn1⟩ := xQ (leftL (simL a) a.init).length
    obtain ⟨n2, hn2⟩ := xQ (ks.map (fun i => (a.at i).put (leftL (simL a) (a.at i).to))).length
    rw [hn1] at hvi
    rw [hn2] at hvn
    rw [hvi, hvn] at hout
    have HOX := dh hout
    obtain ⟨r0, r1, r2⟩ := hout.cells
    have hy := (HBm.out.block (w.1.size + 1) hyV).trans HYV.out
    obtain ⟨y0, y1, y2⟩ := box3A hy
    have f0 : wr.frozen? ⟨w.1.size + 1, 0, none⟩ = false := frozen_of_row wr _ 0 _ _ hy
    have f1 : wr.frozen? ⟨w.1.size + 1, 1, none⟩ = false := frozen_of_row wr _ 1 _ _ hy
    have f2 : wr.frozen? ⟨w.1.size + 1, 2, none⟩ = false := frozen_of_row wr _ 2 _ _ hy
    have yl : w.1.size + 1 < wr.1.size := (aI.1 hy).1
    have HY := dh hy
    clear hn1 hn2 hvi hvn hout hy
    go_wp2_with fail
    have hset := set3A (a := .int .i64 a.sets) (b := .slice Ai' n1 ci') (c := .slice An' n2 cn') HY.out rfl
    have htc := tch3A wr (w.1.size + 1) (.int .i64 a.sets) (.slice Ai' n1 ci') (.slice An' n2 cn')
    obtain ⟨Y, hY⟩ := xQ (((wr.setCell ⟨w.1.size + 1, 0, none⟩ (.int .i64 a.sets)).setCell ⟨w.1.size + 1, 1, none⟩ (.slice Ai' n1 ci')).setCell ⟨w.1.size + 1, 2, none⟩ (.slice An' n2 cn'))
    rw [hY] at hset htc ⊢
    clear hY y0 y1 y2 f0 f1 f2 r0 r1 r2
    have hOY := HOX.out.keep htc (fun e => by have e : ob = w.1.size + 1 := e; omega) (fun g hg e => by have e : g = w.1.size + 1 := e; exact own_ne_blk HOX.out.nodes.own HY.out (by decide) (by rw [hg, e])) (fun u' n ys ho g hg e => by have e : g = w.1.size + 1 := e; exact own_ne_blk ho HY.out (by decide) (by rw [hg, e]))
    have hbY : Below w.1.size w Y := (HBW.out.trans (HBm.out.mono HBW.out.size)).trans (htc.below (show w.1.size ≤ wr.1.size by omega) (fun y hy e => by have e : y = w.1.size + 1 := e; omega))
    obtain ⟨g0, g1, g2⟩ := box3A hset
    have hfin : AutOneS w (pruneA a) (.returned (.agg #[.int .i64 a.sets, .slice Ai' n1 ci', .slice An' n2 cn'])) Y := by
     rw [HGE.out]
     obtain ⟨_, _, _, _, e1, e2, hrd⟩ := hOY.rd
     cases e1
     cases e2
     exact ⟨_, _, _, _, _, _, rfl, hrd, hbY, hOY.sep⟩
    refine bodyPost_ret (v := .agg #[.int .i64 a.sets, .slice Ai' n1 ci', .slice An' n2 cn']) ?_ rfl ?_
    ·simp [results, Tryd.results18, go_sem, g0, g1, g2]
    ·exact hfin
end Go.Proofs.YtiebpncpdbnelaaDoor
