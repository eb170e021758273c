/- The walk of layer 33's reference: Merge. -/
import Derived.Test.YtiebpncpdbnelaaGreatDoorZbx
set_option maxHeartbeats 16000000
set_option maxRecDepth 100000
namespace Go.Proofs.YtiebpncpdbnelaaGreatDoor
open Go.RowKit
theorem merge33R_any (a : Aut) (Ai : Option Addr) (ni ci : Nat) (An : Option Addr) (nn cn : Nat) (w : World) (B : Nat) (h : AutRd w B a Ai ni ci An nn cn) (hB : B ≤ w.1.size) (hck : chkA a = 0) (hnd : ∀ x ∈ a.nodes, x.need < 2 ^ 64 ∧ x.ban < 2 ^ 64) (hinn : ∀ x ∈ a.nodes, x.inn < 2 ^ 64) (KE : Nat) (hr : ∀ x ∈ a.nodes, x.to.length ≤ KE) (hri : a.init.length ≤ 1000000) (hKE : KE ≤ 1000000) :
  Calls Tryz.prog 19 #[.agg #[.int .i64 a.sets, .slice Ai ni ci, .slice An nn cn]] w (AutOneS w (mergeA a)) := by
 obtain ⟨hb0, x0, y0, z0⟩ := two_new w (.cells #[.int .i64 a.sets, .slice Ai ni ci, .slice An nn cn] 25) (.cells #[.int .i64 0, .slice none 0 0, .slice none 0 0] 25)
 obtain ⟨W0, hW0⟩ := xQ ((w.alloc (.cells #[.int .i64 a.sets, .slice Ai ni ci, .slice An nn cn] 25)).alloc (.cells #[.int .i64 0, .slice none 0 0, .slice none 0 0] 25))
 rw [hW0] at hb0 x0 y0 z0
 have HR0 := dh (h.below hb0 hB)
 have HC0 := dh (chkR_any a Ai ni ci An nn cn W0 B HR0.out (by omega))
 obtain ⟨hn256, -, hA, -⟩ := chk_iff.1 hck
 have HNN := dh h.enn
 have hnn : nn ≤ 256 := by rw [HNN.out]; exact hn256
 have HW0 := dh hW0
 have HB0 := dh hb0
 have HOK := dh hA
 have HX0 := dh x0
 have HY0 := dh y0
 have hBw : B ≤ W0.1.size := by omega
 have hww : w.1.size + 1 < W0.1.size := by omega
 have HCL : Hid (∀ W', Below W0.1.size W0 W' → W'.cell? ⟨w.1.size, 0, none⟩ = some (.int .i64 a.sets) ∧ W'.cell? ⟨w.1.size, 1, none⟩ = some (.slice Ai ni ci) ∧ W'.cell? ⟨w.1.size, 2, none⟩ = some (.slice An nn cn)) := dh (fun W' hb => box3A ((hb.block w.1.size (by omega)).trans HX0.out))
 have HHR := dh hr
 have HLK : Hid (∀ W', Below W0.1.size W0 W' → Calls Tryz.prog 41 #[.agg #[.int .i64 a.sets, .slice Ai ni ci, .slice An nn cn]] W' (IntsPost W' (natI (likeL (simL a) nn)))) := dh (fun W' hb => like33_any a Ai ni ci An nn cn W' B (HR0.out.below hb hBw) (Nat.le_trans hBw hb.size) hck (fun x hx => ⟨(hnd x hx).1, (hnd x hx).2, hinn x hx⟩) (fun x hx => Nat.le_trans (hr x hx) hKE))
 have HCK := dh hck
 have HLI : Hid (∀ k, k < nn → likeF (simL a) (likeF (simL a) k) = likeF (simL a) k) := dh (fun k hk => like_like hA (by rw [← HNN.out]; exact hk))
 clear hW0 hb0 x0 y0 z0 h hnd hinn hr hA hck
 go_enter Tryz.func19, Tryz.ntmps19
 go_upto_region 1 with fail
 rw [HW0.out]
 obtain ⟨q0, q1, q2⟩ := HCL.out W0 bR
 go_wp2_with fail
 refine HC0.out.mono ?_
 rintro e w1 ⟨rfl, hb1⟩
 rw [HCK.out]
 have HB1 := dh hb1
 have hz1 := hb1.size
 clear q0 q1 q2 hb1
 obtain ⟨q0, q1, q2⟩ := HCL.out w1 HB1.out
 go_wp2_with fail
 refine (HLK.out _ HB1.out).mono ?_
 rintro e D ⟨vL, rfl, hoL, hbD⟩
 have hlL : (natI (likeL (simL a) nn)).length = nn := by rw [natI, List.length_map, likeL_len]
 rw [hlL] at hoL
 obtain ⟨Ak, cL, rfl, hsL⟩ := own_sl hoL
 have HSL := dh hsL
 have HLL0 := dh hlL
 have HBD := dh (HB1.out.trans (hbD.mono hz1))
 have hzD := HBD.out.size
 have hcL := hsL.cap
 have hmL := hsL.max
 unfold maxLen at hmL
 have hmk := run_make_row' (P := Tryz.prog) 22 3 (.int .i64 0) 8 Tryz.underlying22 infoInt rfl .i64 .i64 nn (by omega) (by omega)
 obtain ⟨W5, hW5⟩ := xQ (D.alloc (.cells (madeCells #[.int .i64 0] nn) 3))
 have hb5 : Below D.1.size D W5 := by rw [← hW5]; exact bR.alloc lR _
 have hz5 : W5.1.size = D.1.size + 1 := by rw [← hW5]; simp
 have hr5 : W5.ownsRow D.1.size 3 1 (.slice (some ⟨D.1.size, 0, none⟩) nn nn) nn (icells (List.replicate nn 0)) := by
  have h1 := own_made (w := D) (base := D.1.size) (e := 3) (v := .int .i64 0) (n := nn) lR (by unfold maxLen; omega)
  rw [hW5] at h1
  have e : icells (List.replicate nn 0) = List.replicate nn (.int .i64 0) := by simp [icells]
  rw [e]
  exact h1
 have HR5 := dh hr5
 have HB5 := dh (HBD.out.trans (hb5.mono hzD))
 have HD5 := dh hb5
 obtain ⟨u, hu⟩ := xQ (leadL (simL a) a.nodes.length)
 have HUY : Hid (∀ k, k < nn → (u.getD k false = true ↔ likeF (simL a) k = k)) := dh (fun k hk => by rw [← hu]; exact lead_at (by rw [← HNN.out]; exact hk))
 have HNM : Hid (∀ k, numM (simL a) a.nodes.length k = numC u (likeF (simL a) k)) := dh (fun k => by rw [← hu]; rfl)
 clear hu
 have HLS : Hid (∀ k, k < nn → (natI (likeL (simL a) nn))[k]? = some ((likeF (simL a) k : Nat) : Int)) := dh (fun k hk => by simp [natI, likeL, hk])
 go_upto_region 5 with fail
 clear hmk hW5 hr5 hb5 hoL hsL hbD hlL q0 q1 q2
 go_wp2_with fail
 go_loopw [5, 6] (fun o i wr => ∃ (k : Nat) (nl : List Int), k ≤ nn ∧ o = .int .i64 ((numC u k : Nat) : Int) ∧ i = .int .i64 (k : Int) ∧ Hid (wr.ownsRow D.1.size 3 1 (.slice (some ⟨D.1.size, 0, none⟩) nn nn) nn (icells nl)) ∧ Hid (∀ i, i < k → nl.getD i 0 = ((numM (simL a) a.nodes.length i : Nat) : Int)) ∧ Hid (Tch (fun x => x = D.1.size) W5 wr)) (fun _ i _ => nn - (intOf i).toNat)
 case atStart => exact ⟨0, _, by omega, rfl, rfl, HR5, dh (fun i hi => absurd hi (Nat.not_lt_zero _)), dh (Tch.refl _ _)⟩
 case round =>
  obtain ⟨k, nl, hk, rfl, rfl, HRr, HAr, HTr⟩ := hrel
  have hzr := HTr.out.size
  have hbr : Below D.1.size D wr := HD5.out.trans (HTr.out.below (show D.1.size ≤ W5.1.size by omega) (fun x hx e => by have e : x = D.1.size := e; omega))
  by_cases hlt : k < nn
  ·have wk : IntKind.i64.wrap ((k : Int) + 1) = (k : Int) + 1 := by rw [wI]; omega
   have hle : numC u k ≤ k := numC_le k
   have wn : IntKind.i64.wrap (((numC u k : Nat) : Int) + 1) = ((numC u k : Nat) : Int) + 1 := by rw [wI]; omega
   have hk0 : (0 : Int) ≤ (k : Int) := by omega
   have hk1 : (k : Int) < (nn : Int) := by omega
   have hnl : nl.length = nn := by have := HRr.out.1; rw [icells_len] at this; omega
   obtain ⟨bL, oL, hAL, hblL, hcl⟩ := (HSL.out.below hbr lR).rd.at_ (j := k) (by rw [icells, List.getElem?_map, HLS.out k hlt]; rfl)
   subst hAL
   have kU : wr.cell? ⟨D.1.size, k, none⟩ = some (.int .i64 (nl.getD k 0)) := by
    rw [HRr.out.cellAt k (by omega)]
    simp [icells, List.getD, show k < nl.length by omega]
   have fU := HRr.out.frozenAt k
   have zU := (HRr.out.lt D.1.size rfl).2
   have HUK := dh (HUY.out k hlt)
   have HNK := dh (HNM.out k)
   have hpl : likeF (simL a) k ≤ k := like_le _ _
   have HL2 := dh (HLI.out k hlt)
   obtain ⟨p, hp⟩ := xQ (likeF (simL a) k)
   rw [hp] at hcl HUK HNK hpl HL2
   clear hp
   by_cases hpk : p = k
   ·subst hpk
    have hub : u.getD p false = true := HUK.out.2 rfl
    have HN := dh (show numC u (p + 1) = numC u p + 1 by rw [numC_succ, hub]; simp)
    have hpp : ((p : Int) == (p : Int)) = true := by simp
    clear hub hbr
    go_wp2_with fail
    go_roundw
    case rel => exact ⟨p + 1, nl.set p ((numC u p : Nat) : Int), by omega, by rw [HN.out]; exact congrArg (Value.int .i64) (by omega), congrArg (Value.int .i64) (by omega), dh (by have := (HRr.out.stored p (.int .i64 ((numC u p : Nat) : Int))).1; rw [icells, List.map_set]; exact this), dh (fun i hi => by
     by_cases e : i = p
     ·subst e; rw [gD, List.getElem?_set_self (by omega), HNK.out]; rfl
     ·rw [gD, List.getElem?_set_ne (by omega), ← gD]; exact HAr.out i (by omega)), dh (HTr.out.then_ (tch_cell (w := wr) D.1.size p _))⟩
    case measure => simp [intOf]; omega
   ·have hub : u.getD k false = false := by
     cases hv : u.getD k false
     ·rfl
     ·exact absurd (HUK.out.1 hv) hpk
    have HN := dh (show numC u (k + 1) = numC u k by rw [numC_succ, hub]; simp)
    have hpp : ((p : Int) == (k : Int)) = false := by simp; omega
    have hpn : (p : Int) < (nn : Int) := by omega
    have hp0 : (0 : Int) ≤ (p : Int) := by omega
    have hap := HAr.out p (by omega)
    rw [HNM.out p, HL2.out, ← HNK.out] at hap
    have kP : wr.cell? ⟨D.1.size, p, none⟩ = some (.int .i64 ((numM (simL a) a.nodes.length k : Nat) : Int)) := by
     rw [← hap, HRr.out.cellAt p (by omega)]
     simp [icells, List.getD, show p < nl.length by omega]
    obtain ⟨nk, hnk⟩ := xQ (numM (simL a) a.nodes.length k)
    have HNK2 := dh hnk
    rw [hnk] at kP
    clear hnk
    clear hub hbr hap
    go_wp2_with fail
    go_roundw
    case rel => exact ⟨k + 1, nl.set k ((nk : Nat) : Int), by omega, by rw [HN.out], congrArg (Value.int .i64) (by omega), dh (by have := (HRr.out.stored k (.int .i64 ((nk : Nat) : Int))).1; rw [icells, List.map_set]; exact this), dh (fun i hi => by
     by_cases e : i = k
     ·subst e; rw [gD, List.getElem?_set_self (by omega), HNK2.out]; rfl
     ·rw [gD, List.getElem?_set_ne (by omega), ← gD]; exact HAr.out i (by omega)), dh (HTr.out.then_ (tch_cell (w := wr) D.1.size k _))⟩
    case measure => simp [intOf]; omega
  ·have hkn : k = nn := by omega
   have hAn : ∀ i, i < nn → nl.getD i 0 = ((numM (simL a) a.nodes.length i : Nat) : Int) := by have := HAr.out; rwa [hkn] at this
   obtain ⟨f, hf⟩ := xQ (numM (simL a) a.nodes.length)
   rw [hf] at hAn
   have HF := dh hf
   have HAN := dh hAn
   obtain ⟨V, hV⟩ : ∃ X : World, X = wr := ⟨_, rfl⟩
   have HBV : Hid (Below W0.1.size W0 V) := dh (by rw [hV]; exact HBD.out.trans (hbr.mono hzD))
   have HDV : Hid (Below D.1.size D V) := dh (by rw [hV]; exact hbr)
   have hzV := HBV.out.size
   have hzDV := HDV.out.size
   have HCV : Hid (∀ W', Below V.1.size V W' → W'.cell? ⟨w.1.size, 0, none⟩ = some (.int .i64 a.sets) ∧ W'.cell? ⟨w.1.size, 1, none⟩ = some (.slice Ai ni ci) ∧ W'.cell? ⟨w.1.size, 2, none⟩ = some (.slice An nn cn)) := dh (fun W' hb => HCL.out W' (HBV.out.trans (hb.mono hzV)))
   have HRV := dh (HR0.out.below HBV.out hBw)
   have hBV : B ≤ V.1.size := by omega
   have HYV := dh ((HBV.out.block (w.1.size + 1) hww).trans HY0.out)
   have hyV : w.1.size + 1 < V.1.size := by omega
   have HBW := dh (HB0.out.trans (HBV.out.mono (show w.1.size ≤ W0.1.size by omega)))
   have hrv : V.ownsRow D.1.size 3 1 (.slice (some ⟨D.1.size, 0, none⟩) nn nn) nn (icells nl) := by rw [hV]; exact HRr.out
   obtain ⟨A', c', hf', hsV⟩ := own_sl hrv
   cases hf'
   have HLF : Hid (∀ (W' : World) (l : List Int) (A : Option Addr) (n c : Nat), Below V.1.size V W' → Sl W' W'.1.size 1 A n c (icells l) → (∀ t ∈ l, isNd nn t = true) → l.length ≤ 1000000 → n = l.length → Calls Tryz.prog 42 #[.slice A n c, .slice (some ⟨D.1.size, 0, none⟩) nn nn] W' (IntsPost W' (onceI f l))) := dh (fun W' l A n c hb hs hl hll hn =>
    once33_any f l A n c (some ⟨D.1.size, 0, none⟩) nn nn nl W' W'.1.size hs ((hsV.below hb lR).up hb.size) lR hn (by omega) HAN.out hl)
   obtain ⟨ks, hks⟩ := xQ (leadU a nn)
   have HKS := dh hks
   have HGE : Hid (mergeA a = ⟨a.sets, onceI f a.init, ks.map (fun i => (a.at i).put (onceI f (a.at i).to))⟩) := dh (by
    rw [← HKS.out, ← HF.out, HNN.out]; rfl)
   rw [← hV]
   clear hV hrv hsV HTr HRr hzr hkn hAn hf hks hbr
   go_upto_region 13 with fail
   obtain ⟨x0, x1, -⟩ := HCV.out V bR
   go_cut [7] from 8 (fun p wF => ∃ ob vi, p = .pointer (some ⟨ob, 0, none⟩) ∧ V.1.size ≤ ob ∧ Hid (OutM V.1.size ob a.sets vi (onceI f a.init) (.slice none 0 0) [] [] wF) ∧ Hid (Below V.1.size V wF))
   case first =>
    refine wp_region_held_drew (S := fun w' => w'.cell? ⟨w.1.size, 0, none⟩ = some (.int .i64 a.sets) ∧ w'.cell? ⟨w.1.size, 1, none⟩ = some (.slice Ai ni ci)) (by kernel_rfl) ⟨x0, x1⟩ (fun hS => ?_)
    refine tkH 0 ?_
    refine tkH 1 ?_
    refine tkH 2 ?_
    refine tkH 3 ?_
    refine tkH 4 ?_
    refine wpAnyH_ready (rs := [5, 7]) (by kernel_rfl) (by simp) ?_
    refine (allReadyH_consD (i := 5) rfl (fun K hK => ?_) (allReadyH_consD (i := 7) rfl (fun K hK => ?_) AllReadyH.nil))
    ·skip
     go_simp
     refine (HLF.out _ a.init Ai ni ci (Below.drew bR) ((HRV.out.below (Below.drew bR) hBV).init.up (show B ≤ _ by first | exact hBV | exact Nat.le_trans hBV hbA.size)) (fun t ht => by rw [HNN.out]; exact HOK.out.1 t ht) hri HRV.out.eni).mono ?_
     rintro e w8 ⟨v8, rfl, ho8, hb8'⟩
     have hb8 : Below V.1.size V w8 := below_undrew hb8'
     obtain ⟨A8, c8, rfl, -⟩ := own_sl ho8
     dsimp only
     refine hK.out _ _ ⟨(HCV.out _ hb8).1, (HCV.out _ hb8).2.1⟩ (fun hS => ?_)
     clear hK
     refine tkH 6 ?_
     refine oneH 7 (fun K hK => ?_)
     obtain ⟨wA, hwA⟩ := xQ (w8.alloc (.cells #[.int .i64 0, .slice none 0 0, .slice none 0 0] 25))
     have hbA : Below V.1.size V wA := by rw [← hwA]; exact hb8.alloc hb8.size _
     have hzA : wA.1.size = w8.1.size + 1 := by rw [← hwA]; simp
     have haA : wA.1[w8.1.size]? = some (.cells #[.int .i64 0, .slice none 0 0, .slice none 0 0] 25) := by rw [← hwA]; exact heap_alloc_new w8 _
     have hoA := own_below ho8 (by rw [← hwA]; exact bR.alloc lR _ : Below w8.1.size w8 wA)
     go_simp
     refine hK.out _ _ ⟨(HCV.out _ hbA).1, (HCV.out _ hbA).2.1⟩ (fun hS => ?_)
     clear hK
     refine oneH 8 (fun K hK => ?_)
     obtain ⟨y0, y1, y2⟩ := box3A haA
     have f0 := frozen_of_row wA _ 0 _ _ haA
     have f1 := frozen_of_row wA _ 1 _ _ haA
     have f2 := frozen_of_row wA _ 2 _ _ haA
     have yl : w8.1.size < wA.1.size := (aI.1 haA).1
     have ob0 : V.1.size ≤ w8.1.size := by first | exact lR | exact hb8.size
     have hset := set3A (a := .int .i64 a.sets) (b := .slice A8 (onceI f a.init).length c8) (c := .slice none 0 0) haA rfl
     have htc := tch3A wA (w8.1.size) (.int .i64 a.sets) (.slice A8 (onceI f a.init).length c8) (.slice none 0 0)
     have hof := own_tch hoA htc (fun g hg e => own_ne_blk hoA haA (by decide) (by rw [hg, e]))
     obtain ⟨wF, hwF⟩ := xQ (((wA.setCell ⟨w8.1.size, 0, none⟩ (.int .i64 a.sets)).setCell ⟨w8.1.size, 1, none⟩ (.slice A8 (onceI f a.init).length c8)).setCell ⟨w8.1.size, 2, none⟩ (.slice none 0 0))
     rw [hwF] at hset htc hof
     have hbF : Below V.1.size V wF := hbA.trans (htc.below hbA.size (fun x hx e => by have e : x = w8.1.size := e; omega))
     have HOUT : Hid (OutM V.1.size (w8.1.size) a.sets (.slice A8 (onceI f a.init).length c8) (onceI f a.init) (.slice none 0 0) [] [] wF) := dh ⟨hset, own_base hof (Nat.zero_le _), NodesM.nil _ _⟩
     have HBF := dh hbF
     have OB0 := dh ob0
     clear hset htc hof
     go_simp
     try rw [hwF]
     refine hK.out _ _ ⟨(HCV.out _ hbF).1, (HCV.out _ hbF).2.1⟩ (fun hS => ?_)
     clear hK
     refine wpAnyH_done (by kernel_rfl) ?_ _
     go_wp2_with fail
     go_meet
     case rel => exact ⟨_, _, rfl, OB0.out, HOUT, HBF⟩
    ·skip
     obtain ⟨wA, hwA⟩ := xQ (V.drew.alloc (.cells #[.int .i64 0, .slice none 0 0, .slice none 0 0] 25))
     have hbA : Below V.1.size V wA := by rw [← hwA]; exact (Below.drew bR).alloc lR _
     have hzA : wA.1.size = V.1.size + 1 := by rw [← hwA]; simp
     have haA : wA.1[V.1.size]? = some (.cells #[.int .i64 0, .slice none 0 0, .slice none 0 0] 25) := by rw [← hwA]; exact heap_alloc_new V.drew _
     go_simp
     refine hK.out _ _ ⟨(HCV.out _ hbA).1, (HCV.out _ hbA).2.1⟩ (fun hS => ?_)
     clear hK
     refine oneH 5 (fun K hK => ?_)
     go_simp
     refine (HLF.out _ a.init Ai ni ci hbA ((HRV.out.below hbA hBV).init.up (show B ≤ _ by first | exact hBV | exact Nat.le_trans hBV hbA.size)) (fun t ht => by rw [HNN.out]; exact HOK.out.1 t ht) hri HRV.out.eni).mono ?_
     rintro e w8 ⟨v8, rfl, ho8, hb8'⟩
     have hb8 : Below V.1.size V w8 := hbA.trans (hb8'.mono hbA.size)
     obtain ⟨A8, c8, rfl, -⟩ := own_sl ho8
     have ha8 : w8.1[V.1.size]? = some (.cells #[.int .i64 0, .slice none 0 0, .slice none 0 0] 25) := (hb8'.block V.1.size (by rw [hzA]; omega)).trans haA
     dsimp only
     refine hK.out _ _ ⟨(HCV.out _ hb8).1, (HCV.out _ hb8).2.1⟩ (fun hS => ?_)
     clear hK
     refine tkH 6 ?_
     refine oneH 8 (fun K hK => ?_)
     obtain ⟨y0, y1, y2⟩ := box3A ha8
     have f0 := frozen_of_row w8 _ 0 _ _ ha8
     have f1 := frozen_of_row w8 _ 1 _ _ ha8
     have f2 := frozen_of_row w8 _ 2 _ _ ha8
     have yl : V.1.size < w8.1.size := (aI.1 ha8).1
     have ob0 : V.1.size ≤ V.1.size := by first | exact lR | exact hb8.size
     have hset := set3A (a := .int .i64 a.sets) (b := .slice A8 (onceI f a.init).length c8) (c := .slice none 0 0) ha8 rfl
     have htc := tch3A w8 (V.1.size) (.int .i64 a.sets) (.slice A8 (onceI f a.init).length c8) (.slice none 0 0)
     have hof := own_tch ho8 htc (fun g hg e => own_ne_blk ho8 ha8 (by decide) (by rw [hg, e]))
     obtain ⟨wF, hwF⟩ := xQ (((w8.setCell ⟨V.1.size, 0, none⟩ (.int .i64 a.sets)).setCell ⟨V.1.size, 1, none⟩ (.slice A8 (onceI f a.init).length c8)).setCell ⟨V.1.size, 2, none⟩ (.slice none 0 0))
     rw [hwF] at hset htc hof
     have hbF : Below V.1.size V wF := hb8.trans (htc.below hb8.size (fun x hx e => by have e : x = V.1.size := e; omega))
     have HOUT : Hid (OutM V.1.size (V.1.size) a.sets (.slice A8 (onceI f a.init).length c8) (onceI f a.init) (.slice none 0 0) [] [] wF) := dh ⟨hset, own_base hof (Nat.zero_le _), NodesM.nil _ _⟩
     have HBF := dh hbF
     have OB0 := dh ob0
     clear hset htc hof
     go_simp
     try rw [hwF]
     refine hK.out _ _ ⟨(HCV.out _ hbF).1, (HCV.out _ hbF).2.1⟩ (fun hS => ?_)
     clear hK
     refine wpAnyH_done (by kernel_rfl) ?_ _
     go_wp2_with fail
     go_meet
     case rel => exact ⟨_, _, rfl, OB0.out, HOUT, HBF⟩
   case rest =>
    obtain ⟨ob, vi, rfl, hob, HOUT, HBF⟩ := hcut
    obtain ⟨q0, q1, q2⟩ := HCV.out wc HBF.out
    clear x0 x1
    go_wp2_with fail
    clear q0 q1 q2
    go_loopw [8] (fun i wr' => ∃ (k : Nat) (vn : Value) (xs : List Value), k ≤ nn ∧ i = .int .i64 (k : Int) ∧ Hid (OutM V.1.size ob a.sets vi (onceI f a.init) vn ((leadU a k).map (fun i => (a.at i).put (onceI f (a.at i).to))) xs wr') ∧ Hid (Below V.1.size V wr')) (fun i _ => nn - (intOf i).toNat)
    case atStart => exact ⟨0, _, _, by omega, rfl, HOUT, HBF⟩
    case round =>
     obtain ⟨k, vn, xs, hk, rfl, HOm, HBm⟩ := hrel
     clear HOUT HBF
     by_cases hlt : k < nn
     ·have wk : IntKind.i64.wrap ((k : Int) + 1) = (k : Int) + 1 := by rw [wI]; omega
      have hk0 : (0 : Int) ≤ (k : Int) := by omega
      have hk1 : (k : Int) < (nn : Int) := by omega
      obtain ⟨bL, oL, hAL, hblL, hcl⟩ := (HSL.out.below (HDV.out.trans (HBm.out.mono hzDV)) lR).rd.at_ (j := k) (by rw [icells, List.getElem?_map, HLS.out k hlt]; rfl)
      subst hAL
      have HUK := dh (HUY.out k hlt)
      have HSR0 := dh (leadU_snoc a k)
      have HUE : Hid ((leadL (simL a) a.nodes.length).getD k false = true ↔ likeF (simL a) k = k) := dh (lead_at (by rw [← HNN.out]; exact hlt))
      have hpl : likeF (simL a) k ≤ k := like_le _ _
      obtain ⟨p, hp⟩ := xQ (likeF (simL a) k)
      rw [hp] at hcl HUE hpl
      clear hp
      obtain ⟨q0, q1, q2⟩ := HCV.out wr HBm.out
      by_cases hpk : p = k
      ·subst hpk
       have hpp : ((p : Int) == (p : Int)) = true := by simp
       have hRX := HRV.out.below HBm.out hBV
       have hcn := (Exists.choose_spec hRX.nodes).1.cap
       have hmn := (Exists.choose_spec hRX.nodes).1.max
       unfold maxLen at hmn
       obtain ⟨bx, ox, nd, At, ct, hAn, hbx, hnd', d0, d1, d2, d3, hst⟩ := rd_aut hRX hlt
       obtain ⟨q, hq⟩ := xR p
       have HND : Hid (a.at q = nd) := dh (by rw [hq]; unfold Aut.at; rw [gD, hnd']; rfl)
       have HNM2 := dh (List.mem_of_getElem? hnd')
       have HSR : Hid (leadU a (p + 1) = leadU a p ++ [q]) := dh (by rw [HSR0.out, if_pos (HUE.out.2 rfl), hq])
       have HST := dh hst
       have hll : (leadU a p).length ≤ p := leadU_le a p
       obtain ⟨m, hm⟩ := xQ (leadU a p).length
       rw [hm] at hll
       have HMM := dh hm
       subst hAn
       clear hRX hnd' hst hq hm
       obtain ⟨Av, cv, rfl, -⟩ := own_sl HOm.out.nodes.own
       obtain ⟨ns, hns⟩ := xQ ((leadU a p).map (fun i => (a.at i).put (onceI f (a.at i).to)))
       have hnl : ns.length = m := by rw [← hns, List.length_map, HMM.out]
       rw [hns, hnl] at HOm
       have HNS := dh hns
       have HNL := dh hnl
       obtain ⟨XA, hXA⟩ := xQ (wr.alloc (.cells #[.int .u64 (nd.need : Int), .int .u64 (nd.ban : Int), .int .u64 (nd.inn : Int), .slice At nd.to.length ct] 36))
       have hbXA : Below wr.1.size wr XA := by rw [← hXA]; exact bR.alloc lR _
       have hzXA : XA.1.size = wr.1.size + 1 := by rw [← hXA]; simp
       have hxA : XA.1[wr.1.size]? = some (.cells #[.int .u64 (nd.need : Int), .int .u64 (nd.ban : Int), .int .u64 (nd.inn : Int), .slice At nd.to.length ct] 36 (0, 0)) := by rw [← hXA]; exact heap_alloc_new wr _
       have HXC := dh hxA
       have HXA := dh hXA
       have HBA := dh (HBm.out.trans (hbXA.mono HBm.out.size))
       have HOA := dh (HOm.out.below hbXA)
       have HVG := dh (fun g (hg : (Value.slice Av m cv).ownBlock = some g) => (HOm.out.nodes.own.lt g hg).2)
       have hXAz := HBA.out.size
       have HKC := dh (HLF.out XA nd.to At _ ct HBA.out ((HST.out.below hbXA (show B ≤ wr.1.size by have := HBm.out.size; omega)).up (show B ≤ XA.1.size by have := HBm.out.size; omega)) (fun t ht => by rw [HNN.out]; exact HOK.out.2 nd HNM2.out t ht) (by have := HHR.out nd HNM2.out; omega) rfl)
       clear hXA hbXA hxA hns hnl
       obtain ⟨s0, s1, s2, s3⟩ := box4A HXC.out
       go_upto_region 19 with fail
       rw [HXA.out]
       clear d0 d1 d2 d3 q0 q1 q2
       go_wp2_with fail
       refine HKC.out.mono ?_
       rintro e w8 ⟨v8, rfl, ho8, hb8⟩
       obtain ⟨A8, c8, rfl, -⟩ := own_sl ho8
       have hx8 := (hb8.block wr.1.size (by omega)).trans HXC.out
       have hz8 := hb8.size
       obtain ⟨y0, y1, y2, y3⟩ := box4A hx8
       have f3 := frozen_of_row w8 wr.1.size 3 _ _ hx8
       have yl : wr.1.size < w8.1.size := by omega
       have hO8 := HOA.out.below hb8
       obtain ⟨w9, hw9⟩ := xQ (w8.setCell ⟨wr.1.size, 3, none⟩ (.slice A8 (onceI f nd.to).length c8))
       have hx9 : w9.1[wr.1.size]? = some (.cells #[.int .u64 (nd.need : Int), .int .u64 (nd.ban : Int), .int .u64 (nd.inn : Int), .slice A8 (onceI f nd.to).length c8] 36 (0, 0)) := by
        rw [← hw9, heap_setCell_same w8 wr.1.size 3 _ _ _ hx8]; rfl
       have ht9 : Tch (fun k => k = wr.1.size) w8 w9 := by rw [← hw9]; exact tch_cell (w := w8) wr.1.size 3 _
       have hO9 := hO8.keep ht9 (fun e => by have e : ob = wr.1.size := e; have := HOm.out.lt; omega) (fun g hg e => by have e : g = wr.1.size := e; have := HVG.out g hg; omega) (fun u' n ys ho g hg e => by have e : g = wr.1.size := e; exact own_ne_blk ho hx8 (by decide) (by rw [hg, e]))
       have ho9 := own_tch ho8 ht9 (fun g hg e => by have e : g = wr.1.size := e; exact own_ne_blk ho8 hx8 (by decide) (by rw [hg, e]))
       have HO9 := dh hO9
       have HR9 := dh (own_base ho9 (Nat.zero_le _))
       have HX9 := dh hx9
       have HW9 := dh hw9
       have HB9 := dh ((HBA.out.trans (hb8.mono HBA.out.size)).trans (ht9.below (show V.1.size ≤ w8.1.size by omega) (fun y hy e => by have e : y = wr.1.size := e; have := HBm.out.size; omega)))
       clear hw9 hx9 ht9 hO9 ho9 hO8 ho8 hb8 hx8 s0 s1 s2 s3
       go_upto_region 20 with fail
       rw [HW9.out]
       clear y0 y1 y2 y3 f3
       obtain ⟨s0, s1, s2, s3⟩ := box4A HX9.out
       obtain ⟨r0, r1, r2⟩ := HO9.out.cells
       clear r0 r1
       have hz9 := HB9.out.size
       have hnw := dh (heap_alloc_new w9 (.cells #[.int .u64 (nd.need : Int), .int .u64 (nd.ban : Int), .int .u64 (nd.inn : Int), .slice A8 (onceI f nd.to).length c8] 36))
       go_wp2_with (at_builtin; refine wpList_push rfl (.tmp 77) (.tmp 79) 23 rfl V.1.size 36 4 48 sliceANd _ _ _ (HO9.out.nodes.own.alloc _) rfl w9.1.size #[.int .u64 (nd.need : Int), .int .u64 (nd.ban : Int), .int .u64 (nd.inn : Int), .slice A8 (onceI f nd.to).length c8] rfl hnw.out rfl (by simp [Value.oneCell']) (by have := HNL.out; omega) (by omega) (by simp; omega) ?_; intro u' wA hown3 ht3 hat3 hne3; rw [HNL.out] at hown3; obtain ⟨g', cap', rfl, _⟩ := own_form hown3 (by omega); have HPU := dh (HO9.out.push (x := nd.put (onceI f nd.to)) HR9.out (by rw [HNL.out]; exact hown3) ht3); have HBP := dh ((HB9.out.trans ((Tch.trans ((Tch.refl _ w9).alloc _) ht3 (fun _ _ h => h)).below hz9 (fun k hk e => by have := (HO9.out.nodes.own.lt k e).1; omega))).setCell (p := ⟨ob, 2, none⟩) (show V.1.size ≤ ob from hob) (.slice (some ⟨g', 0, none⟩) (m + 1) cap')); have p1 := HPU.out.1.1; have p2 := HPU.out.1.2.1; have p3 := HPU.out.1.2.2)
       have hO := HPU.out.2
       rw [← HND.out] at hO
       have hmp : (leadU a (p + 1)).map (fun i => (a.at i).put (onceI f (a.at i).to)) = ns ++ [(a.at q).put (onceI f (a.at q).to)] := by rw [HSR.out, List.map_append, HNS.out]; rfl
       rw [← hmp] at hO
       have HOF := dh hO
       clear hO hmp
       go_roundw
       case rel => exact ⟨p + 1, _, _, by omega, congrArg (Value.int .i64) (by omega), HOF, HBP⟩
       case measure => simp [intOf]; omega
      ·have hpp : ((p : Int) == (k : Int)) = false := by simp; omega
       have hne : ¬ (leadL (simL a) a.nodes.length).getD k false = true := fun h => hpk (HUE.out.1 h)
       have HSR : Hid (leadU a (k + 1) = leadU a k) := dh (by rw [HSR0.out, if_neg hne, List.append_nil])
       clear hne
       go_wp2_with fail
       go_roundw
       case rel => exact ⟨k + 1, vn, xs, by omega, congrArg (Value.int .i64) (by omega), dh (by rw [HSR.out]; exact HOm.out), HBm⟩
       case measure => simp [intOf]; omega
     ·have hkn : k = nn := by omega
      have hle : ¬ (k : Int) < (nn : Int) := by omega
      obtain ⟨q0, q1, q2⟩ := HCV.out wr HBm.out
      rw [hkn, HKS.out] at HOm
      clear hkn
      have hout := HOm.out
      obtain ⟨Ai', ci', An', cn', hvi, hvn, -⟩ := hout.rd
      obtain ⟨n1, hn1⟩ := xQ (onceI f a.init).length
      obtain ⟨n2, hn2⟩ := xQ (ks.map (fun i => (a.at i).put (onceI f (a.at i).to))).length
      rw [hn1] at hvi
      rw [hn2] at hvn
      rw [hvi, hvn] at hout
      have HOX := dh hout
      obtain ⟨r0, r1, r2⟩ := hout.cells
      have hy := (HBm.out.block (w.1.size + 1) hyV).trans HYV.out
      obtain ⟨y0, y1, y2⟩ := box3A hy
      have f0 : wr.frozen? ⟨w.1.size + 1, 0, none⟩ = false := frozen_of_row wr _ 0 _ _ hy
      have f1 : wr.frozen? ⟨w.1.size + 1, 1, none⟩ = false := frozen_of_row wr _ 1 _ _ hy
      have f2 : wr.frozen? ⟨w.1.size + 1, 2, none⟩ = false := frozen_of_row wr _ 2 _ _ hy
      have yl : w.1.size + 1 < wr.1.size := (aI.1 hy).1
      have HY := dh hy
      clear hn1 hn2 hvi hvn hout hy
      go_wp2_with fail
      have hset := set3A (a := .int .i64 a.sets) (b := .slice Ai' n1 ci') (c := .slice An' n2 cn') HY.out rfl
      have htc := tch3A wr (w.1.size + 1) (.int .i64 a.sets) (.slice Ai' n1 ci') (.slice An' n2 cn')
      obtain ⟨Y, hY⟩ := xQ (((wr.setCell ⟨w.1.size + 1, 0, none⟩ (.int .i64 a.sets)).setCell ⟨w.1.size + 1, 1, none⟩ (.slice Ai' n1 ci')).setCell ⟨w.1.size + 1, 2, none⟩ (.slice An' n2 cn'))
      rw [hY] at hset htc ⊢
      clear hY y0 y1 y2 f0 f1 f2 r0 r1 r2
      have hOY := HOX.out.keep htc (fun e => by have e : ob = w.1.size + 1 := e; omega) (fun g hg e => by have e : g = w.1.size + 1 := e; exact own_ne_blk HOX.out.nodes.own HY.out (by decide) (by rw [hg, e])) (fun u' n ys ho g hg e => by have e : g = w.1.size + 1 := e; exact own_ne_blk ho HY.out (by decide) (by rw [hg, e]))
      have hbY : Below w.1.size w Y := (HBW.out.trans (HBm.out.mono HBW.out.size)).trans (htc.below (show w.1.size ≤ wr.1.size by omega) (fun y hy e => by have e : y = w.1.size + 1 := e; omega))
      obtain ⟨g0, g1, g2⟩ := box3A hset
      have hfin : AutOneS w (mergeA a) (.returned (.agg #[.int .i64 a.sets, .slice Ai' n1 ci', .slice An' n2 cn'])) Y := by
       rw [HGE.out]
       obtain ⟨_, _, _, _, e1, e2, hrd⟩ := hOY.rd
       cases e1
       cases e2
       exact ⟨_, _, _, _, _, _, rfl, hrd, hbY, hOY.sep⟩
      refine bodyPost_ret (v := .agg #[.int .i64 a.sets, .slice Ai' n1 ci', .slice An' n2 cn']) ?_ rfl ?_
      ·simp [results, Tryz.results19, go_sem, g0, g1, g2]
      ·exact hfin
end Go.Proofs.YtiebpncpdbnelaaGreatDoor
