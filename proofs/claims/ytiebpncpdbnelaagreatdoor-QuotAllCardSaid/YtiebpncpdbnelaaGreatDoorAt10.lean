/- The walks of layer 30's reference: Trim, Empty. -/
import Derived.Test.YtiebpncpdbnelaaGreatDoorAu12
set_option maxHeartbeats 8000000
set_option maxRecDepth 100000
namespace Go.Proofs.YtiebpncpdbnelaaGreatDoor
open Go.RowKit
theorem trimR_sep (a : Aut) (Ai : Option Addr) (ni ci : Nat) (An : Option Addr) (nn cn : Nat) (w : World) (B : Nat) (h : AutRd w B a Ai ni ci An nn cn) (hB : B ≤ w.1.size)
  (hnd : ∀ x ∈ a.nodes, x.need < 2 ^ 64 ∧ x.ban < 2 ^ 64) (_hinn : ∀ x ∈ a.nodes, x.inn < 2 ^ 64) (_hsW : -9223372036854775808 ≤ a.sets ∧ a.sets ≤ 9223372036854775807) (KE : Nat) (hr : ∀ x ∈ a.nodes, x.to.length ≤ KE) (hri : a.init.length ≤ 100000000) (hKE : KE ≤ 1000000) (_hln : a.nodes.length ≤ 100000000) :
  Calls Tryz.prog 17 #[.agg #[.int .i64 a.sets, .slice Ai ni ci, .slice An nn cn]] w (AutOneS w (trimF a)) := by
 obtain ⟨hb0, x0, y0, z0⟩ := two_new w (.cells #[.int .i64 a.sets, .slice Ai ni ci, .slice An nn cn] 25) (.cells #[.int .i64 0, .slice none 0 0, .slice none 0 0] 25)
 obtain ⟨W0, hW0⟩ := xQ ((w.alloc (.cells #[.int .i64 a.sets, .slice Ai ni ci, .slice An nn cn] 25)).alloc (.cells #[.int .i64 0, .slice none 0 0, .slice none 0 0] 25))
 rw [hW0] at hb0 x0 y0 z0
 have HR0 := dh (h.below hb0 hB)
 have HC0 := dh (chkR_any a Ai ni ci An nn cn W0 B HR0.out (by omega))
 have HW0 := dh hW0
 have HB0 := dh hb0
 have HX0 := dh x0
 have HY0 := dh y0
 have HZ0 := dh z0
 clear hW0 hb0 x0 y0 z0 h
 go_enter Tryz.func17, Tryz.ntmps17
 go_upto_region 1 with fail
 rw [HW0.out]
 have q0 : W0.cell? ⟨w.1.size, 0, none⟩ = some (.int .i64 a.sets) := cR HX0.out
 have q1 : W0.cell? ⟨w.1.size, 1, none⟩ = some (.slice Ai ni ci) := cR HX0.out
 have q2 : W0.cell? ⟨w.1.size, 2, none⟩ = some (.slice An nn cn) := cR HX0.out
 go_wp2_with fail
 refine HC0.out.mono ?_
 rintro e w1 ⟨rfl, hb1⟩
 have hx1 : w1.1[w.1.size]? = some _ := (hb1.block w.1.size (by have := HZ0.out; omega)).trans HX0.out
 have hy1 : w1.1[w.1.size + 1]? = some _ := (hb1.block (w.1.size + 1) (by have := HZ0.out; omega)).trans HY0.out
 have hz1 := hb1.size
 have HB1 := dh hb1
 have HBB := dh (HB0.out.trans (HB1.out.mono (show w.1.size ≤ W0.1.size by have := HZ0.out; omega)))
 clear hb1 q0 q1 q2
 by_cases hck : chkA a = 0
 ·have HCK := dh hck
  obtain ⟨hn256, ⟨hs0, hs16⟩, hA, -⟩ := chk_iff.1 hck
  have HOK := dh hA
  have HX1 := dh hx1
  have HY1 := dh hy1
  have q0 : w1.cell? ⟨w.1.size, 0, none⟩ = some (.int .i64 a.sets) := cR hx1
  have q1 : w1.cell? ⟨w.1.size, 1, none⟩ = some (.slice Ai ni ci) := cR hx1
  have q2 : w1.cell? ⟨w.1.size, 2, none⟩ = some (.slice An nn cn) := cR hx1
  have HNN := dh HR0.out.enn
  have hnn : nn ≤ 256 := by rw [HNN.out]; exact hn256
  have HR1 := dh (HR0.out.below HB1.out (show B ≤ W0.1.size by have := HZ0.out; omega))
  have HUS := dh (use30_any a Ai ni ci An nn cn w1 B HR1.out (by have := HZ0.out; omega) hck hnd KE hr hri hKE)
  rw [hck]
  clear hx1 hy1 hck hn256
  go_wp2_with fail
  refine HUS.out.mono ?_
  rintro e w3 ⟨v3, rfl, ho3, hb3, -⟩
  obtain ⟨A3, c3, rfl, -⟩ := own_sl ho3
  have HO3 := dh ho3
  have HB3 := dh hb3
  have hz3 := hb3.size
  have HTF : Hid (trimF a = trimU a (useL a)) := dh (by unfold trimF; rw [if_pos HCK.out]; rfl)
  have hmk := run_make_row' (P := Tryz.prog) 22 3 (.int .i64 0) 8 Tryz.underlying22 infoInt rfl .i64 .i64 nn (by omega) (by omega)
  obtain ⟨W5, hW5⟩ := xQ (w3.alloc (.cells (madeCells #[.int .i64 0] nn) 3))
  have hb5 : Below w3.1.size w3 W5 := by rw [← hW5]; exact bR.alloc lR _
  have hz5 : W5.1.size = w3.1.size + 1 := by rw [← hW5]; simp
  have hr5 : W5.ownsRow w3.1.size 3 1 (.slice (some ⟨w3.1.size, 0, none⟩) nn nn) nn (icells (List.replicate nn 0)) := by
   have h1 := own_made (w := w3) (base := w3.1.size) (e := 3) (v := .int .i64 0) (n := nn) lR (by unfold maxLen; omega)
   rw [hW5] at h1
   have e : icells (List.replicate nn 0) = List.replicate nn (.int .i64 0) := by simp [icells]
   rw [e]
   exact h1
  have HR5 := dh hr5
  have HU5 := dh (own_below HO3.out hb5)
  have HBW5 := dh (HB3.out.trans (hb5.mono hz3))
  generalize useL a = u at *
  go_upto_region 5 with fail
  clear hmk hW5 hr5 hb5 ho3 hb3 q0 q1 q2
  go_wp2_with fail
  go_loopw [6, 5] (fun i o wr => ∃ (k : Nat) (nl : List Int), k ≤ nn ∧ i = .int .i64 (k : Int) ∧ o = .int .i64 ((numC u k : Nat) : Int) ∧ Hid (wr.ownsRow w3.1.size 3 1 (.slice (some ⟨w3.1.size, 0, none⟩) nn nn) nn (icells nl)) ∧ Hid (∀ i, i < k → nl.getD i 0 = if u.getD i false = true then ((numC u i : Nat) : Int) else -1) ∧ Hid (Tch (fun x => x = w3.1.size) W5 wr)) (fun i _ _ => nn - (intOf i).toNat)
  case atStart => exact ⟨0, _, by omega, rfl, rfl, HR5, dh (fun i hi => absurd hi (Nat.not_lt_zero _)), dh (Tch.refl _ _)⟩
  case round =>
   obtain ⟨k, nl, hk, rfl, rfl, HRr, HAr, HTr⟩ := hrel
   have hzr := HTr.out.size
   by_cases hlt : k < nn
   ·have wk : IntKind.i64.wrap ((k : Int) + 1) = (k : Int) + 1 := by rw [wI]; omega
    have hle : numC u k ≤ k := numC_le k
    have wn : IntKind.i64.wrap (((numC u k : Nat) : Int) + 1) = ((numC u k : Nat) : Int) + 1 := by rw [wI]; omega
    have hk0 : (0 : Int) ≤ (k : Int) := by omega
    have hk1 : (k : Int) < (nn : Int) := by omega
    have hnl : nl.length = nn := by have := HRr.out.1; rw [icells_len] at this; omega
    have kU : wr.cell? ⟨w3.1.size, k, none⟩ = some (.int .i64 (nl.getD k 0)) := by
     rw [HRr.out.cellAt k (by omega)]
     simp [icells, List.getD, show k < nl.length by omega]
    have fU := HRr.out.frozenAt k
    have zU := (HRr.out.lt w3.1.size rfl).2
    have hst : (wr.setCell ⟨w3.1.size, k, none⟩ (.int .i64 (-1))).ownsRow w3.1.size 3 1 (.slice (some ⟨w3.1.size, 0, none⟩) nn nn) nn (icells (nl.set k (-1))) := by
     have := (HRr.out.stored k (.int .i64 (-1))).1
     rw [icells, List.map_set]; exact this
    have htc := tch_cell (w := wr) w3.1.size k (.int .i64 (-1))
    have hu3 := own_tch (own_tch HU5.out HTr.out (fun g hg e => by have e : g = w3.1.size := e; have h9 := HO3.out.lt g hg; omega)) htc (fun g hg e => by have e : g = w3.1.size := e; have h9 := HO3.out.lt g hg; omega)
    obtain ⟨A', c', hf, hs3⟩ := own_sl hu3
    cases hf
    have hc3 := hs3.cap
    have hm3 := hs3.max
    unfold maxLen at hm3
    have hl3 := hs3.len
    have e3 : (bcells u)[k]? = some (.bool (u.getD k false)) := by
     rw [bcells, List.getElem?_map, gD, gE (by rw [bcells_len] at hl3; omega)]; rfl
    obtain ⟨b3, o3, rfl, hbl3, d3⟩ := hs3.rd.at_ e3
    have HT9 := dh (HTr.out.then_ htc)
    have HS9 := dh hst
    have hk2 := hst.cellAt k (by omega)
    have f2 := hst.frozenAt k
    have k2 : (wr.setCell ⟨w3.1.size, k, none⟩ (.int .i64 (-1))).cell? ⟨w3.1.size, k, none⟩ = some (.int .i64 (-1)) := by
     rw [hk2]
     simp [icells, show k < nl.length by omega]
    clear e3 hs3 hu3 hl3 hst htc hk2
    go_upto_region 10 with fail
    obtain ⟨wq, hwq⟩ := xQ (wr.setCell ⟨w3.1.size, k, none⟩ (.int .i64 (-1)))
    rw [hwq] at HT9 HS9 f2 k2 d3 ⊢
    have zq : w3.1.size < wq.1.size := (HS9.out.lt w3.1.size rfl).2
    clear hwq kU fU
    cases hub : u.getD k false
    ·have HN := dh (show numC u (k + 1) = numC u k by rw [numC_succ, hub]; simp)
     have HUB := dh hub
     rw [hub] at d3
     clear hub
     go_wp2_with fail
     go_roundw
     case rel => exact ⟨k + 1, nl.set k (-1), by omega, congrArg (Value.int .i64) (by omega), by rw [HN.out], HS9, dh (fun i hi => by
      by_cases e : i = k
      ·subst e; rw [gD, List.getElem?_set_self (by omega), HUB.out]; rfl
      ·rw [gD, List.getElem?_set_ne (by omega), ← gD]; exact HAr.out i (by omega)), HT9⟩
     case measure => simp [intOf]; omega
    ·have HN := dh (show numC u (k + 1) = numC u k + 1 by rw [numC_succ, hub]; simp)
     have HUB := dh hub
     rw [hub] at d3
     clear hub
     go_wp2_with fail
     go_roundw
     case rel => exact ⟨k + 1, (nl.set k (-1)).set k ((numC u k : Nat) : Int), by omega, congrArg (Value.int .i64) (by omega), by rw [HN.out]; exact congrArg (Value.int .i64) (by omega), dh (by have := (HS9.out.stored k (.int .i64 ((numC u k : Nat) : Int))).1; rw [icells, List.map_set]; exact this), dh (fun i hi => by
      rw [List.set_set]
      by_cases e : i = k
      ·subst e; rw [gD, List.getElem?_set_self (by omega), HUB.out]; rfl
      ·rw [gD, List.getElem?_set_ne (by omega), ← gD]; exact HAr.out i (by omega)), dh (HT9.out.then_ (tch_cell (w := wq) w3.1.size k _))⟩
     case measure => simp [intOf]; omega
   ·have hkn : k = nn := by omega
    have HAN : Hid (∀ i, i < nn → nl.getD i 0 = if u.getD i false = true then ((numC u i : Nat) : Int) else -1) := dh (by have := HAr.out; rwa [hkn] at this)
    clear HAr hkn
    obtain ⟨V, hV⟩ : ∃ X : World, X = wr := ⟨_, rfl⟩
    have HBV1 : Hid (Below w1.1.size w1 V) := dh (by rw [hV]; exact HBW5.out.trans (HTr.out.below (show w1.1.size ≤ W5.1.size by omega) (fun x hx e => by have e : x = w3.1.size := e; omega)))
    have HRV := dh (HR1.out.below HBV1.out (by have := HZ0.out; omega))
    have HXV := dh ((HBV1.out.block w.1.size (by have := HZ0.out; omega)).trans HX1.out)
    have HYV := dh ((HBV1.out.block (w.1.size + 1) (by have := HZ0.out; omega)).trans HY1.out)
    have HUV : Hid (V.ownsRow w1.1.size 4 1 (.slice A3 nn c3) nn (bcells u)) := dh (by rw [hV]; exact own_tch HU5.out HTr.out (fun g hg e => by have e : g = w3.1.size := e; have h9 := HO3.out.lt g hg; omega))
    have hzV : W5.1.size ≤ V.1.size := by rw [hV]; exact hzr
    have hrv : V.ownsRow w3.1.size 3 1 (.slice (some ⟨w3.1.size, 0, none⟩) nn nn) nn (icells nl) := by rw [hV]; exact HRr.out
    obtain ⟨A', c', hf, hsV⟩ := own_sl hrv
    cases hf
    have HKF : Hid (∀ (W' : World) (l : List Int) (A : Option Addr) (n c : Nat), Below V.1.size V W' → Sl W' W'.1.size 1 A n c (icells l) → (∀ t ∈ l, isNd nn t = true) → l.length ≤ 100000000 → Calls Tryz.prog 38 #[.slice A n c, .slice (some ⟨w3.1.size, 0, none⟩) nn nn] W' (IntsPost W' (keptL u l))) :=
     dh (fun W' l A n c hb hs hl hll => keptR_any u l nl A n c (some ⟨w3.1.size, 0, none⟩) nn nn W' W'.1.size HAN.out ((hsV.below hb lR).up hb.size) hs lR hl hll)
    rw [← hV]
    clear hV hrv hsV HTr HRr hzr
    go_upto_region 13 with fail
    obtain ⟨x0, x1, x2⟩ : V.cell? ⟨w.1.size, 0, none⟩ = some (.int .i64 a.sets) ∧ V.cell? ⟨w.1.size, 1, none⟩ = some (.slice Ai ni ci) ∧ V.cell? ⟨w.1.size, 2, none⟩ = some (.slice An nn cn) := by
     refine ⟨?_, ?_, ?_⟩ <;> (rw [cell_of_row _ _ _ _ _ (0, 0) HXV.out]; rfl)
    go_cut [7] from 8 (fun p wF => ∃ ob vi, p = .pointer (some ⟨ob, 0, none⟩) ∧ V.1.size ≤ ob ∧ Hid (OutM V.1.size ob a.sets vi (keptL u a.init) (.slice none 0 0) [] [] wF) ∧ Hid (Below V.1.size V wF))
    case first =>
     refine wp_region_held_drew (S := fun w' => w'.cell? ⟨w.1.size, 0, none⟩ = some (.int .i64 a.sets) ∧ w'.cell? ⟨w.1.size, 1, none⟩ = some (.slice Ai ni ci)) (by kernel_rfl) ⟨x0, x1⟩ (fun hS => ?_)
     refine tkH 0 ?_
     refine tkH 1 ?_
     refine tkH 2 ?_
     refine tkH 3 ?_
     refine tkH 4 ?_
     refine wpAnyH_ready (rs := [5, 7]) (by kernel_rfl) (by simp) ?_
     refine (allReadyH_consD (i := 5) rfl (fun K hK => ?_) (allReadyH_consD (i := 7) rfl (fun K hK => ?_) AllReadyH.nil))
     ·skip
      go_simp
      refine (HKF.out _ a.init Ai ni ci (Below.drew bR) ((HRV.out.below (Below.drew bR) (show B ≤ V.1.size by have := HZ0.out; omega)).init.up (show B ≤ _ by have := HZ0.out; first | omega | (rw [World.size_drew]; omega))) (fun t ht => by rw [HNN.out]; exact HOK.out.1 t ht) hri).mono ?_
      rintro e w8 ⟨v8, rfl, ho8, hb8'⟩
      have hb8 : Below V.1.size V w8 := below_undrew hb8'
      obtain ⟨A8, c8, rfl, -⟩ := own_sl ho8
      dsimp only
      refine hK.out _ _ ⟨bC hb8 (by have := HZ0.out; omega) x0, bC hb8 (by have := HZ0.out; omega) x1⟩ (fun hS => ?_)
      clear hK
      refine tkH 6 ?_
      refine oneH 7 (fun K hK => ?_)
      obtain ⟨wA, hwA⟩ := xQ (w8.alloc (.cells #[.int .i64 0, .slice none 0 0, .slice none 0 0] 25))
      have hbA : Below V.1.size V wA := by rw [← hwA]; exact hb8.alloc hb8.size _
      have hzA : wA.1.size = w8.1.size + 1 := by rw [← hwA]; simp
      have haA : wA.1[w8.1.size]? = some (.cells #[.int .i64 0, .slice none 0 0, .slice none 0 0] 25) := by rw [← hwA]; exact heap_alloc_new w8 _
      have hoA := own_below ho8 (by rw [← hwA]; exact bR.alloc lR _ : Below w8.1.size w8 wA)
      go_simp
      refine hK.out _ _ ⟨bC hbA (by have := HZ0.out; omega) x0, bC hbA (by have := HZ0.out; omega) x1⟩ (fun hS => ?_)
      clear hK
      refine oneH 8 (fun K hK => ?_)
      have y0 : wA.cell? ⟨w8.1.size, 0, none⟩ = some (.int .i64 0) := cR haA
      have y1 : wA.cell? ⟨w8.1.size, 1, none⟩ = some (.slice none 0 0) := cR haA
      have y2 : wA.cell? ⟨w8.1.size, 2, none⟩ = some (.slice none 0 0) := cR haA
      have f0 : wA.frozen? ⟨w8.1.size, 0, none⟩ = false := frozen_of_row wA _ 0 _ _ haA
      have f1 : wA.frozen? ⟨w8.1.size, 1, none⟩ = false := frozen_of_row wA _ 1 _ _ haA
      have f2 : wA.frozen? ⟨w8.1.size, 2, none⟩ = false := frozen_of_row wA _ 2 _ _ haA
      have yl : w8.1.size < wA.1.size := (aI.1 haA).1
      have ob0 : V.1.size ≤ w8.1.size := by first | exact lR | exact hb8.size
      have hset := set3A (a := .int .i64 a.sets) (b := .slice A8 (keptL u a.init).length c8) (c := .slice none 0 0) haA rfl
      have htc := tch3A wA (w8.1.size) (.int .i64 a.sets) (.slice A8 (keptL u a.init).length c8) (.slice none 0 0)
      have hof := own_tch hoA htc (fun g hg e => own_ne_blk hoA haA (by decide) (by rw [hg, e]))
      obtain ⟨wF, hwF⟩ := xQ (((wA.setCell ⟨w8.1.size, 0, none⟩ (.int .i64 a.sets)).setCell ⟨w8.1.size, 1, none⟩ (.slice A8 (keptL u a.init).length c8)).setCell ⟨w8.1.size, 2, none⟩ (.slice none 0 0))
      rw [hwF] at hset htc hof
      have hbF : Below V.1.size V wF := hbA.trans (htc.below hbA.size (fun x hx e => by have e : x = w8.1.size := e; omega))
      have HOUT : Hid (OutM V.1.size (w8.1.size) a.sets (.slice A8 (keptL u a.init).length c8) (keptL u a.init) (.slice none 0 0) [] [] wF) := dh ⟨hset, own_base hof (Nat.zero_le _), NodesM.nil _ _⟩
      have HBF := dh hbF
      have OB0 := dh ob0
      clear hset htc hof
      go_simp
      try rw [hwF]
      refine hK.out _ _ ⟨bC hbF (by have := HZ0.out; omega) x0, bC hbF (by have := HZ0.out; omega) x1⟩ (fun hS => ?_)
      clear hK
      refine wpAnyH_done (by kernel_rfl) ?_ _
      go_wp2_with fail
      go_meet
      case rel => exact ⟨_, _, rfl, OB0.out, HOUT, HBF⟩
     ·skip
      obtain ⟨wA, hwA⟩ := xQ (V.drew.alloc (.cells #[.int .i64 0, .slice none 0 0, .slice none 0 0] 25))
      have hbA : Below V.1.size V wA := by rw [← hwA]; exact (Below.drew bR).alloc lR _
      have hzA : wA.1.size = V.1.size + 1 := by rw [← hwA]; simp
      have haA : wA.1[V.1.size]? = some (.cells #[.int .i64 0, .slice none 0 0, .slice none 0 0] 25) := by rw [← hwA]; exact heap_alloc_new V.drew _
      go_simp
      refine hK.out _ _ ⟨bC hbA (by have := HZ0.out; omega) x0, bC hbA (by have := HZ0.out; omega) x1⟩ (fun hS => ?_)
      clear hK
      refine oneH 5 (fun K hK => ?_)
      go_simp
      refine (HKF.out _ a.init Ai ni ci hbA ((HRV.out.below hbA (show B ≤ V.1.size by have := HZ0.out; omega)).init.up (show B ≤ _ by have := HZ0.out; first | omega | (rw [World.size_drew]; omega))) (fun t ht => by rw [HNN.out]; exact HOK.out.1 t ht) hri).mono ?_
      rintro e w8 ⟨v8, rfl, ho8, hb8'⟩
      have hb8 : Below V.1.size V w8 := hbA.trans (hb8'.mono hbA.size)
      obtain ⟨A8, c8, rfl, -⟩ := own_sl ho8
      have ha8 : w8.1[V.1.size]? = some (.cells #[.int .i64 0, .slice none 0 0, .slice none 0 0] 25) := (hb8'.block V.1.size (by rw [hzA]; omega)).trans haA
      dsimp only
      refine hK.out _ _ ⟨bC hb8 (by have := HZ0.out; omega) x0, bC hb8 (by have := HZ0.out; omega) x1⟩ (fun hS => ?_)
      clear hK
      refine tkH 6 ?_
      refine oneH 8 (fun K hK => ?_)
      have y0 : w8.cell? ⟨V.1.size, 0, none⟩ = some (.int .i64 0) := cR ha8
      have y1 : w8.cell? ⟨V.1.size, 1, none⟩ = some (.slice none 0 0) := cR ha8
      have y2 : w8.cell? ⟨V.1.size, 2, none⟩ = some (.slice none 0 0) := cR ha8
      have f0 : w8.frozen? ⟨V.1.size, 0, none⟩ = false := frozen_of_row w8 _ 0 _ _ ha8
      have f1 : w8.frozen? ⟨V.1.size, 1, none⟩ = false := frozen_of_row w8 _ 1 _ _ ha8
      have f2 : w8.frozen? ⟨V.1.size, 2, none⟩ = false := frozen_of_row w8 _ 2 _ _ ha8
      have yl : V.1.size < w8.1.size := (aI.1 ha8).1
      have ob0 : V.1.size ≤ V.1.size := by first | exact lR | exact hb8.size
      have hset := set3A (a := .int .i64 a.sets) (b := .slice A8 (keptL u a.init).length c8) (c := .slice none 0 0) ha8 rfl
      have htc := tch3A w8 (V.1.size) (.int .i64 a.sets) (.slice A8 (keptL u a.init).length c8) (.slice none 0 0)
      have hof := own_tch ho8 htc (fun g hg e => own_ne_blk ho8 ha8 (by decide) (by rw [hg, e]))
      obtain ⟨wF, hwF⟩ := xQ (((w8.setCell ⟨V.1.size, 0, none⟩ (.int .i64 a.sets)).setCell ⟨V.1.size, 1, none⟩ (.slice A8 (keptL u a.init).length c8)).setCell ⟨V.1.size, 2, none⟩ (.slice none 0 0))
      rw [hwF] at hset htc hof
      have hbF : Below V.1.size V wF := hb8.trans (htc.below hb8.size (fun x hx e => by have e : x = V.1.size := e; omega))
      have HOUT : Hid (OutM V.1.size (V.1.size) a.sets (.slice A8 (keptL u a.init).length c8) (keptL u a.init) (.slice none 0 0) [] [] wF) := dh ⟨hset, own_base hof (Nat.zero_le _), NodesM.nil _ _⟩
      have HBF := dh hbF
      have OB0 := dh ob0
      clear hset htc hof
      go_simp
      try rw [hwF]
      refine hK.out _ _ ⟨bC hbF (by have := HZ0.out; omega) x0, bC hbF (by have := HZ0.out; omega) x1⟩ (fun hS => ?_)
      clear hK
      refine wpAnyH_done (by kernel_rfl) ?_ _
      go_wp2_with fail
      go_meet
      case rel => exact ⟨_, _, rfl, OB0.out, HOUT, HBF⟩
    case rest =>
     obtain ⟨ob, vi, rfl, hob, HOUT, HBF⟩ := hcut
     have hzf := HBF.out.size
     clear x0 x1 x2
     go_wp2_with fail
     go_loopw [8] (fun i wr' => ∃ (m : Nat) (vn : Value) (xs : List Value), m ≤ nn ∧ i = .int .i64 (m : Int) ∧ Hid (OutM V.1.size ob a.sets vi (keptL u a.init) vn (((List.range m).filter (fun i => u.getD i false)).map (nodeF a u)) xs wr') ∧ Hid (Below V.1.size V wr')) (fun i _ => nn - (intOf i).toNat)
     case atStart => exact ⟨0, _, _, by omega, rfl, HOUT, HBF⟩
     case round =>
      obtain ⟨m, vn, xs, hm, rfl, HOm, HBm⟩ := hrel
      have hzm := HBm.out.size
      have hxm := (HBm.out.block w.1.size (by have := HZ0.out; omega)).trans HXV.out
      have q2 : wr.cell? ⟨w.1.size, 2, none⟩ = some (.slice An nn cn) := cR hxm
      clear hxm
      by_cases hlt : m < nn
      ·have wm : IntKind.i64.wrap ((m : Int) + 1) = (m : Int) + 1 := by rw [wI]; omega
       have hm0 : (0 : Int) ≤ (m : Int) := by omega
       have hm1 : (m : Int) < (nn : Int) := by omega
       have hu3 := own_below HUV.out HBm.out
       obtain ⟨A', c', hf, hs3⟩ := own_sl hu3
       cases hf
       have hc3 := hs3.cap
       have hm3 := hs3.max
       unfold maxLen at hm3
       have hl3 := hs3.len
       have e3 : (bcells u)[m]? = some (.bool (u.getD m false)) := by
        rw [bcells, List.getElem?_map, gD, gE (by rw [bcells_len] at hl3; omega)]; rfl
       obtain ⟨b3, o3, hA3, hbl3, d3'⟩ := hs3.rd.at_ e3
       subst hA3
       have HFS : Hid (((List.range (m + 1)).filter (fun i => u.getD i false)).map (nodeF a u) = ((List.range m).filter (fun i => u.getD i false)).map (nodeF a u) ++ (if u.getD m false = true then [nodeF a u m] else [])) := dh (by
        rw [List.range_succ, List.filter_append, List.map_append]
        congr 1
        rw [List.filter_cons, List.filter_nil]
        split <;> rfl)
       have hnsl : (((List.range m).filter (fun i => u.getD i false)).map (nodeF a u)).length ≤ m := by
        rw [List.length_map]
        have := List.length_filter_le (fun i => u.getD i false) (List.range m)
        rwa [List.length_range] at this
       generalize ((List.range m).filter (fun i => u.getD i false)).map (nodeF a u) = ns at *
       clear e3 hs3 hu3 hl3
       cases hub : u.getD m false
       ·have HF2 := dh HFS.out
        rw [hub] at HF2 d3'
        clear hub
        go_wp2_with fail
        go_roundw
        case rel => exact ⟨m + 1, vn, xs, by omega, congrArg (Value.int .i64) (by omega), dh (by rw [HF2.out]; simpa using HOm.out), HBm⟩
        case measure => simp [intOf]; omega
       ·have HF2 := dh HFS.out
        rw [hub] at HF2 d3'
        clear hub
        have hRX := HRV.out.below HBm.out (show B ≤ V.1.size by have := HZ0.out; omega)
        have hcn := (Exists.choose_spec hRX.nodes).1.cap
        have hmn := (Exists.choose_spec hRX.nodes).1.max
        unfold maxLen at hmn
        obtain ⟨bx, ox, nd, At, ct, hAn, hbx, hnd', d0, d1, d2, d3, hst⟩ := rd_aut hRX hlt
        have hndx : a.at m = nd := by unfold Aut.at; rw [gD, hnd']; rfl
        have hndm : nd ∈ a.nodes := List.mem_of_getElem? hnd'
        have HNF : Hid (nodeF a u m = nd.put (keptL u nd.to)) := dh (by unfold nodeF; rw [hndx])
        obtain ⟨Av, cv, rfl, -⟩ := own_sl HOm.out.nodes.own
        obtain ⟨XA, hXA⟩ := xQ (wr.alloc (.cells #[.int .u64 (nd.need : Int), .int .u64 (nd.ban : Int), .int .u64 (nd.inn : Int), .slice At nd.to.length ct] 36))
        have hbXA : Below wr.1.size wr XA := by rw [← hXA]; exact bR.alloc lR _
        have hzXA : XA.1.size = wr.1.size + 1 := by rw [← hXA]; simp
        have hxA : XA.1[wr.1.size]? = some (.cells #[.int .u64 (nd.need : Int), .int .u64 (nd.ban : Int), .int .u64 (nd.inn : Int), .slice At nd.to.length ct] 36 (0, 0)) := by rw [← hXA]; exact heap_alloc_new wr _
        have HXC := dh hxA
        have HXA := dh hXA
        have HBA := dh (HBm.out.trans (hbXA.mono hzm))
        have HOA := dh (HOm.out.below hbXA)
        have HSTA := dh ((hst.below hbXA (by have := HZ0.out; omega)).up (show B ≤ XA.1.size by have := HZ0.out; omega))
        have HVG := dh (fun g (hg : (Value.slice Av ns.length cv).ownBlock = some g) => (HOm.out.nodes.own.lt g hg))
        have HKC := dh (HKF.out XA nd.to At _ ct HBA.out HSTA.out (fun t ht => by rw [HNN.out]; exact HOK.out.2 nd hndm t ht) (by have := hr nd hndm; omega))
        subst hAn
        clear hXA hbXA hxA hst hRX hnd' hndx
        obtain ⟨s0, s1, s2, s3⟩ := box4A HXC.out
        go_upto_region 19 with fail
        rw [HXA.out]
        clear d0 d1 d2 d3 d3' q2
        go_wp2_with fail
        refine HKC.out.mono ?_
        rintro e w8 ⟨v8, rfl, ho8, hb8⟩
        obtain ⟨A8, c8, rfl, -⟩ := own_sl ho8
        have hx8 := (hb8.block wr.1.size (by omega)).trans HXC.out
        have hz8 := hb8.size
        obtain ⟨y0, y1, y2, y3⟩ := box4A hx8
        have f3 := frozen_of_row w8 wr.1.size 3 _ _ hx8
        have yl : wr.1.size < w8.1.size := by omega
        have hO8 := HOA.out.below hb8
        obtain ⟨w9, hw9⟩ := xQ (w8.setCell ⟨wr.1.size, 3, none⟩ (.slice A8 (keptL u nd.to).length c8))
        have hx9 : w9.1[wr.1.size]? = some (.cells #[.int .u64 (nd.need : Int), .int .u64 (nd.ban : Int), .int .u64 (nd.inn : Int), .slice A8 (keptL u nd.to).length c8] 36 (0, 0)) := by
         rw [← hw9, heap_setCell_same w8 wr.1.size 3 _ _ _ hx8]; rfl
        have ht9 : Tch (fun k => k = wr.1.size) w8 w9 := by rw [← hw9]; exact tch_cell (w := w8) wr.1.size 3 _
        have hO9 := hO8.keep ht9 (fun e => by have e : ob = wr.1.size := e; have := HOm.out.lt; omega) (fun g hg e => by have e : g = wr.1.size := e; have := (HVG.out g hg).2; omega) (fun u' n ys ho g hg e => by have e : g = wr.1.size := e; exact own_ne_blk ho hx8 (by decide) (by rw [hg, e]))
        have ho9 := own_tch ho8 ht9 (fun g hg e => by have e : g = wr.1.size := e; exact own_ne_blk ho8 hx8 (by decide) (by rw [hg, e]))
        have HO9 := dh hO9
        have HR9 := dh (own_base ho9 (Nat.zero_le _))
        have HX9 := dh hx9
        have HW9 := dh hw9
        have HB9 := dh ((HBA.out.trans (hb8.mono HBA.out.size)).trans (ht9.below (show V.1.size ≤ w8.1.size by omega) (fun y hy e => by have e : y = wr.1.size := e; omega)))
        clear hw9 hx9 ht9 hO9 ho9 hO8 ho8 hb8 hx8 s0 s1 s2 s3
        go_upto_region 20 with fail
        rw [HW9.out]
        clear y0 y1 y2 y3 f3
        obtain ⟨s0, s1, s2, s3⟩ := box4A HX9.out
        obtain ⟨r0, r1, r2⟩ := HO9.out.cells
        clear r0 r1
        have hz9 := HB9.out.size
        have hnw := dh (heap_alloc_new w9 (.cells #[.int .u64 (nd.need : Int), .int .u64 (nd.ban : Int), .int .u64 (nd.inn : Int), .slice A8 (keptL u nd.to).length c8] 36))
        go_wp2_with (at_builtin; refine wpList_push rfl (.tmp 66) (.tmp 68) 23 rfl V.1.size 36 4 48 sliceANd _ _ _ (HO9.out.nodes.own.alloc _) rfl w9.1.size #[.int .u64 (nd.need : Int), .int .u64 (nd.ban : Int), .int .u64 (nd.inn : Int), .slice A8 (keptL u nd.to).length c8] rfl hnw.out rfl (by simp [Value.oneCell']) (by omega) (by omega) (by simp; omega) ?_; intro u' wA hown3 ht3 hat3 hne3; obtain ⟨g', cap', rfl, _⟩ := own_form hown3 (by omega); have HPU := dh (HO9.out.push (x := nd.put (keptL u nd.to)) HR9.out hown3 ht3); have HBP := dh ((HB9.out.trans ((Tch.trans ((Tch.refl _ w9).alloc _) ht3 (fun _ _ h => h)).below hz9 (fun k hk e => by have := (HO9.out.nodes.own.lt k e).1; omega))).setCell (p := ⟨ob, 2, none⟩) (show V.1.size ≤ ob from hob) (.slice (some ⟨g', 0, none⟩) (ns.length + 1) cap')); have p1 := HPU.out.1.1; have p2 := HPU.out.1.2.1; have p3 := HPU.out.1.2.2)
        go_roundw
        case rel => exact ⟨m + 1, _, _, by omega, congrArg (Value.int .i64) (by omega), dh (by rw [HF2.out]; simp only [if_true]; rw [HNF.out]; exact HPU.out.2), HBP⟩
        case measure => simp [intOf]; omega
      ·have hkn : m = nn := by omega
       have HNS : Hid (((List.range m).filter (fun i => u.getD i false)).map (nodeF a u) = (trimU a u).nodes) := dh (by rw [hkn, HNN.out]; rfl)
       have hout := HOm.out
       rw [HNS.out] at hout
       clear HOm hkn HNS
       obtain ⟨Ai', ci', An', cn', hvi, hvn, -⟩ := hout.rd
       obtain ⟨n1, hn1⟩ := xQ (keptL u a.init).length
       obtain ⟨n2, hn2⟩ := xQ (trimU a u).nodes.length
       rw [hn1] at hvi
       rw [hn2] at hvn
       rw [hvi, hvn] at hout
       have HOX := dh hout
       obtain ⟨r0, r1, r2⟩ := hout.cells
       have hy : wr.1[w.1.size + 1]? = some (.cells #[.int .i64 0, .slice none 0 0, .slice none 0 0] 25 (0, 0)) := (HBm.out.block (w.1.size + 1) (by have := HZ0.out; omega)).trans HYV.out
       have y0 : wr.cell? ⟨w.1.size + 1, 0, none⟩ = some (.int .i64 0) := cR hy
       have y1 : wr.cell? ⟨w.1.size + 1, 1, none⟩ = some (.slice none 0 0) := cR hy
       have y2 : wr.cell? ⟨w.1.size + 1, 2, none⟩ = some (.slice none 0 0) := cR hy
       have f0 : wr.frozen? ⟨w.1.size + 1, 0, none⟩ = false := frozen_of_row wr _ 0 _ _ hy
       have f1 : wr.frozen? ⟨w.1.size + 1, 1, none⟩ = false := frozen_of_row wr _ 1 _ _ hy
       have f2 : wr.frozen? ⟨w.1.size + 1, 2, none⟩ = false := frozen_of_row wr _ 2 _ _ hy
       have yl : w.1.size + 1 < wr.1.size := (aI.1 hy).1
       have HY := dh hy
       clear hn1 hn2 hvi hvn hout hy q2
       go_wp2_with fail
       have hset := set3A (a := .int .i64 a.sets) (b := .slice Ai' n1 ci') (c := .slice An' n2 cn') HY.out rfl
       have htc := tch3A wr (w.1.size + 1) (.int .i64 a.sets) (.slice Ai' n1 ci') (.slice An' n2 cn')
       obtain ⟨Y, hY⟩ := xQ (((wr.setCell ⟨w.1.size + 1, 0, none⟩ (.int .i64 a.sets)).setCell ⟨w.1.size + 1, 1, none⟩ (.slice Ai' n1 ci')).setCell ⟨w.1.size + 1, 2, none⟩ (.slice An' n2 cn'))
       rw [hY] at hset htc ⊢
       clear hY y0 y1 y2 f0 f1 f2 r0 r1 r2
       have hOY := HOX.out.keep htc (fun e => by have e : ob = w.1.size + 1 := e; have := HZ0.out; omega) (fun g hg e => by have e : g = w.1.size + 1 := e; exact own_ne_blk HOX.out.nodes.own HY.out (by decide) (by rw [hg, e])) (fun u' n ys ho g hg e => by have e : g = w.1.size + 1 := e; exact own_ne_blk ho HY.out (by decide) (by rw [hg, e]))
       have hbY : Below w.1.size w Y := (HBB.out.trans ((HBV1.out.trans (HBm.out.mono (show w1.1.size ≤ V.1.size by have := HBV1.out.size; omega))).mono (show w.1.size ≤ w1.1.size by have := HZ0.out; omega))).trans (htc.below (show w.1.size ≤ wr.1.size by omega) (fun y hy e => by have e : y = w.1.size + 1 := e; omega))
       have g0 : Y.cell? ⟨w.1.size + 1, 0, none⟩ = some (.int .i64 a.sets) := cR hset
       have g1 : Y.cell? ⟨w.1.size + 1, 1, none⟩ = some (.slice Ai' n1 ci') := cR hset
       have g2 : Y.cell? ⟨w.1.size + 1, 2, none⟩ = some (.slice An' n2 cn') := cR hset
       have hfin : AutOneS w (trimF a) (.returned (.agg #[.int .i64 a.sets, .slice Ai' n1 ci', .slice An' n2 cn'])) Y := by
        rw [HTF.out]
        obtain ⟨_, _, _, _, e1, e2, hrd⟩ := hOY.rd
        cases e1
        cases e2
        exact ⟨_, _, _, _, _, _, rfl, hrd, hbY, hOY.sep⟩
       refine bodyPost_ret (v := .agg #[.int .i64 a.sets, .slice Ai' n1 ci', .slice An' n2 cn']) ?_ rfl ?_
       ·simp [results, Tryz.results17, go_sem, g0, g1, g2]
       ·exact hfin
 ·have hne : ((chkA a) == 0) = false := by rw [beq_eq_false_iff_ne]; exact hck
  have hne2 : ((chkA a) != 0) = true := by rw [bne_iff_ne]; exact hck
  have hne3 : decide (chkA a = 0) = false := decide_eq_false hck
  have HTF : Hid (trimF a = Aut.zero) := dh (by unfold trimF; rw [if_neg hck])
  have y0 : w1.cell? ⟨w.1.size + 1, 0, none⟩ = some (.int .i64 0) := cR hy1
  have y1 : w1.cell? ⟨w.1.size + 1, 1, none⟩ = some (.slice none 0 0) := cR hy1
  have y2 : w1.cell? ⟨w.1.size + 1, 2, none⟩ = some (.slice none 0 0) := cR hy1
  have f0 : w1.frozen? ⟨w.1.size + 1, 0, none⟩ = false := frozen_of_row w1 _ 0 _ _ hy1
  have f1 : w1.frozen? ⟨w.1.size + 1, 1, none⟩ = false := frozen_of_row w1 _ 1 _ _ hy1
  have f2 : w1.frozen? ⟨w.1.size + 1, 2, none⟩ = false := frozen_of_row w1 _ 2 _ _ hy1
  have yl : w.1.size + 1 < w1.1.size := (aI.1 hy1).1
  have HY := dh hy1
  clear hck hx1 hy1
  go_wp2_with fail
  have hset := set3A (a := .int .i64 0) (b := .slice none 0 0) (c := .slice none 0 0) HY.out rfl
  have htc := tch3A w1 (w.1.size + 1) (.int .i64 0) (.slice none 0 0) (.slice none 0 0)
  obtain ⟨Y, hY⟩ := xQ (((w1.setCell ⟨w.1.size + 1, 0, none⟩ (.int .i64 0)).setCell ⟨w.1.size + 1, 1, none⟩ (.slice none 0 0)).setCell ⟨w.1.size + 1, 2, none⟩ (.slice none 0 0))
  rw [hY] at hset htc ⊢
  have hbY : Below w.1.size w Y := HBB.out.trans (htc.below (show w.1.size ≤ w1.1.size by omega) (fun y hy e => by have e : y = w.1.size + 1 := e; omega))
  have g0 : Y.cell? ⟨w.1.size + 1, 0, none⟩ = some (.int .i64 0) := cR hset
  have g1 : Y.cell? ⟨w.1.size + 1, 1, none⟩ = some (.slice none 0 0) := cR hset
  have g2 : Y.cell? ⟨w.1.size + 1, 2, none⟩ = some (.slice none 0 0) := cR hset
  have hfin : AutOneS w (trimF a) (.returned (.agg #[.int .i64 0, .slice none 0 0, .slice none 0 0])) Y := by
   rw [HTF.out]
   exact ⟨none, 0, 0, none, 0, 0, rfl, autRd_nil Y _, hbY, sep_nil Y⟩
  refine bodyPost_ret (v := .agg #[.int .i64 0, .slice none 0 0, .slice none 0 0]) ?_ rfl ?_
  ·simp [results, Tryz.results17, go_sem, g0, g1, g2]
  ·exact hfin
end Go.Proofs.YtiebpncpdbnelaaGreatDoor
