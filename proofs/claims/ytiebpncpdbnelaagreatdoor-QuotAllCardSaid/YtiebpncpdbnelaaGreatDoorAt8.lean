/- The walk of layer 30's reference: open. -/
import Derived.Test.YtiebpncpdbnelaaGreatDoorZbg
set_option maxHeartbeats 8000000
set_option maxRecDepth 100000
namespace Go.Proofs.YtiebpncpdbnelaaGreatDoor
open Go.RowKit
theorem Own2.keepG {w w1 : World} {base g : Nat} {cs : Array Value} {v : Value} {L : List (List Value)} {vs : List Value} (h : Own2 w base 83 81 2 v L vs) (ht : Tch (fun k => k = g) w w1) (hg : w.1[g]? = some (.cells cs 55 (0, 0))) : Own2 w1 base 83 81 2 v L vs :=
 h.tch ht (fun g' hg' e => own_ne_blk h.main hg (by decide) (by rw [hg', e])) (fun j u g' hu hg' e => by
  have hj : j < L.length := by rw [← h.len]; exact (gB.1 hu).1
  obtain ⟨u', n', hu', ho⟩ := h.row j _ (gE hj)
  rw [hu] at hu'
  cases hu'
  exact own_ne_blk ho hg (by decide) (by rw [hg', e]))
theorem tch3R (w : World) (g : Nat) (a b c : Value) : Tch (fun k => k = g) w (((w.setCell ⟨g, 0, none⟩ a).setCell ⟨g, 1, none⟩ b).setCell ⟨g, 2, none⟩ c) :=
 Tch.setCell (S := fun k => k = g) (p := ⟨g, 2, none⟩) (Tch.setCell (S := fun k => k = g) (p := ⟨g, 1, none⟩) (Tch.setCell (S := fun k => k = g) (p := ⟨g, 0, none⟩) (Tch.refl _ w) (fun _ => rfl) a) (fun _ => rfl) b) (fun _ => rfl) c
theorem openG_any (a : Aut) (sv : Value) (Ai : Option Addr) (ni ci : Nat) (An : Option Addr) (nn cn : Nat) (w : World) (B : Nat) (h : AutRd w B a Ai ni ci An nn cn) (hB : B ≤ w.1.size) (hA : a.Ok) (hnd : ∀ x ∈ a.nodes, x.need < 2 ^ 64 ∧ x.ban < 2 ^ 64) (hr : ∀ x ∈ a.nodes, x.to.length ≤ 1000000) (hri : a.init.length ≤ 100000000) (hnn : nn ≤ 1000000) (_hsv : sv.oneCell' = true) :
  Calls Tryz.prog 58 #[.agg #[sv, .slice Ai ni ci, .slice An nn cn]] w (NewGr w ⟨openI a, openE a, List.replicate nn 0⟩) := by
 obtain ⟨hb0, x0, y0, z0⟩ := two_new w (.cells #[sv, .slice Ai ni ci, .slice An nn cn] 25) (.cells #[.slice none 0 0, .slice none 0 0, .slice none 0 0] 55)
 obtain ⟨W0, hW0⟩ := xQ ((w.alloc (.cells #[sv, .slice Ai ni ci, .slice An nn cn] 25)).alloc (.cells #[.slice none 0 0, .slice none 0 0, .slice none 0 0] 55))
 rw [hW0] at hb0 x0 y0 z0
 have HR := dh (h.below hb0 hB)
 have HNN := dh h.enn
 have HNI := dh h.eni
 obtain ⟨xsN, hsN, -⟩ := h.nodes
 have hcn := hsN.cap
 have hmn := hsN.max
 have hci := h.init.cap
 have hmi := h.init.max
 unfold maxLen at hmn hmi
 have HW0 := dh hW0
 have HB0 := dh hb0
 have HX0 := dh x0
 have HY0 := dh y0
 have HZ0 := dh z0
 have HOK := dh hA
 have a1 : W0.cell? ⟨w.1.size, 1, none⟩ = some (.slice Ai ni ci) := cR x0
 have a2 : W0.cell? ⟨w.1.size, 2, none⟩ = some (.slice An nn cn) := cR x0
 have HA1 := dh a1
 have HA2 := dh a2
 have hmk := run_make_row' (P := Tryz.prog) 53 81 (.slice none 0 0) 24 Tryz.underlying53 infoRowE rfl .i64 .i64 nn (by omega) (by omega)
 have hst := WRows.start (w0 := W0) (ne := nn) (by omega)
 obtain ⟨W1, hW1⟩ := xQ (W0.alloc (.cells (madeCells #[.slice none 0 0] nn) 81))
 rw [hW1] at hst
 have HST := dh hst
 have HW1 := dh hW1
 clear hW0 hW1 hst hb0 x0 y0 z0 h hsN a1
 have hwl : w.1.size < W0.1.size := by have := HZ0.out; omega
 go_enter Tryz.func58, Tryz.ntmps58
 go_upto_region 1 with fail
 rw [HW0.out]
 go_upto_region 2 with fail
 rw [HW1.out]
 clear hmk a2
 go_wp2_with fail
 go_loopw [4] (fun i wr => ∃ q : Nat, q ≤ nn ∧ i = .int .i64 (q : Int) ∧ WRows W0 W0.1.size nn (upT nn (openR a) [] q) wr) (fun i _ => nn - (intOf i).toNat)
 case atStart => exact ⟨0, by omega, rfl, by rw [upT_zero]; exact HST.out⟩
 case round =>
  obtain ⟨q, hq, rfl, hT⟩ := hrel
  have hbel : Below W0.1.size W0 wr := hT.choose_spec.2
  have hzp := hbel.size
  have f2 := bC hbel hwl HA2.out
  by_cases hlt : q < nn
  ·have wq : IntKind.i64.wrap ((q : Int) + 1) = (q : Int) + 1 := by rw [wI]; omega
   have hq0 : (0 : Int) ≤ (q : Int) := by omega
   have hq1 : (q : Int) < (nn : Int) := by omega
   obtain ⟨b, off, x, At, ct, hAn, hbb, hx, d0, d1, d2, d3, hst⟩ := rd_aut HR.out hlt
   have hbl : b < W0.1.size := by omega
   have hax : a.at q = x := by unfold Aut.at; rw [gD, hx]; rfl
   have hxm : x ∈ a.nodes := List.mem_of_getElem? hx
   have htl := hr x hxm
   have hct := hst.cap
   have hmt := hst.max
   unfold maxLen at hmt
   have HCQ := dh (fun W => canR_any x At x.to.length ct W (hnd x hxm).1 (hnd x hxm).2)
   have hR0 : WRows W0 W0.1.size nn ((upT nn (openR a) [] q).set q (rowO a q (x.to.take 0))) wr := by
    rw [show rowO a q (x.to.take 0) = [] by simp [rowO], upT_at]; exact hT
   have HFIN : Hid (upT nn (openR a) [] (q + 1) = (upT nn (openR a) [] q).set q (rowO a q x.to)) := dh (by
    rw [← upT_set]
    have : openR a q = rowO a q x.to := by unfold openR rowO; rw [hax]
    rw [this])
   have hRl : (upT nn (openR a) [] q).length = nn := upT_len
   generalize upT nn (openR a) [] q = R at *
   have HRL := dh hRl
   have HAX := dh hax
   have HST2 := dh hst
   have HD := dh (And.intro d0 (And.intro d1 (And.intro d2 d3)))
   have HOX := dh (fun t ht => HOK.out.2 x hxm t ht)
   subst hAn
   clear hRl hT hax hst hx d0 d1 d2 d3
   go_wp2_with fail
   clear f2
   go_loopw [5] (fun i wr' => ∃ m : Nat, m ≤ x.to.length ∧ i = .int .i64 (m : Int) ∧ WRows W0 W0.1.size nn (R.set q (rowO a q (x.to.take m))) wr') (fun i _ => x.to.length - (intOf i).toNat)
   case atStart => exact ⟨0, by omega, rfl, hR0⟩
   case round =>
    obtain ⟨m, hm, rfl, hT⟩ := hrel
    have hbr : Below W0.1.size W0 wr := hT.choose_spec.2
    have hzr := hbr.size
    have f2 := bC hbr hwl HA2.out
    obtain ⟨d0, d1, d2, d3⟩ := HD.out
    have d0 := bC hbr hbl d0
    have d1 := bC hbr hbl d1
    have d2 := bC hbr hbl d2
    have d3 := bC hbr hbl d3
    have HT := dh hT
    have HBR := dh hbr
    clear hT hR0 hbr
    by_cases hmlt : m < x.to.length
    ·have wm : IntKind.i64.wrap ((m : Int) + 1) = (m : Int) + 1 := by rw [wI]; omega
     have hm0 : (0 : Int) ≤ (m : Int) := by omega
     have hm1 : (m : Int) < (x.to.length : Int) := by omega
     go_wp2_with fail
     refine (HCQ.out _).mono ?_
     cases hcq : canB x
     ·rintro e w2 ⟨rfl, hb2⟩
      have HT2 := dh (HT.out.below hb2)
      have HE1 : Hid (rowO a q (x.to.take m) = rowO a q x.to) := dh (by
       have e : ∀ l : List Int, rowO a q l = [] := fun l => by
        unfold rowO
        rw [HAX.out, hcq, List.filter_eq_nil_iff.2 (fun t _ => by simp)]; rfl
       rw [e, e])
      clear hb2 hcq d0 d1 d2 d3 f2
      go_wp2_with fail
      go_roundw
      case rel => exact ⟨q + 1, by omega, congrArg (Value.int .i64) (by omega), by rw [HFIN.out, ← HE1.out]; exact HT2.out⟩
      case measure => simp [intOf]; omega
     ·rintro e w2 ⟨rfl, hb2⟩
      have HT2 := dh (HT.out.below hb2)
      have hbr2 := HBR.out.trans (hb2.mono hzr)
      have HB2 := dh hbr2
      have hz2 := hbr2.size
      have HC := dh hcq
      obtain ⟨bt, ot, rfl, hbt, ct0⟩ := rd_intS HST2.out hmlt
      have hbt0 : bt < W0.1.size := by omega
      obtain ⟨j, hj, hjN⟩ := isNd_nat (HOX.out x.to[m] (mM hmlt))
      rw [← HNN.out] at hjN
      have HSN := dh (rowO_snoc a q hmlt)
      rw [hj] at ct0 HSN
      rw [tN] at HSN
      obtain ⟨b', off', y, Ay, cy, hAy, hby, hy, g0, g1, g2, g3, -⟩ := rd_aut HR.out hjN
      cases hAy
      have hjx : a.at j = y := by unfold Aut.at; rw [gD, hy]; rfl
      have hym : y ∈ a.nodes := List.mem_of_getElem? hy
      have HJX := dh hjx
      have HCJ := dh (fun W => canR_any y Ay y.to.length cy W (hnd y hym).1 (hnd y hym).2)
      have hj0 : (0 : Int) ≤ (j : Int) := by omega
      have hj1 : (j : Int) < (nn : Int) := by omega
      have HAA : Hid (∀ W', Below W0.1.size W0 W' → W'.cell? ⟨w.1.size, 2, none⟩ = some (.slice (some ⟨b, off, none⟩) nn cn) ∧ W'.cell? ⟨b, off + q * 4 + 3, none⟩ = some (.slice (some ⟨bt, ot, none⟩) x.to.length ct) ∧ W'.cell? ⟨bt, ot + m, none⟩ = some (.int .i64 (j : Int)) ∧ W'.cell? ⟨b, off + j * 4, none⟩ = some (.int .u64 (y.need : Int)) ∧ W'.cell? ⟨b, off + j * 4 + 1, none⟩ = some (.int .u64 (y.ban : Int)) ∧ W'.cell? ⟨b, off + j * 4 + 2, none⟩ = some (.int .u64 (y.inn : Int)) ∧ W'.cell? ⟨b, off + j * 4 + 3, none⟩ = some (.slice Ay y.to.length cy)) :=
       dh (fun W' hb => ⟨bC hb hwl HA2.out, bC hb hbl HD.out.2.2.2, bC hb hbt0 ct0, bC hb hbl g0, bC hb hbl g1, bC hb hbl g2, bC hb hbl g3⟩)
      clear hb2 hcq d0 d1 d2 d3 f2 hj hy hjx g0 g1 g2 g3 ct0 hbr2
      go_wp2_with fail
      obtain ⟨k0, k1, k2, k3, k4, k5, k6⟩ := HAA.out _ HB2.out
      refine wp_region_held_drew (S := fun w' => w'.cell? ⟨w.1.size, 2, none⟩ = some (.slice (some ⟨b, off, none⟩) nn cn) ∧ w'.cell? ⟨b, off + q * 4 + 3, none⟩ = some (.slice (some ⟨bt, ot, none⟩) x.to.length ct) ∧ w'.cell? ⟨bt, ot + m, none⟩ = some (.int .i64 (j : Int)) ∧ w'.cell? ⟨b, off + j * 4, none⟩ = some (.int .u64 (y.need : Int)) ∧ w'.cell? ⟨b, off + j * 4 + 1, none⟩ = some (.int .u64 (y.ban : Int)) ∧ w'.cell? ⟨b, off + j * 4 + 2, none⟩ = some (.int .u64 (y.inn : Int)) ∧ w'.cell? ⟨b, off + j * 4 + 3, none⟩ = some (.slice Ay y.to.length cy)) (by kernel_rfl) ⟨k0, k1, k2, k3, k4, k5, k6⟩ (fun hS => ?_)
      refine tkH 0 ?_
      refine tkH 1 ?_
      refine tkH 2 ?_
      refine tkH 3 ?_
      refine tkH 4 ?_
      refine tkH 5 ?_
      refine tkH 6 ?_
      refine tkH 7 ?_
      refine tkH 8 ?_
      refine tkH 9 ?_
      refine tkH 10 ?_
      refine tkH 11 ?_
      refine tkH 12 ?_
      refine oneH 13 (fun K hK => ?_)
      go_simp
      refine (HCJ.out _).mono ?_
      rintro e w8 ⟨rfl, hb8'⟩
      have hb8 : Below w2.1.size w2 w8 := below_undrew hb8'
      have HB8 := dh (HB2.out.trans (hb8.mono hz2))
      have HT8 := dh (HT2.out.below hb8)
      clear hb8 hb8'
      dsimp only
      refine hK.out _ _ (HAA.out _ HB8.out) (fun hS => ?_)
      clear hK
      refine wpAnyH_done (by kernel_rfl) ?_ _
      clear k0 k1 k2 k3 k4 k5 k6 hS
      obtain ⟨k0, k1, k2, -, -, -, -⟩ := HAA.out _ HB8.out
      cases hcj : canB y
      ·have HPx : Hid (rowO a q (x.to.take (m + 1)) = rowO a q (x.to.take m)) := dh (by rw [HSN.out, HAX.out, HJX.out, HC.out, hcj]; simp)
       clear hcj
       go_wp2_with fail
       go_roundw
       case rel => exact ⟨m + 1, by omega, congrArg (Value.int .i64) (by omega), by rw [HPx.out]; exact HT8.out⟩
       case measure => simp [intOf]; omega
      ·have HPx : Hid (rowO a q (x.to.take (m + 1)) = rowO a q (x.to.take m) ++ [⟨(j : Int), 0⟩]) := dh (by rw [HSN.out, HAX.out, HJX.out, HC.out, hcj]; simp)
       clear hcj
       have hle : (rowO a q (x.to.take m)).length ≤ m := Nat.le_trans (rowO_le a q _) (by rw [List.length_take]; omega)
       generalize rowO a q (x.to.take m) = Y at *
       go_wp2_with fail
       obtain ⟨vs, s2, s5⟩ := HT8.out
       have hqR : q < R.length := by rw [HRL.out]; exact hlt
       obtain ⟨u, n0, hu, ho⟩ := s2.row q (ncells Y) (by rw [List.getElem?_map, List.getElem?_set_self hqR]; rfl)
       have hn0 : n0 = Y.length := by have := ho.1; rw [ncells_len] at this; omega
       have hn0m : n0 ≤ m := by omega
       obtain ⟨Au, cu, rfl, -⟩ := own_sl ho
       have rc := s2.cell hu
       clear hn0
       refine wp_region_U (S := fun w' => w'.cell? ⟨w.1.size, 2, none⟩ = some (.slice (some ⟨b, off, none⟩) nn cn) ∧ w'.cell? ⟨b, off + q * 4 + 3, none⟩ = some (.slice (some ⟨bt, ot, none⟩) x.to.length ct) ∧ w'.cell? ⟨bt, ot + m, none⟩ = some (.int .i64 (j : Int)) ∧ w'.cell? ⟨W0.1.size, q, none⟩ = some (.slice Au n0 cu)) 19 (by kernel_rfl) ⟨k0, k1, k2, rc⟩ (fun hS => ?_)
       obtain ⟨wX, hwX⟩ := xQ w8.drew
       have hbD : Below w8.1.size w8 wX := by rw [← hwX]; exact Below.drew bR
       have s2X := s2.below hbD
       have s5X := s5.trans (hbD.mono s5.size)
       have hoX := own_below ho hbD
       rw [hwX] at hS ⊢
       clear s2 s5 ho hwX hbD k0 k1 k2 rc
       refine tkU 0 [] ?_
       refine tkU 1 [] ?_
       refine tkU 2 [] ?_
       refine tkU 3 [] ?_
       refine tkU 4 [] ?_
       refine tkU 5 [] ?_
       refine tkU 6 [] ?_
       refine tkU 7 [] ?_
       refine tkU 8 [] ?_
       refine tkU 9 [] ?_
       refine tkU 10 [] ?_
       refine tkU 11 [] ?_
       refine tkU 12 [] ?_
       refine tkU 13 [] ?_
       refine tkU 14 [] ?_
       refine tkU 15 [] ?_
       refine wpAnyU_oneD (i := 16) rfl (by kernel_rfl) (fun K hK => ?_)
       go_simp
       have tb := heap_alloc_new wX (.cells #[.int .i64 (j : Int), .int .i64 0] 83)
       obtain ⟨wY, hwY⟩ := xQ (wX.alloc (.cells #[.int .i64 (j : Int), .int .i64 0] 83))
       have hbY : Below wX.1.size wX wY := by rw [← hwY]; exact bR.alloc lR _
       have hbY0 := s5X.trans (hbY.mono s5X.size)
       obtain ⟨t0, t1, t2, -, -, -, -⟩ := HAA.out _ hbY0
       have tr := bC hbY (s2X.main.lt W0.1.size rfl).2 hS.2.2.2
       have hoY := own_below hoX hbY
       rw [hwY] at tb ⊢
       have hwY' : wY = wX.alloc (.cells #[.int .i64 (j : Int), .int .i64 0] 83) := hwY.symm
       clear hwY
       refine hK.out _ _ ⟨t0, t1, t2, tr⟩ (fun hS => ?_)
       clear hK
       refine wpAnyU_oneD (i := 17) rfl (by kernel_rfl) (fun K hK => ?_)
       refine step_push rfl (.tmp 57) (.tmp 68) 81 rfl W0.1.size 83 2 16 sliceEd _ _ _ hoY (by rfl) wX.1.size #[.int .i64 (j : Int), .int .i64 0] (by rfl) tb rfl (by simp [Value.oneCell']) (by omega) (by omega) (by have := hbY0.size; omega) ?_
       intro uZ wZ hownZ htZ hatZ _
       obtain ⟨gZ, cZ, rfl⟩ := ownsRow_succ hownZ
       have hbZ : Below W0.1.size W0 wZ := hbY0.trans (htZ.below hbY0.size (fun k hk e => by have := (hoX.lt k e).1; omega))
       obtain ⟨z0, z1, z2, -, -, -, -⟩ := HAA.out _ hbZ
       obtain ⟨r1, r2, r3, r5⟩ := WRows.grow (ys := Y ++ [⟨(j : Int), 0⟩]) s2X s5X hwY' hu hoX (by rw [ncells_append]; simpa [ncells] using hownZ) htZ hatZ
       have R5 := dh r5
       clear r3 r5
       refine hK.out _ _ ⟨z0, z1, z2, r1⟩ (fun hS => ?_)
       clear hK
       refine tkU 18 [] ?_
       refine wpAnyU_lastD (i := 19) rfl (by kernel_rfl) (by kernel_rfl) (fun K hK => ?_)
       go_simp
       refine hK.out _ _ ?_
       clear hK
       refine wpAnyU_done (by kernel_rfl) ?_
       clear hS
       go_wp2_with fail
       go_roundw
       case rel => exact ⟨m + 1, by omega, congrArg (Value.int .i64) (by omega), by rw [HPx.out]; have r5 := R5.out; rw [List.set_set] at r5; exact r5⟩
       case measure => simp [intOf]; omega
    ·have hme : m = x.to.length := by omega
     have HT3 := dh (show WRows W0 W0.1.size nn (upT nn (openR a) [] (q + 1)) wr by rw [HFIN.out]; have := HT.out; rwa [hme, List.take_length] at this)
     clear hme
     go_wp2_with fail
     go_roundw
     case rel => exact ⟨q + 1, by omega, congrArg (Value.int .i64) (by omega), HT3.out⟩
     case measure => simp [intOf]; omega
  ·obtain ⟨wg, hwg⟩ : ∃ X : World, X = wr := ⟨_, rfl⟩
   have hqn : q = nn := by omega
   have e : upT nn (openR a) [] nn = openE a := by rw [upT_full, HNN.out]; rfl
   rw [hqn, e] at hT
   rw [← hwg] at hT hbel hzp f2 ⊢
   clear hwg
   obtain ⟨vs, s2, -⟩ := hT
   have hmkU := run_make_row' (P := Tryz.prog) 27 34 (.int .u64 0) 8 Tryz.underlying27 infoU rfl .i64 .i64 nn (by omega) (by omega)
   obtain ⟨W9, hW9⟩ := xQ ((wg.alloc (.cells (madeCells #[.int .u64 0] nn) 34)).alloc (.cells #[.slice none 0 0, .slice (some ⟨W0.1.size, 0, none⟩) nn nn, .slice (some ⟨wg.1.size, 0, none⟩) nn nn] 55))
   have hb9 : Below wg.1.size wg W9 := by rw [← hW9]; exact (bR.alloc lR _).alloc (by simp) _
   have hz9 : W9.1.size = wg.1.size + 2 := by rw [← hW9]; simp
   have hg9 : W9.1[wg.1.size + 1]? = some (.cells #[.slice none 0 0, .slice (some ⟨W0.1.size, 0, none⟩) nn nn, .slice (some ⟨wg.1.size, 0, none⟩) nn nn] 55 (0, 0)) := by
    rw [← hW9]
    exact heap_new (by simp)
   have hl9 : W9.ownsRow wg.1.size 34 1 (.slice (some ⟨wg.1.size, 0, none⟩) nn nn) nn ((List.replicate nn (0 : Int)).map (.int .u64)) := by
    have h1 := own_made (w := wg) (base := wg.1.size) (e := 34) (v := .int .u64 0) (n := nn) lR (by unfold maxLen; omega)
    have h2 := h1.alloc (.cells #[.slice none 0 0, .slice (some ⟨W0.1.size, 0, none⟩) nn nn, .slice (some ⟨wg.1.size, 0, none⟩) nn nn] 55)
    rw [hW9] at h2
    rw [List.map_replicate]
    exact h2
   have HE9 := dh (s2.below hb9)
   have HL9 := dh hl9
   have HG9 := dh hg9
   have HB9 := dh (hbel.trans (hb9.mono hzp))
   have HW9 := dh hW9
   go_upto_region 11 with fail
   clear hmkU hW9 hg9 hl9 hb9 s2 f2 hqn e
   go_wp2_with fail
   go_loopw [7] (fun i wr' => ∃ (m : Nat) (vi : Value), m ≤ ni ∧ i = .int .i64 (m : Int) ∧ Hid (wr'.1[wg.1.size + 1]? = some (.cells #[vi, .slice (some ⟨W0.1.size, 0, none⟩) nn nn, .slice (some ⟨wg.1.size, 0, none⟩) nn nn] 55 (0, 0))) ∧ Hid (wr'.ownsRow W9.1.size 3 1 vi (openK a (a.init.take m)).length (icells (openK a (a.init.take m)))) ∧ Hid (Tch (fun k => k = wg.1.size + 1) W9 wr')) (fun i _ => ni - (intOf i).toNat)
   case atStart => exact ⟨0, _, by omega, rfl, HG9, dh (World.ownsRow_nil _ _ _ _), dh (Tch.refl _ _)⟩
   case round =>
    obtain ⟨m, vi, hm, rfl, HG, HO, HT⟩ := hrel
    have hz := HT.out.size
    have hbw : Below W0.1.size W0 wr := HB9.out.trans (HT.out.below HB9.out.size (fun k hk e => by have e : k = wg.1.size + 1 := e; omega))
    have HBW := dh hbw
    have hzw := hbw.size
    have f1 := bC hbw hwl HA1.out
    clear hbw
    by_cases hlt : m < ni
    ·have wm : IntKind.i64.wrap ((m : Int) + 1) = (m : Int) + 1 := by rw [wI]; omega
     have hm0 : (0 : Int) ≤ (m : Int) := by omega
     have hm1 : (m : Int) < (ni : Int) := by omega
     have hil : m < a.init.length := by rw [← HNI.out]; exact hlt
     obtain ⟨bi, oi, hAi, hbi, ci0⟩ := rd_intS HR.out.init hil
     have hbi0 : bi < W0.1.size := by omega
     obtain ⟨j, hj, hjN⟩ := isNd_nat (HOK.out.1 a.init[m] (mM hil))
     rw [← HNN.out] at hjN
     have HSN := dh (openK_snoc a hil)
     rw [hj] at ci0 HSN
     rw [tN] at HSN
     obtain ⟨b, off, y, Ay, cy, hAy, hby, hy, g0, g1, g2, g3, -⟩ := rd_aut HR.out hjN
     have hbl : b < W0.1.size := by omega
     have hjx : a.at j = y := by unfold Aut.at; rw [gD, hy]; rfl
     have hym : y ∈ a.nodes := List.mem_of_getElem? hy
     have HJX := dh hjx
     have HCJ := dh (fun W => canR_any y Ay y.to.length cy W (hnd y hym).1 (hnd y hym).2)
     have hj0 : (0 : Int) ≤ (j : Int) := by omega
     have hj1 : (j : Int) < (nn : Int) := by omega
     subst hAi
     subst hAy
     have HAA : Hid (∀ W', Below W0.1.size W0 W' → W'.cell? ⟨w.1.size, 1, none⟩ = some (.slice (some ⟨bi, oi, none⟩) ni ci) ∧ W'.cell? ⟨w.1.size, 2, none⟩ = some (.slice (some ⟨b, off, none⟩) nn cn) ∧ W'.cell? ⟨bi, oi + m, none⟩ = some (.int .i64 (j : Int)) ∧ W'.cell? ⟨b, off + j * 4, none⟩ = some (.int .u64 (y.need : Int)) ∧ W'.cell? ⟨b, off + j * 4 + 1, none⟩ = some (.int .u64 (y.ban : Int)) ∧ W'.cell? ⟨b, off + j * 4 + 2, none⟩ = some (.int .u64 (y.inn : Int)) ∧ W'.cell? ⟨b, off + j * 4 + 3, none⟩ = some (.slice Ay y.to.length cy)) :=
      dh (fun W' hb => ⟨bC hb hwl HA1.out, bC hb hwl HA2.out, bC hb hbi0 ci0, bC hb hbl g0, bC hb hbl g1, bC hb hbl g2, bC hb hbl g3⟩)
     clear hj hy hjx g0 g1 g2 g3 ci0
     go_wp2_with fail
     clear f1
     obtain ⟨k0, k1, k2, k3, k4, k5, k6⟩ := HAA.out _ HBW.out
     refine wp_region_held_drew (S := fun w' => w'.cell? ⟨w.1.size, 1, none⟩ = some (.slice (some ⟨bi, oi, none⟩) ni ci) ∧ w'.cell? ⟨w.1.size, 2, none⟩ = some (.slice (some ⟨b, off, none⟩) nn cn) ∧ w'.cell? ⟨bi, oi + m, none⟩ = some (.int .i64 (j : Int)) ∧ w'.cell? ⟨b, off + j * 4, none⟩ = some (.int .u64 (y.need : Int)) ∧ w'.cell? ⟨b, off + j * 4 + 1, none⟩ = some (.int .u64 (y.ban : Int)) ∧ w'.cell? ⟨b, off + j * 4 + 2, none⟩ = some (.int .u64 (y.inn : Int)) ∧ w'.cell? ⟨b, off + j * 4 + 3, none⟩ = some (.slice Ay y.to.length cy)) (by kernel_rfl) ⟨k0, k1, k2, k3, k4, k5, k6⟩ (fun hS => ?_)
     refine tkH 0 ?_
     refine tkH 1 ?_
     refine tkH 2 ?_
     refine tkH 3 ?_
     refine tkH 4 ?_
     refine tkH 5 ?_
     refine tkH 6 ?_
     refine tkH 7 ?_
     refine tkH 8 ?_
     refine oneH 9 (fun K hK => ?_)
     go_simp
     refine (HCJ.out _).mono ?_
     rintro e w8 ⟨rfl, hb8'⟩
     have hb8 : Below wr.1.size wr w8 := below_undrew hb8'
     have HB8 := dh (HBW.out.trans (hb8.mono hzw))
     have HG8 := dh ((hb8.block (wg.1.size + 1) (aI.1 HG.out).1).trans HG.out)
     have HO8 := dh (own_below HO.out hb8)
     have HT8 := dh (HT.out.then_ (below_tch hb8))
     clear hb8 hb8'
     dsimp only
     refine hK.out _ _ (HAA.out _ HB8.out) (fun hS => ?_)
     clear hK
     refine wpAnyH_done (by kernel_rfl) ?_ _
     clear k0 k1 k2 k3 k4 k5 k6 hS
     obtain ⟨k0, k1, k2, -, -, -, -⟩ := HAA.out _ HB8.out
     cases hcj : canB y
     ·have HPx : Hid (openK a (a.init.take (m + 1)) = openK a (a.init.take m)) := dh (by rw [HSN.out, HJX.out, hcj]; simp)
      clear hcj
      go_wp2_with fail
      go_roundw
      case rel => exact ⟨m + 1, vi, by omega, congrArg (Value.int .i64) (by omega), HG8, dh (by rw [HPx.out]; exact HO8.out), HT8⟩
      case measure => simp [intOf]; omega
     ·have HPx : Hid (openK a (a.init.take (m + 1)) = openK a (a.init.take m) ++ [(j : Int)]) := dh (by rw [HSN.out, HJX.out, hcj]; simp)
      clear hcj
      have hle : (openK a (a.init.take m)).length ≤ m := Nat.le_trans (List.length_filter_le _ _) (by rw [List.length_take]; omega)
      generalize openK a (a.init.take m) = Y at *
      obtain ⟨np, hnp⟩ := xQ Y.length
      have HNP := dh hnp
      rw [hnp] at HO8 hle
      clear hnp HO
      obtain ⟨Av, cv, rfl, -⟩ := own_sl HO8.out
      have hgr : w8.cell? ⟨wg.1.size + 1, 0, none⟩ = some (.slice Av np cv) := cR HG8.out
      go_wp2_with fail
      refine wp_region_U (S := fun w' => w'.cell? ⟨w.1.size, 1, none⟩ = some (.slice (some ⟨bi, oi, none⟩) ni ci) ∧ w'.cell? ⟨bi, oi + m, none⟩ = some (.int .i64 (j : Int)) ∧ w'.cell? ⟨wg.1.size + 1, 0, none⟩ = some (.slice Av np cv)) 10 (by kernel_rfl) ⟨k0, k2, hgr⟩ (fun hS => ?_)
      obtain ⟨wX, hwX⟩ := xQ w8.drew
      have hbD : Below w8.1.size w8 wX := by rw [← hwX]; exact Below.drew bR
      have hbX := HB8.out.trans (hbD.mono HB8.out.size)
      have hgX := (hbD.block (wg.1.size + 1) (aI.1 HG8.out).1).trans HG8.out
      have hoX := own_below HO8.out hbD
      have htX := HT8.out.then_ (below_tch hbD)
      rw [hwX] at hS ⊢
      clear hwX hbD k0 k1 k2 hgr
      refine tkU 0 [] ?_
      refine tkU 1 [] ?_
      refine tkU 2 [] ?_
      refine tkU 3 [] ?_
      refine tkU 4 [] ?_
      refine tkU 5 [] ?_
      refine tkU 6 [] ?_
      refine wpAnyU_oneD (i := 7) rfl (by kernel_rfl) (fun K hK => ?_)
      go_simp
      have tb := heap_alloc_new wX (.cells #[.int .i64 (j : Int)] 3)
      obtain ⟨wY, hwY⟩ := xQ (wX.alloc (.cells #[.int .i64 (j : Int)] 3))
      have hbY : Below wX.1.size wX wY := by rw [← hwY]; exact bR.alloc lR _
      have hbY0 := hbX.trans (hbY.mono hbX.size)
      obtain ⟨t0, -, t2, -, -, -, -⟩ := HAA.out _ hbY0
      have hgY := (hbY.block (wg.1.size + 1) (aI.1 hgX).1).trans hgX
      have tg : wY.cell? ⟨wg.1.size + 1, 0, none⟩ = some (.slice Av np cv) := cR hgY
      have hoY := own_below hoX hbY
      have htY := htX.then_ (below_tch hbY)
      rw [hwY] at tb ⊢
      clear hwY
      refine hK.out _ _ ⟨t0, t2, tg⟩ (fun hS => ?_)
      clear hK
      refine wpAnyU_oneD (i := 8) rfl (by kernel_rfl) (fun K hK => ?_)
      refine step_push rfl (.tmp 94) (.tmp 100) 22 rfl W9.1.size 3 1 8 sliceInt _ _ _ hoY (by rfl) wX.1.size #[.int .i64 (j : Int)] (by rfl) tb rfl (by simp [Value.oneCell']) (by omega) (by omega) (by have := htY.size; omega) ?_
      intro uZ wZ hownZ htZ hatZ _
      obtain ⟨gZ, cZ, rfl⟩ := ownsRow_succ hownZ
      have hbZ : Below W0.1.size W0 wZ := hbY0.trans (htZ.below hbY0.size (fun k hk e => by have := (hoX.lt k e).1; have := HB9.out.size; omega))
      obtain ⟨z0, -, z2, -, -, -, -⟩ := HAA.out _ hbZ
      have hgZ := htZ.blk hgY (fun e => own_ne_blk hoY hgY (by decide) e)
      have zg : wZ.cell? ⟨wg.1.size + 1, 0, none⟩ = some (.slice Av np cv) := cR hgZ
      have zf : wZ.frozen? ⟨wg.1.size + 1, 0, none⟩ = false := frozen_of_row wZ _ 0 _ _ hgZ
      have zl : wg.1.size + 1 < wZ.1.size := (aI.1 hgZ).1
      have htZ9 : Tch (fun k => k = wg.1.size + 1) W9 wZ := htY.trans htZ (fun k hk e => by have := (hoX.lt k e).1; omega)
      have HGZ := dh hgZ
      have HOZ := dh hownZ
      have HTZ := dh htZ9
      clear hgZ hownZ htZ htZ9 hatZ
      refine hK.out _ _ ⟨z0, z2, zg⟩ (fun hS => ?_)
      clear hK
      refine tkU 9 [] ?_
      refine wpAnyU_lastD (i := 10) rfl (by kernel_rfl) (by kernel_rfl) (fun K hK => ?_)
      go_simp
      refine hK.out _ _ ?_
      clear hK
      refine wpAnyU_done (by kernel_rfl) ?_
      clear hS
      go_wp2_with fail
      go_roundw
      case rel => exact ⟨m + 1, _, by omega, congrArg (Value.int .i64) (by omega), dh (by rw [heap_setCell_same wZ _ 0 _ _ _ HGZ.out]; rfl), dh (by rw [HPx.out, lA, icells_append, HNP.out]; exact own_tch HOZ.out (tch_cell (w := wZ) (wg.1.size + 1) 0 _) (fun g hg e => own_ne_blk HOZ.out HGZ.out (by decide) (by rw [hg, e]))), dh (HTZ.out.then_ (tch_cell (w := wZ) (wg.1.size + 1) 0 _))⟩
      case measure => simp [intOf]; omega
    ·have hme : m = ni := by omega
     have HO2 : Hid (wr.ownsRow W9.1.size 3 1 vi (openI a).length (icells (openI a))) := dh (by
      have := HO.out
      rw [hme, HNI.out, List.take_length] at this
      exact this)
     clear HO hme
     obtain ⟨np, hnp⟩ := xQ (openI a).length
     have HNP := dh hnp
     rw [hnp] at HO2
     clear hnp
     obtain ⟨Av, cv, rfl, -⟩ := own_sl HO2.out
     have hy : wr.1[w.1.size + 1]? = some (.cells #[.slice none 0 0, .slice none 0 0, .slice none 0 0] 55 (0, 0)) := (HBW.out.block (w.1.size + 1) (by have := HZ0.out; omega)).trans HY0.out
     obtain ⟨⟨c0, c1, c2⟩, -, hgl⟩ := blk3 HG.out
     obtain ⟨⟨y0, y1, y2⟩, ⟨p0, p1, p2⟩, hyl⟩ := blk3 hy
     have HY := dh hy
     have hEr := HE9.out.keepG HT.out HG9.out
     have hLr := own_tch HL9.out HT.out (fun g hg e => own_ne_blk HL9.out HG9.out (by decide) (by rw [hg, e]))
     have HER := dh hEr
     have HLR := dh hLr
     clear hy hEr hLr
     go_wp2_with fail
     obtain ⟨F, hF⟩ := xQ (((wr.setCell ⟨w.1.size + 1, 0, none⟩ (.slice Av np cv)).setCell ⟨w.1.size + 1, 1, none⟩ (.slice (some ⟨W0.1.size, 0, none⟩) nn nn)).setCell ⟨w.1.size + 1, 2, none⟩ (.slice (some ⟨wg.1.size, 0, none⟩) nn nn))
     have hset := heap_set3 (x := .slice Av np cv) (y := .slice (some ⟨W0.1.size, 0, none⟩) nn nn) (z := .slice (some ⟨wg.1.size, 0, none⟩) nn nn) HY.out
     have htc := tch3R wr (w.1.size + 1) (.slice Av np cv) (.slice (some ⟨W0.1.size, 0, none⟩) nn nn) (.slice (some ⟨wg.1.size, 0, none⟩) nn nn)
     rw [hF] at hset htc ⊢
     clear hF y0 y1 y2 p0 p1 p2 c0 c1 c2
     obtain ⟨⟨g0, g1, g2⟩, -, -⟩ := blk3 hset
     have hzF := htc.size
     have h1 := own_tch HO2.out htc (fun g hg e => own_ne_blk HO2.out HY.out (by decide) (by rw [hg, e]))
     have h2 := HER.out.keepG htc HY.out
     have h3 := own_tch HLR.out htc (fun g hg e => own_ne_blk HLR.out HY.out (by decide) (by rw [hg, e]))
     refine bodyPost_ret (v := .agg #[.slice Av np cv, .slice (some ⟨W0.1.size, 0, none⟩) nn nn, .slice (some ⟨wg.1.size, 0, none⟩) nn nn]) ?_ rfl ?_
     ·simp [results, Tryz.results58, go_sem, g0, g1, g2]
     ·obtain ⟨_, _, f1, s1⟩ := own_sl h1
      cases f1
      obtain ⟨_, _, f2, s2⟩ := h2.sl2
      cases f2
      obtain ⟨_, _, f3, s3⟩ := own_sl h3
      cases f3
      exact ⟨_, _, _, _, _, _, _, _, _, rfl, ⟨s1, s2, s3⟩, (HB0.out.trans (HBW.out.mono (by have := HZ0.out; omega))).trans (htc.below (by omega) (fun k hk e => by have e : k = w.1.size + 1 := e; omega)), vs, h2.rebase (by have := HZ0.out; omega)⟩
end Go.Proofs.YtiebpncpdbnelaaGreatDoor
