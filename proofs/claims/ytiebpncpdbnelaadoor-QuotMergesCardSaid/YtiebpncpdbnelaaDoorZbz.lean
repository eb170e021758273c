/- Texts that stand one behind the other, in one file. -/
import Derived.Test.YtiebpncpdbnelaaDoorZbu
import Derived.Test.YtiebpncpdbnelaaDoorRd6
import Derived.Test.YtiebpncpdbnelaaDoorTie
import Derived.Test.YtiebpncpdbnelaaDoorCards
import Derived.SevenTiedAt
import Derived.LaidMore
import Derived.Lib.LaidTab
import Derived.RangeFuncOwn
set_option maxHeartbeats 8000000
set_option maxRecDepth 100000
namespace Go.Proofs.YtiebpncpdbnelaaDoor
open Go.RowKit
theorem mergeRBad (a : Aut) (Ai : Option Addr) (ni ci : Nat) (An : Option Addr) (nn cn : Nat) (w : World) (B : Nat) (h : AutRd w B a Ai ni ci An nn cn) (hB : B ≤ w.1.size) (hck : ¬ chkA a = 0) (KE : Nat) (_hr : ∀ x ∈ a.nodes, x.to.length ≤ KE) (_hri : a.init.length ≤ 1000000) (_hKE : KE ≤ 1000000) :
  Calls Tryd.prog 17 #[.agg #[.int .i64 a.sets, .slice Ai ni ci, .slice An nn cn]] w (AutOneS w Aut.zero) := by
 obtain ⟨hb0, x0, y0, z0⟩ := two_new w (.cells #[.int .i64 a.sets, .slice Ai ni ci, .slice An nn cn] 25) (.cells #[.int .i64 0, .slice none 0 0, .slice none 0 0] 25)
 obtain ⟨W0, hW0⟩ := xQ ((w.alloc (.cells #[.int .i64 a.sets, .slice Ai ni ci, .slice An nn cn] 25)).alloc (.cells #[.int .i64 0, .slice none 0 0, .slice none 0 0] 25))
 rw [hW0] at hb0 x0 y0 z0
 have HR0 := dh (h.below hb0 hB)
 have HC0 := dh (chkR_any a Ai ni ci An nn cn W0 B HR0.out (by omega))
 have hne : ((chkA a) == 0) = false := by rw [beq_eq_false_iff_ne]; exact hck
 have hne2 : ((chkA a) != 0) = true := by rw [bne_iff_ne]; exact hck
 have hne3 : decide (chkA a = 0) = false := decide_eq_false hck
 have HW0 := dh hW0
 have HB0 := dh hb0
 have HY0 := dh y0
 have hww : w.1.size + 1 < W0.1.size := by omega
 obtain ⟨q0, q1, q2⟩ := box3A x0
 clear hW0 hb0 x0 y0 z0 h hck
 go_enter Tryd.func17, Tryd.ntmps17
 go_upto_region 1 with fail
 rw [HW0.out]
 go_wp2_with fail
 refine HC0.out.mono ?_
 rintro e w1 ⟨rfl, hb1⟩
 have hy1 := (hb1.block (w.1.size + 1) hww).trans HY0.out
 have HBB := dh (HB0.out.trans (hb1.mono (show w.1.size ≤ W0.1.size by omega)))
 have hz1 := hb1.size
 obtain ⟨y0, y1, y2⟩ := box3A hy1
 have f0 : w1.frozen? ⟨w.1.size + 1, 0, none⟩ = false := frozen_of_row w1 _ 0 _ _ hy1
 have f1 : w1.frozen? ⟨w.1.size + 1, 1, none⟩ = false := frozen_of_row w1 _ 1 _ _ hy1
 have f2 : w1.frozen? ⟨w.1.size + 1, 2, none⟩ = false := frozen_of_row w1 _ 2 _ _ hy1
 have yl : w.1.size + 1 < w1.1.size := (aI.1 hy1).1
 have HY := dh hy1
 clear hy1 hb1 q0 q1 q2
 go_wp2_with fail
 have hset := set3A (a := .int .i64 0) (b := .slice none 0 0) (c := .slice none 0 0) HY.out rfl
 have htc := tch3A w1 (w.1.size + 1) (.int .i64 0) (.slice none 0 0) (.slice none 0 0)
 obtain ⟨Y, hY⟩ := xQ (((w1.setCell ⟨w.1.size + 1, 0, none⟩ (.int .i64 0)).setCell ⟨w.1.size + 1, 1, none⟩ (.slice none 0 0)).setCell ⟨w.1.size + 1, 2, none⟩ (.slice none 0 0))
 rw [hY] at hset htc ⊢
 have hbY : Below w.1.size w Y := HBB.out.trans (htc.below (show w.1.size ≤ w1.1.size by omega) (fun y hy e => by have e : y = w.1.size + 1 := e; omega))
 obtain ⟨g0, g1, g2⟩ := box3A hset
 refine bodyPost_ret (v := .agg #[.int .i64 0, .slice none 0 0, .slice none 0 0]) ?_ rfl ⟨none, 0, 0, none, 0, 0, rfl, autRd_nil Y _, hbY, sep_nil Y⟩
 simp [results, Tryd.results17, go_sem, g0, g1, g2]
theorem merge33R_all (a : Aut) (Ai : Option Addr) (ni ci : Nat) (An : Option Addr) (nn cn : Nat) (w : World) (B : Nat) (h : AutRd w B a Ai ni ci An nn cn) (hB : B ≤ w.1.size) (KE : Nat) (hd : NDA a KE) (hKE : KE ≤ 1000000) : Calls Tryd.prog 17 #[.agg #[.int .i64 a.sets, .slice Ai ni ci, .slice An nn cn]] w (AutOneS w (mergeF a)) := by
 unfold mergeF
 by_cases hck : chkA a = 0
 ·rw [if_pos hck]; exact merge33R_any a Ai ni ci An nn cn w B h hB hck hd.nd hd.inn KE hd.rows hd.init hKE
 ·rw [if_neg hck]; exact mergeRBad a Ai ni ci An nn cn w B h hB hck KE hd.rows hd.init hKE
theorem QuotMerges_any (a : Aut) (Ai : Option Addr) (ni ci : Nat) (An : Option Addr) (nn cn : Nat) (w : World) (hrd : AutRd w w.1.size a Ai ni ci An nn cn) (hok : ∀ x ∈ a.nodes, ANdOk x) (_hsW : (Lit.int .i64 a.sets).wf = true) (hT : TabAt 0 Lib.deBruijn64tab w) (hg : 0 < w.1.size) :
  Calls Tryd.prog 3 #[.agg #[.int .i64 a.sets, .slice Ai ni ci, .slice An nn cn]] w (Tru w true) := by
 have hb0 : Below w.1.size w (w.alloc (.cells #[.int .i64 a.sets, .slice Ai ni ci, .slice An nn cn] 25)) := bR.alloc lR _
 have x0 := heap_alloc_new w (.cells #[.int .i64 a.sets, .slice Ai ni ci, .slice An nn cn] 25)
 have z0 : (w.alloc (.cells #[.int .i64 a.sets, .slice Ai ni ci, .slice An nn cn] 25)).1.size = w.1.size + 1 := by simp
 obtain ⟨W0, hW0⟩ := xQ (w.alloc (.cells #[.int .i64 a.sets, .slice Ai ni ci, .slice An nn cn] 25))
 rw [hW0] at hb0 x0 z0
 have hq0 : w.1.size ≤ W0.1.size := by omega
 have HRD := dh (hrd.below hb0 lR)
 have HW0 := dh hW0
 have HB0 := dh hb0
 have HND : Hid (∀ x ∈ a.nodes, x.need < 2 ^ 64 ∧ x.ban < 2 ^ 64) := dh (fun x hx => ⟨(hok x hx).1, (hok x hx).2.1⟩)
 have HINN : Hid (∀ x ∈ a.nodes, x.inn < 2 ^ 64) := dh (fun x hx => (hok x hx).2.2.1)
 have HNN := dh hrd.enn
 have HCL : Hid (∀ W', Below W0.1.size W0 W' → W'.cell? ⟨w.1.size, 0, none⟩ = some (.int .i64 a.sets) ∧ W'.cell? ⟨w.1.size, 1, none⟩ = some (.slice Ai ni ci) ∧ W'.cell? ⟨w.1.size, 2, none⟩ = some (.slice An nn cn)) := dh (fun W' hb => by
  have k0 := (hb.block w.1.size (by omega)).trans x0
  refine ⟨?_, ?_, ?_⟩ <;> (rw [cell_of_row _ _ _ _ _ (0, 0) k0]; rfl))
 have HTB : Hid (∀ W', Below W0.1.size W0 W' → TabAt 0 Lib.deBruijn64tab W' ∧ 0 < W'.1.size) := dh (fun W' hb => by
  have hbw := hb0.trans (hb.mono hq0)
  exact ⟨fun x hx => bC hbw hg (hT x hx), Nat.lt_of_lt_of_le hg hbw.size⟩)
 have HAW : Hid (∀ W', Below W0.1.size W0 W' → Calls Tryd.prog 14 #[] W' (Tru W' true)) := dh (fun W' hb => awake33_any W' (HTB.out W' hb).1 (HTB.out W' hb).2)
 have HHV := dh (heavy33_any a Ai ni ci An nn cn none 0 0 none 0 0 W0 w.1.size HRD.out hq0)
 clear hW0 hb0 x0 z0 hrd hok hT hg
 go_enter Tryd.func3, Tryd.ntmps3
 go_upto_region 1 with fail
 rw [HW0.out]
 obtain ⟨q0, q1, q2⟩ := HCL.out W0 bR
 go_wp2_with fail
 refine HHV.out.mono ?_
 rintro e w1 ⟨rfl, hb1⟩
 have hz1 := hb1.size
 have HB1 := dh hb1
 clear q0 q1 q2 hb1
 cases hh : heavy33 a 0 0
 rotate_left 1
 ·have HAW1 := dh (HAW.out w1 HB1.out)
  clear hh
  go_wp2_with fail
  refine HAW1.out.mono ?_
  rintro e w9 ⟨rfl, hb9⟩
  have HB9 := dh (HB0.out.trans ((HB1.out.trans (hb9.mono HB1.out.size)).mono hq0))
  clear hb9
  go_wp2_with fail
  go_ret
  exact ⟨rfl, HB9.out⟩
 ·obtain ⟨hc1, hc2, -, -, hc5⟩ := heavy33_bd hh
  have HC5 := dh hc5
  have hnn : nn ≤ 16 := by rw [HNN.out]; exact hc1
  have HDA : Hid (NDA a 40) := dh ⟨HND.out, HINN.out, HC5.out, by omega⟩
  clear hh hc5
  have HPP : Hid (∀ W', Below W0.1.size W0 W' → Calls Tryd.prog 16 #[.agg #[.int .i64 a.sets, .slice Ai ni ci, .slice An nn cn]] W' (AutOneS W' (mergeF a))) := dh (fun W' hb => mergeP_all a Ai ni ci An nn cn W' w.1.size (HRD.out.below hb hq0) (Nat.le_trans hq0 hb.size) 40 HDA.out (by omega))
  have HPR : Hid (∀ W', Below W0.1.size W0 W' → Calls Tryd.prog 17 #[.agg #[.int .i64 a.sets, .slice Ai ni ci, .slice An nn cn]] W' (AutOneS W' (mergeF a))) := dh (fun W' hb => merge33R_all a Ai ni ci An nn cn W' w.1.size (HRD.out.below hb hq0) (Nat.le_trans hq0 hb.size) 40 HDA.out (by omega))
  have HSL := dh (merge_small HDA.out).less
  have HSN := dh (merge_small HDA.out).nda
  obtain ⟨b, hfb⟩ := xQ (mergeF a)
  rw [hfb] at HPP HPR HSL HSN
  clear hfb
  obtain ⟨s0, s1, s2⟩ := HCL.out w1 HB1.out
  go_upto_region 3 with fail
  refine wp_region_held_drew (S := fun w' => w'.cell? ⟨w.1.size, 0, none⟩ = some (.int .i64 a.sets) ∧ w'.cell? ⟨w.1.size, 1, none⟩ = some (.slice Ai ni ci) ∧ w'.cell? ⟨w.1.size, 2, none⟩ = some (.slice An nn cn)) (by kernel_rfl) ⟨s0, s1, s2⟩ (fun hS => ?_)
  refine tkH 0 ?_
  refine tkH 2 ?_
  refine oneH 1 (fun K hK => ?_)
  go_simp
  refine (HPP.out _ (Below.drew HB1.out)).mono ?_
  rintro e w3 ⟨Pi, Pj, Pk, Pn, Pm, Po, rfl, hr3, hb', -⟩
  have hb3 : Below W0.1.size W0 w3 := ((Below.drew HB1.out)).trans (hb'.mono ((Below.drew HB1.out)).size)
  clear hb'
  dsimp only
  refine hK.out _ _ (HCL.out _ hb3) (fun hS => ?_)
  clear hK
  refine oneH 3 (fun K hK => ?_)
  go_simp
  refine (HPR.out _ hb3).mono ?_
  rintro e w4 ⟨Ri, Rj, Rk, Rn, Rm, Ro, rfl, hr4, hb', -⟩
  have hb4 : Below W0.1.size W0 w4 := (hb3).trans (hb'.mono (hb3).size)
  have hr3x := (hr3.below hb' lR).up hb'.size
  clear hb'
  dsimp only
  refine hK.out _ _ (HCL.out _ hb4) (fun hS => ?_)
  clear hK
  refine oneH 4 (fun K hK => ?_)
  go_simp
  have HKK := dh (sameRB_any b b _ _ _ _ _ _ _ _ _ _ _ _ w4 w4.1.size hr3x hr4 lR (by have := HSL.out.nodes; omega) (by have := HSL.out.init; omega) (fun x hx => by have := HSN.out.rows x hx; omega))
  rw [decide_eq_true rfl] at HKK
  refine HKK.out.mono ?_
  rintro e w5 ⟨rfl, hb'⟩
  have hb5 : Below W0.1.size W0 w5 := hb4.trans (hb'.mono hb4.size)
  clear hb' HKK hr3 hr4 hr3x
  dsimp only
  refine hK.out _ _ (HCL.out _ hb5) (fun hS => ?_)
  clear hK
  refine tkH 5 ?_
  refine oneH 6 (fun K hK => ?_)
  go_simp
  refine (HAW.out _ hb5).mono ?_
  rintro e w6 ⟨rfl, hb'⟩
  have hb6 : Below W0.1.size W0 w6 := hb5.trans (hb'.mono hb5.size)
  clear hb'
  dsimp only
  refine hK.out _ _ (HCL.out _ hb6) (fun hS => ?_)
  clear hK
  refine tkH 7 ?_
  refine tkH 8 ?_
  refine wpAnyH_done (by kernel_rfl) ?_ _
  clear hS
  have HBF := dh (HB0.out.trans (hb6.mono hq0))
  go_wp2_with fail
  go_ret
  exact ⟨rfl, HBF.out⟩
end Go.Proofs.YtiebpncpdbnelaaDoor
namespace Go.Proofs.YtiebpncpdbnelaaDoor
open Go.ChangeShapes Go.WideShapes Go.ChangeAt Go.RowKit Go.Shelf
theorem door_met (os : Os) (args : Array Value) : laidMetH Tryd.prog [("math/bits.deBruijn64tab", Rows.laid_math_bits_deBruijn64tab)] ((World.doorLaid Tryd.prog 14 os).forCall (fun _ _ => 0) ⟨#[], args, []⟩).memory :=
 laidMetH_of_parts3 (fuel := 8) (laidMet_of_run' 8 (by kernel_rfl) (by kernel_rfl)) (by kernel_rfl) (by kernel_rfl)
theorem gTab : Tryd.prog.globalNamed "math/bits.deBruijn64tab" = some 0 := by kernel_rfl
theorem tTab : (Tryd.prog.globals[0]?).map (·.type) = some 137 := by kernel_rfl
def tabI : List Int := Lib.deBruijn64tab.map (fun (n : Nat) => (n : Int))
theorem tab_of_laid {W : World} (h : laidMetH Tryd.prog [("math/bits.deBruijn64tab", Rows.laid_math_bits_deBruijn64tab)] W) : TabAt 0 Lib.deBruijn64tab W ∧ 0 < W.1.size := by
 rw [MakeChecks.laidMetH_plain _ _ _ (by kernel_rfl)] at h
 have e : ([("math/bits.deBruijn64tab", Rows.laid_math_bits_deBruijn64tab)] : List (String × DataW Unit)) = [("math/bits.deBruijn64tab", Lib.tabData .u8 tabI)] := by rfl
 rw [e] at h
 have hI := Lib.tabIs_of_head gTab tTab Tryd.underlying137 Tryd.underlying5 (by kernel_rfl) (by kernel_rfl) h
 have hT : TabAt 0 Lib.deBruijn64tab W := fun j hj => by
  have := hI.cell gTab j (by simpa [tabI] using hj)
  rw [this]
  simp [tabI, List.getD, hj]
 refine ⟨hT, ?_⟩
 obtain ⟨o, ho, _⟩ := cells_of_cell (hT 0 (by decide))
 exact (aI.1 ho).1
theorem no_stand_in {P : Program} {ts : Array TypeId} {t : TypeId} (hm : t ∈ ts) (h : (ts.toList.all fun u => !P.wantsStandIn u) = true) : P.wantsStandIn t = false := by
 have := List.all_eq_true.1 h t (by simpa using hm)
 simpa using this
end Go.Proofs.YtiebpncpdbnelaaDoor
