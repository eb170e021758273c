/- Texts that stand one behind the other, in one file. -/
import Derived.Test.YtiebpncpdbnelaaDoorZby
import Derived.Test.YtiebpncpdbnelaaDoorTie
import Derived.Test.YtiebpncpdbnelaaDoorCards
import Derived.SevenTiedAt
import Derived.LaidMore
import Derived.Lib.LaidTab
import Derived.RangeFuncOwn
set_option maxHeartbeats 8000000
set_option maxRecDepth 100000
namespace Go.Proofs.YtiebpncpdbnelaaDoor
open Go.RowKit
theorem q_takes {a b : Aut} {W : List Nat} {n2 lp : Nat} (h0 : ¬ chkA a = 0 → b = Aut.zero) (h1 : chkA a = 0 → chkA b = 0 ∧ (Acc b W lp ↔ Acc a W lp)) : (decide (chkA b = 0) && decide (0 < n2) && accB b W lp) = (decide (chkA a = 0) && decide (0 < n2) && accB a W lp) := by
 by_cases h : chkA a = 0
 ·obtain ⟨e1, e2⟩ := h1 h
  have e3 : accB b W lp = accB a W lp := by rw [Bool.eq_iff_iff, accB_iff, accB_iff, e2]
  rw [e1, h, e3]
 ·rw [h0 h]
  have e : accB Aut.zero W lp = false := by
   rw [Bool.eq_false_iff]
   intro h'
   obtain ⟨r, h0, -⟩ := accB_iff.1 h'
   cases h0
  rw [e, decide_eq_false h, Bool.and_false, Bool.false_and, Bool.false_and]
theorem LessA.zero (a : Aut) : LessA Aut.zero a := ⟨Nat.zero_le _, Nat.zero_le _, fun x hx => (by cases hx)⟩
theorem NDA.zero (KE : Nat) : NDA Aut.zero KE := ⟨fun x hx => (by cases hx), fun x hx => (by cases hx), fun x hx => (by cases hx), Nat.zero_le _⟩
structure SmallA (b a : Aut) (KE : Nat) : Prop where
 less : LessA b a
 nda : NDA b KE
theorem merge_small {a : Aut} {KE : Nat} (h : NDA a KE) : SmallA (mergeF a) a KE := by
 unfold mergeF
 split
 ·exact ⟨merge_lessA a, h.merge⟩
 ·exact ⟨LessA.zero a, NDA.zero KE⟩
theorem prune_small {a : Aut} {KE : Nat} (h : NDA a KE) : SmallA (pruneF a) a KE := by
 unfold pruneF
 split
 ·exact ⟨prune_lessA a, h.prune⟩
 ·exact ⟨LessA.zero a, NDA.zero KE⟩
theorem of_small {a : Aut} {KE : Nat} (h : NDA a KE) : SmallA (ofFA a) a KE := by
 unfold ofFA
 split
 ·rename_i hck
  refine ⟨ofQ_lessA (chk_iff.1 hck), ?_⟩
  exact (ofQ_rel (chk_iff.1 hck) (R := fun b a => NDA a KE → NDA b KE) (fun _ h => h) (fun _ _ _ ih h => ih h.trim.merge.prune.trim)) h
 ·exact ⟨LessA.zero a, NDA.zero KE⟩
theorem merge_tk (a : Aut) (W : List Nat) (n2 lp : Nat) : (decide (chkA (mergeF a) = 0) && decide (0 < n2) && accB (mergeF a) W lp) = (decide (chkA a = 0) && decide (0 < n2) && accB a W lp) :=
 q_takes (fun h => if_neg h) (fun h => by unfold mergeF; rw [if_pos h]; exact ⟨chk_iff.2 (chk_iff.1 h).merge, merge_acc (chk_okA h)⟩)
theorem prune_tk (a : Aut) (W : List Nat) (n2 lp : Nat) : (decide (chkA (pruneF a) = 0) && decide (0 < n2) && accB (pruneF a) W lp) = (decide (chkA a = 0) && decide (0 < n2) && accB a W lp) :=
 q_takes (fun h => if_neg h) (fun h => by unfold pruneF; rw [if_pos h]; exact ⟨chk_iff.2 (chk_iff.1 h).prune, prune_acc (chk_okA h)⟩)
theorem of_tk (a : Aut) (W : List Nat) (n2 lp : Nat) : (decide (chkA (ofFA a) = 0) && decide (0 < n2) && accB (ofFA a) W lp) = (decide (chkA a = 0) && decide (0 < n2) && accB a W lp) :=
 q_takes (fun h => if_neg h) (fun h => by unfold ofFA; rw [if_pos h]; exact ⟨chk_iff.2 (ofQ_good (chk_iff.1 h)).1, ofQ_acc (chk_iff.1 h)⟩)
theorem QuotTakes_any (a : Aut) (Ai : Option Addr) (ni ci : Nat) (An : Option Addr) (nn cn : Nat) (A1 A2 : Option Addr) (n1 c1 n2 c2 : Nat) (st lo : List Int) (w : World) (hrd : AutRd w w.1.size a Ai ni ci An nn cn) (hw : WRd w w.1.size A1 A2 n1 c1 n2 c2 st lo) (hok : ∀ x ∈ a.nodes, ANdOk x) (_hsW : (Lit.int .i64 a.sets).wf = true) (hiL : a.init.length ≤ 17592186044416) (_hnL : a.nodes.length ≤ 2932031007402)
  (h1 : ∀ n ∈ st, (Lit.int .u64 n).wf = true) (h2 : ∀ n ∈ lo, (Lit.int .u64 n).wf = true) (_hl1 : st.length ≤ 17592186044416) (_hl2 : lo.length ≤ 17592186044416) (hT : TabAt 0 Lib.deBruijn64tab w) (hg : 0 < w.1.size) :
  Calls Tryd.prog 5 #[.agg #[.int .i64 a.sets, .slice Ai ni ci, .slice An nn cn], .agg #[.slice A1 n1 c1, .slice A2 n2 c2]] w (Tru w true) := by
 obtain ⟨hb0, x0, y0, z0⟩ := two_new w (.cells #[.int .i64 a.sets, .slice Ai ni ci, .slice An nn cn] 25) (.cells #[.slice A1 n1 c1, .slice A2 n2 c2] 29)
 obtain ⟨W0, hW0⟩ := xQ ((w.alloc (.cells #[.int .i64 a.sets, .slice Ai ni ci, .slice An nn cn] 25)).alloc (.cells #[.slice A1 n1 c1, .slice A2 n2 c2] 29))
 rw [hW0] at hb0 x0 y0 z0
 have hq : w.1.size + 1 < W0.1.size := by omega
 have hq0 : w.1.size ≤ W0.1.size := by omega
 have HRD := dh (hrd.below hb0 lR)
 have HWD := dh (hw.below hb0 lR)
 have HW0 := dh hW0
 have HB0 := dh hb0
 have HOK := dh hok
 have HST := dh (fun n hn => by have := bd_u64 (h1 n hn); (exact (⟨by omega, by omega⟩ : 0 ≤ n ∧ n < 18446744073709551616)))
 have HLO := dh (fun n hn => by have := bd_u64 (h2 n hn); (exact (⟨by omega, by omega⟩ : 0 ≤ n ∧ n < 18446744073709551616)))
 have hnd : ∀ x ∈ a.nodes, x.need < 2 ^ 64 ∧ x.ban < 2 ^ 64 := fun x hx => ⟨(hok x hx).1, (hok x hx).2.1⟩
 have hinn : ∀ x ∈ a.nodes, x.inn < 2 ^ 64 := fun x hx => (hok x hx).2.2.1
 have HND := dh hnd
 have HINN := dh hinn
 have HNN := dh hrd.enn
 have HCL : Hid (∀ W', Below W0.1.size W0 W' → W'.cell? ⟨w.1.size, 0, none⟩ = some (.int .i64 a.sets) ∧ W'.cell? ⟨w.1.size, 1, none⟩ = some (.slice Ai ni ci) ∧ W'.cell? ⟨w.1.size, 2, none⟩ = some (.slice An nn cn) ∧ W'.cell? ⟨w.1.size + 1, 0, none⟩ = some (.slice A1 n1 c1) ∧ W'.cell? ⟨w.1.size + 1, 1, none⟩ = some (.slice A2 n2 c2)) := dh (fun W' hb => by
  have k0 := (hb.block w.1.size (by omega)).trans x0
  have k1 := (hb.block (w.1.size + 1) hq).trans y0
  refine ⟨?_, ?_, ?_, ?_, ?_⟩ <;> first | (rw [cell_of_row _ _ _ _ _ (0, 0) k0]; rfl) | (rw [cell_of_row _ _ _ _ _ (0, 0) k1]; rfl))
 have HAW : Hid (∀ W', Below W0.1.size W0 W' → Calls Tryd.prog 14 #[] W' (Tru W' true)) := dh (fun W' hb => by
  have hbw := hb0.trans (hb.mono hq0)
  exact awake33_any W' (fun x hx => bC hbw hg (hT x hx)) (Nat.lt_of_lt_of_le hg hbw.size))
 have HTB : Hid (∀ W', Below W0.1.size W0 W' → TabAt 0 Lib.deBruijn64tab W' ∧ 0 < W'.1.size) := dh (fun W' hb => by
  have hbw := hb0.trans (hb.mono hq0)
  exact ⟨fun x hx => bC hbw hg (hT x hx), Nat.lt_of_lt_of_le hg hbw.size⟩)
 have HHV := dh (heavy33_any a Ai ni ci An nn cn A1 n1 c1 A2 n2 c2 W0 w.1.size HRD.out hq0)
 have hl1' := hw.l1
 have hl2' := hw.l2
 have HL1 := dh hl1'
 have HL2 := dh hl2'
 clear hW0 hb0 x0 y0 z0 hrd hw hok hnd hinn h1 h2 hT hg hl1' hl2'
 go_enter Tryd.func5, Tryd.ntmps5
 go_upto_region 1 with fail
 rw [HW0.out]
 obtain ⟨q0, q1, q2, p0, p1⟩ := HCL.out W0 bR
 go_wp2_with fail
 refine HHV.out.mono ?_
 rintro e w1 ⟨rfl, hb1⟩
 have hz1 := hb1.size
 have HB1 := dh hb1
 clear q0 q1 q2 p0 p1 hb1
 cases hh : heavy33 a n1 n2
 rotate_left 1
 ·have HAW1 := dh (HAW.out w1 HB1.out)
  clear hh
  go_wp2_with fail
  refine HAW1.out.mono ?_
  rintro e w2 ⟨rfl, hb2⟩
  have HB2 := dh (HB0.out.trans ((HB1.out.trans (hb2.mono hz1)).mono hq0))
  clear hb2
  go_wp2_with fail
  go_ret
  exact ⟨rfl, HB2.out⟩
 ·obtain ⟨hc1, hc2, hc3, hc4, hc5⟩ := heavy33_bd hh
  have HC5 := dh hc5
  have hnn : nn ≤ 16 := by rw [HNN.out]; exact hc1
  clear hh hc5
  have hda : NDA a 40 := ⟨HND.out, HINN.out, HC5.out, by omega⟩
  have hTP : ∀ (b : Aut) (Di : Option Addr) (mi di : Nat) (Dn : Option Addr) (mn dn : Nat) (W' : World), AutRd W' W'.1.size b Di mi di Dn mn dn → SmallA b a 40 → Below W0.1.size W0 W' → Calls Tryd.prog 20 #[.agg #[.int .i64 b.sets, .slice Di mi di, .slice Dn mn dn], .agg #[.slice A1 n1 c1, .slice A2 n2 c2]] W' (Tru W' (decide (chkA b = 0) && decide (0 < n2) && accB b (wordA st lo) n1)) := by
   intro b Di mi di Dn mn dn W' h1 h2 hb
   have hmn := h1.enn
   have hl1 := h2.less.nodes
   have hl2 := h2.less.init
   have hk0 : mn * (n1 + n2) ≤ 16 * 24 := Nat.mul_le_mul (by omega) (by omega)
   have hk1 : mn * (n1 + n2) * 40 ≤ 16 * 24 * 40 := Nat.mul_le_mul_right _ hk0
   exact takesR_any b Di mi di Dn mn dn A1 A2 n1 c1 n2 c2 st lo W' W'.1.size h1 ((HWD.out.below hb hq0).up (Nat.le_trans hq0 hb.size)) lR (by omega) (by omega) HST.out HLO.out h2.nda.nd 40 h2.nda.rows (by omega) (by omega) (by omega)
  obtain ⟨tv, htv⟩ := xQ (decide (chkA a = 0) && decide (0 < n2) && accB a (wordA st lo) n1)
  have HT0 := dh (hTP a Ai ni ci An nn cn w1 ((HRD.out.below HB1.out hq0).up (Nat.le_trans hq0 HB1.out.size)) ⟨LessA.refl a, hda⟩ HB1.out)
  rw [htv] at HT0
  have hmt := merge_tk a (wordA st lo) n2 n1
  have hpt := prune_tk a (wordA st lo) n2 n1
  have hot := of_tk a (wordA st lo) n2 n1
  rw [htv] at hmt hpt hot
  have HMT := dh hmt
  have HPT := dh hpt
  have HOT := dh hot
  have HTP := dh hTP
  have HDA := dh hda
  have HMP : Hid (∀ W', Below W0.1.size W0 W' → Calls Tryd.prog 16 #[.agg #[.int .i64 a.sets, .slice Ai ni ci, .slice An nn cn]] W' (AutOneS W' (mergeF a))) := dh (fun W' hb => mergeP_all a Ai ni ci An nn cn W' w.1.size (HRD.out.below hb hq0) (Nat.le_trans hq0 hb.size) 40 HDA.out (by omega))
  have HPP : Hid (∀ W', Below W0.1.size W0 W' → Calls Tryd.prog 18 #[.agg #[.int .i64 a.sets, .slice Ai ni ci, .slice An nn cn]] W' (AutOneS W' (pruneF a))) := dh (fun W' hb => pruneP_all a Ai ni ci An nn cn W' w.1.size (HRD.out.below hb hq0) (Nat.le_trans hq0 hb.size) 40 HDA.out (by omega))
  have HOP : Hid (∀ W', Below W0.1.size W0 W' → Calls Tryd.prog 21 #[.agg #[.int .i64 a.sets, .slice Ai ni ci, .slice An nn cn]] W' (AutOneS W' (ofFA a))) := dh (fun W' hb => ofP_all a Ai ni ci An nn cn W' w.1.size (HRD.out.below hb hq0) (Nat.le_trans hq0 hb.size) (HTB.out W' hb).1 (HTB.out W' hb).2 40 HDA.out (by omega))
  have htt : (tv == tv) = true := by cases tv <;> rfl
  obtain ⟨q0, q1, q2, p0, p1⟩ := HCL.out w1 HB1.out
  clear hmt hpt hot hTP hda htv
  go_wp2_with fail
  refine HT0.out.mono ?_
  rintro e w2 ⟨rfl, hb2⟩
  have HB2 := dh (HB1.out.trans (hb2.mono hz1))
  clear q0 q1 q2 p0 p1 hb2
  obtain ⟨s0, s1, s2, s3, s4⟩ := HCL.out w2 HB2.out
  go_upto_region 4 with fail
  refine wp_region_held_drew (S := fun w' => w'.cell? ⟨w.1.size, 0, none⟩ = some (.int .i64 a.sets) ∧ w'.cell? ⟨w.1.size, 1, none⟩ = some (.slice Ai ni ci) ∧ w'.cell? ⟨w.1.size, 2, none⟩ = some (.slice An nn cn) ∧ w'.cell? ⟨w.1.size + 1, 0, none⟩ = some (.slice A1 n1 c1) ∧ w'.cell? ⟨w.1.size + 1, 1, none⟩ = some (.slice A2 n2 c2)) (by kernel_rfl) ⟨s0, s1, s2, s3, s4⟩ (fun hS => ?_)
  refine tkH 0 ?_
  refine tkH 2 ?_
  refine tkH 4 ?_
  refine oneH 1 (fun K hK => ?_)
  go_simp
  refine (HMP.out _ (Below.drew HB2.out)).mono ?_
  rintro e w3 ⟨Ri, Rj, Rk, Rn, Rm, Ro, rfl, hr3, hb', -⟩
  have hb3 : Below W0.1.size W0 w3 := ((Below.drew HB2.out)).trans (hb'.mono ((Below.drew HB2.out)).size)
  clear hb'
  dsimp only
  refine hK.out _ _ (HCL.out _ hb3) (fun hS => ?_)
  clear hK
  refine oneH 3 (fun K hK => ?_)
  go_simp
  have HKK := dh (HTP.out (mergeF a) _ _ _ _ _ _ w3 hr3 (merge_small HDA.out) hb3)
  rw [HMT.out] at HKK
  refine HKK.out.mono ?_
  rintro e w4 ⟨rfl, hb'⟩
  have hb4 : Below W0.1.size W0 w4 := hb3.trans (hb'.mono hb3.size)
  clear hb' HKK hr3
  dsimp only
  refine hK.out _ _ (HCL.out _ hb4) (fun hS => ?_)
  clear hK
  refine tkH 5 ?_
  refine tkH 6 ?_
  refine tkH 7 ?_
  refine tkH 9 ?_
  refine tkH 11 ?_
  refine oneH 8 (fun K hK => ?_)
  go_simp
  refine (HPP.out _ hb4).mono ?_
  rintro e w5 ⟨Pi, Pj, Pk, Pn, Pm, Po, rfl, hr5, hb', -⟩
  have hb5 : Below W0.1.size W0 w5 := (hb4).trans (hb'.mono (hb4).size)
  clear hb'
  dsimp only
  refine hK.out _ _ (HCL.out _ hb5) (fun hS => ?_)
  clear hK
  refine oneH 10 (fun K hK => ?_)
  go_simp
  have HKK := dh (HTP.out (pruneF a) _ _ _ _ _ _ w5 hr5 (prune_small HDA.out) hb5)
  rw [HPT.out] at HKK
  refine HKK.out.mono ?_
  rintro e w6 ⟨rfl, hb'⟩
  have hb6 : Below W0.1.size W0 w6 := hb5.trans (hb'.mono hb5.size)
  clear hb' HKK hr5
  dsimp only
  refine hK.out _ _ (HCL.out _ hb6) (fun hS => ?_)
  clear hK
  refine tkH 12 ?_
  refine tkH 13 ?_
  refine tkH 14 ?_
  refine tkH 15 ?_
  refine tkH 17 ?_
  refine tkH 19 ?_
  refine oneH 16 (fun K hK => ?_)
  go_simp
  refine (HOP.out _ hb6).mono ?_
  rintro e w7 ⟨Qi, Qj, Qk, Qn, Qm, Qo, rfl, hr7, hb', -⟩
  have hb7 : Below W0.1.size W0 w7 := (hb6).trans (hb'.mono (hb6).size)
  clear hb'
  dsimp only
  refine hK.out _ _ (HCL.out _ hb7) (fun hS => ?_)
  clear hK
  refine oneH 18 (fun K hK => ?_)
  go_simp
  have HKK := dh (HTP.out (ofFA a) _ _ _ _ _ _ w7 hr7 (of_small HDA.out) hb7)
  rw [HOT.out] at HKK
  refine HKK.out.mono ?_
  rintro e w8 ⟨rfl, hb'⟩
  have hb8 : Below W0.1.size W0 w8 := hb7.trans (hb'.mono hb7.size)
  clear hb' HKK hr7
  dsimp only
  refine hK.out _ _ (HCL.out _ hb8) (fun hS => ?_)
  clear hK
  refine tkH 20 ?_
  refine tkH 21 ?_
  refine tkH 22 ?_
  refine oneH 23 (fun K hK => ?_)
  go_simp
  refine (HAW.out _ hb8).mono ?_
  rintro e w9 ⟨rfl, hb'⟩
  have hb9 : Below W0.1.size W0 w9 := hb8.trans (hb'.mono hb8.size)
  clear hb'
  dsimp only
  refine hK.out _ _ (HCL.out _ hb9) (fun hS => ?_)
  clear hK
  refine tkH 24 ?_
  refine tkH 25 ?_
  refine wpAnyH_done (by kernel_rfl) ?_ _
  clear hS
  have HBF := dh (HB0.out.trans (hb9.mono hq0))
  go_wp2_with fail
  go_ret
  exact ⟨rfl, HBF.out⟩
end Go.Proofs.YtiebpncpdbnelaaDoor
namespace Go.Proofs.YtiebpncpdbnelaaDoor
open Go.ChangeShapes Go.WideShapes Go.ChangeAt Go.RowKit Go.Shelf
theorem door_met (os : Os) (args : Array Value) : laidMetH Tryd.prog [("math/bits.deBruijn64tab", Rows.laid_math_bits_deBruijn64tab)] ((World.doorLaid Tryd.prog 14 os).forCall (fun _ _ => 0) ⟨#[], args, []⟩).memory :=
 laidMetH_of_parts3 (fuel := 8) (laidMet_of_run' 8 (by kernel_rfl) (by kernel_rfl)) (by kernel_rfl) (by kernel_rfl)
theorem gTab : Tryd.prog.globalNamed "math/bits.deBruijn64tab" = some 0 := by kernel_rfl
theorem tTab : (Tryd.prog.globals[0]?).map (·.type) = some 137 := by kernel_rfl
def tabI : List Int := Lib.deBruijn64tab.map (fun (n : Nat) => (n : Int))
theorem tab_of_laid {W : World} (h : laidMetH Tryd.prog [("math/bits.deBruijn64tab", Rows.laid_math_bits_deBruijn64tab)] W) : TabAt 0 Lib.deBruijn64tab W ∧ 0 < W.1.size := by
 rw [MakeChecks.laidMetH_plain _ _ _ (by kernel_rfl)] at h
 have e : ([("math/bits.deBruijn64tab", Rows.laid_math_bits_deBruijn64tab)] : List (String × DataW Unit)) = [("math/bits.deBruijn64tab", Lib.tabData .u8 tabI)] := by rfl
 rw [e] at h
 have hI := Lib.tabIs_of_head gTab tTab Tryd.underlying137 Tryd.underlying5 (by kernel_rfl) (by kernel_rfl) h
 have hT : TabAt 0 Lib.deBruijn64tab W := fun j hj => by
  have := hI.cell gTab j (by simpa [tabI] using hj)
  rw [this]
  simp [tabI, List.getD, hj]
 refine ⟨hT, ?_⟩
 obtain ⟨o, ho, _⟩ := cells_of_cell (hT 0 (by decide))
 exact (aI.1 ho).1
theorem no_stand_in {P : Program} {ts : Array TypeId} {t : TypeId} (hm : t ∈ ts) (h : (ts.toList.all fun u => !P.wantsStandIn u) = true) : P.wantsStandIn t = false := by
 have := List.all_eq_true.1 h t (by simpa using hm)
 simpa using this
end Go.Proofs.YtiebpncpdbnelaaDoor
