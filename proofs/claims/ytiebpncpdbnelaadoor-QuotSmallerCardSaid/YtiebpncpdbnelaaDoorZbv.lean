/- Texts that stand one behind the other, in one file. -/
import Derived.Test.YtiebpncpdbnelaaDoorQu6
set_option maxHeartbeats 8000000
set_option maxRecDepth 100000
namespace Go.Proofs.YtiebpncpdbnelaaDoor
open Go.RowKit
structure NDA (a : Aut) (KE : Nat) : Prop where
 nd : ∀ x ∈ a.nodes, x.need < 2 ^ 64 ∧ x.ban < 2 ^ 64
 inn : ∀ x ∈ a.nodes, x.inn < 2 ^ 64
 rows : ∀ x ∈ a.nodes, x.to.length ≤ KE
 init : a.init.length ≤ 1000000
theorem NDA.gen {a : Aut} {KE : Nat} (h : NDA a KE) {p : Nat → Bool} {F : List Int → List Int} (hF : ∀ l, (F l).length ≤ l.length) : NDA (genU a p F) KE := by
 have hm : ∀ x ∈ (genU a p F).nodes, ∃ y ∈ a.nodes, x = y.put (F y.to) := fun x hx => by
  obtain ⟨i, hi, rfl⟩ := List.mem_map.1 hx
  exact ⟨a.at i, at_mem (List.mem_range.1 (List.mem_filter.1 hi).1), rfl⟩
 refine ⟨fun x hx => ?_, fun x hx => ?_, fun x hx => ?_, Nat.le_trans (hF _) h.init⟩
 ·obtain ⟨y, hy, rfl⟩ := hm x hx; exact h.nd y hy
 ·obtain ⟨y, hy, rfl⟩ := hm x hx; exact h.inn y hy
 ·obtain ⟨y, hy, rfl⟩ := hm x hx; exact Nat.le_trans (hF _) (h.rows y hy)
theorem NDA.trim {a : Aut} {KE : Nat} (h : NDA a KE) : NDA (trimA a) KE := h.gen (p := fun i => (useL a).getD i false) (F := keptL (useL a)) (fun _ => keptL_le)
theorem NDA.merge {a : Aut} {KE : Nat} (h : NDA a KE) : NDA (mergeA a) KE := h.gen (p := fun i => (leadL (simL a) a.nodes.length).getD i false) (F := onceI (numM (simL a) a.nodes.length)) (fun l => onceI_le _ l)
theorem NDA.prune {a : Aut} {KE : Nat} (h : NDA a KE) : NDA (pruneA a) KE := by
 unfold pruneA
 rw [prune_gen]
 exact h.gen (fun l => leftL_le _ l)
noncomputable def mergeF (a : Aut) : Aut := if chkA a = 0 then mergeA a else Aut.zero
noncomputable def pruneF (a : Aut) : Aut := if chkA a = 0 then pruneA a else Aut.zero
noncomputable def ofFA (a : Aut) : Aut := if chkA a = 0 then ofQ a else Aut.zero
theorem SepA.tch {w w' : World} {a : Aut} {Ai : Option Addr} {ni ci : Nat} {An : Option Addr} {nn cn : Nat} {S : Nat → Prop} (h : SepA w a Ai ni ci An nn cn) (ht : Tch S w w') (hS : ∀ g, S g → ∃ cs, w.1[g]? = some (.cells cs 25 (0, 0))) : SepA w' a Ai ni ci An nn cn := fun T W2 ht2 hT =>
 h (fun g => S g ∨ T g) W2 ((ht.wide (fun _ e => .inl e)).then_ (ht2.wide (fun _ e => .inr e))) (fun g hg hl => by
  by_cases hs : S g
  ·exact hS g hs
  ·rcases hg with hg | hg
   ·exact hS g hg
   ·obtain ⟨cs, hc⟩ := hT g hg (Nat.lt_of_lt_of_le hl ht.size)
    exact ⟨cs, (ht.block g hl hs).symm.trans hc⟩)
theorem mergeBad (a : Aut) (Ai : Option Addr) (ni ci : Nat) (An : Option Addr) (nn cn : Nat) (w : World) (B : Nat) (h : AutRd w B a Ai ni ci An nn cn) (hB : B ≤ w.1.size) (hck : ¬ chkA a = 0) (KE : Nat) (hr : ∀ x ∈ a.nodes, x.to.length ≤ KE) (hri : a.init.length ≤ 1000000) (hKE : KE ≤ 1000000) :
  Calls Tryd.prog 16 #[.agg #[.int .i64 a.sets, .slice Ai ni ci, .slice An nn cn]] w (AutOneS w Aut.zero) := by
 obtain ⟨hb0, x0, y0, z0⟩ := two_new w (.cells #[.int .i64 a.sets, .slice Ai ni ci, .slice An nn cn] 25) (.cells #[.int .i64 0, .slice none 0 0, .slice none 0 0] 25)
 obtain ⟨W0, hW0⟩ := xQ ((w.alloc (.cells #[.int .i64 a.sets, .slice Ai ni ci, .slice An nn cn] 25)).alloc (.cells #[.int .i64 0, .slice none 0 0, .slice none 0 0] 25))
 rw [hW0] at hb0 x0 y0 z0
 have HR0 := dh (h.below hb0 hB)
 have HC0 := dh (autoCheck_any a Ai ni ci An nn cn W0 B HR0.out (by omega) (by omega) (fun x hx => by have := hr x hx; omega))
 have hne : ((chkA a) == 0) = false := by rw [beq_eq_false_iff_ne]; exact hck
 have hne2 : ((chkA a) != 0) = true := by rw [bne_iff_ne]; exact hck
 have hne3 : decide (chkA a = 0) = false := decide_eq_false hck
 have HW0 := dh hW0
 have HB0 := dh hb0
 have HY0 := dh y0
 have hww : w.1.size + 1 < W0.1.size := by omega
 obtain ⟨q0, q1, q2⟩ := box3A x0
 clear hW0 hb0 x0 y0 z0 h hr hck
 go_enter Tryd.func16, Tryd.ntmps16
 go_upto_region 1 with fail
 rw [HW0.out]
 go_wp2_with fail
 refine HC0.out.mono ?_
 rintro e w1 ⟨rfl, hb1⟩
 have hy1 := (hb1.block (w.1.size + 1) hww).trans HY0.out
 have HBB := dh (HB0.out.trans (hb1.mono (show w.1.size ≤ W0.1.size by omega)))
 have hz1 := hb1.size
 obtain ⟨y0, y1, y2⟩ := box3A hy1
 have f0 : w1.frozen? ⟨w.1.size + 1, 0, none⟩ = false := frozen_of_row w1 _ 0 _ _ hy1
 have f1 : w1.frozen? ⟨w.1.size + 1, 1, none⟩ = false := frozen_of_row w1 _ 1 _ _ hy1
 have f2 : w1.frozen? ⟨w.1.size + 1, 2, none⟩ = false := frozen_of_row w1 _ 2 _ _ hy1
 have yl : w.1.size + 1 < w1.1.size := (aI.1 hy1).1
 have HY := dh hy1
 clear hy1 hb1 q0 q1 q2
 go_wp2_with fail
 have hset := set3A (a := .int .i64 0) (b := .slice none 0 0) (c := .slice none 0 0) HY.out rfl
 have htc := tch3A w1 (w.1.size + 1) (.int .i64 0) (.slice none 0 0) (.slice none 0 0)
 obtain ⟨Y, hY⟩ := xQ (((w1.setCell ⟨w.1.size + 1, 0, none⟩ (.int .i64 0)).setCell ⟨w.1.size + 1, 1, none⟩ (.slice none 0 0)).setCell ⟨w.1.size + 1, 2, none⟩ (.slice none 0 0))
 rw [hY] at hset htc ⊢
 have hbY : Below w.1.size w Y := HBB.out.trans (htc.below (show w.1.size ≤ w1.1.size by omega) (fun y hy e => by have e : y = w.1.size + 1 := e; omega))
 obtain ⟨g0, g1, g2⟩ := box3A hset
 refine bodyPost_ret (v := .agg #[.int .i64 0, .slice none 0 0, .slice none 0 0]) ?_ rfl ⟨none, 0, 0, none, 0, 0, rfl, autRd_nil Y _, hbY, sep_nil Y⟩
 simp [results, Tryd.results16, go_sem, g0, g1, g2]
theorem pruneBad (a : Aut) (Ai : Option Addr) (ni ci : Nat) (An : Option Addr) (nn cn : Nat) (w : World) (B : Nat) (h : AutRd w B a Ai ni ci An nn cn) (hB : B ≤ w.1.size) (hck : ¬ chkA a = 0) (KE : Nat) (hr : ∀ x ∈ a.nodes, x.to.length ≤ KE) (hri : a.init.length ≤ 1000000) (hKE : KE ≤ 1000000) :
  Calls Tryd.prog 18 #[.agg #[.int .i64 a.sets, .slice Ai ni ci, .slice An nn cn]] w (AutOneS w Aut.zero) := by
 obtain ⟨hb0, x0, y0, z0⟩ := two_new w (.cells #[.int .i64 a.sets, .slice Ai ni ci, .slice An nn cn] 25) (.cells #[.int .i64 0, .slice none 0 0, .slice none 0 0] 25)
 obtain ⟨W0, hW0⟩ := xQ ((w.alloc (.cells #[.int .i64 a.sets, .slice Ai ni ci, .slice An nn cn] 25)).alloc (.cells #[.int .i64 0, .slice none 0 0, .slice none 0 0] 25))
 rw [hW0] at hb0 x0 y0 z0
 have HR0 := dh (h.below hb0 hB)
 have HC0 := dh (autoCheck_any a Ai ni ci An nn cn W0 B HR0.out (by omega) (by omega) (fun x hx => by have := hr x hx; omega))
 have hne : ((chkA a) == 0) = false := by rw [beq_eq_false_iff_ne]; exact hck
 have hne2 : ((chkA a) != 0) = true := by rw [bne_iff_ne]; exact hck
 have hne3 : decide (chkA a = 0) = false := decide_eq_false hck
 have HW0 := dh hW0
 have HB0 := dh hb0
 have HY0 := dh y0
 have hww : w.1.size + 1 < W0.1.size := by omega
 obtain ⟨q0, q1, q2⟩ := box3A x0
 clear hW0 hb0 x0 y0 z0 h hr hck
 go_enter Tryd.func18, Tryd.ntmps18
 go_upto_region 1 with fail
 rw [HW0.out]
 go_wp2_with fail
 refine HC0.out.mono ?_
 rintro e w1 ⟨rfl, hb1⟩
 have hy1 := (hb1.block (w.1.size + 1) hww).trans HY0.out
 have HBB := dh (HB0.out.trans (hb1.mono (show w.1.size ≤ W0.1.size by omega)))
 have hz1 := hb1.size
 obtain ⟨y0, y1, y2⟩ := box3A hy1
 have f0 : w1.frozen? ⟨w.1.size + 1, 0, none⟩ = false := frozen_of_row w1 _ 0 _ _ hy1
 have f1 : w1.frozen? ⟨w.1.size + 1, 1, none⟩ = false := frozen_of_row w1 _ 1 _ _ hy1
 have f2 : w1.frozen? ⟨w.1.size + 1, 2, none⟩ = false := frozen_of_row w1 _ 2 _ _ hy1
 have yl : w.1.size + 1 < w1.1.size := (aI.1 hy1).1
 have HY := dh hy1
 clear hy1 hb1 q0 q1 q2
 go_wp2_with fail
 have hset := set3A (a := .int .i64 0) (b := .slice none 0 0) (c := .slice none 0 0) HY.out rfl
 have htc := tch3A w1 (w.1.size + 1) (.int .i64 0) (.slice none 0 0) (.slice none 0 0)
 obtain ⟨Y, hY⟩ := xQ (((w1.setCell ⟨w.1.size + 1, 0, none⟩ (.int .i64 0)).setCell ⟨w.1.size + 1, 1, none⟩ (.slice none 0 0)).setCell ⟨w.1.size + 1, 2, none⟩ (.slice none 0 0))
 rw [hY] at hset htc ⊢
 have hbY : Below w.1.size w Y := HBB.out.trans (htc.below (show w.1.size ≤ w1.1.size by omega) (fun y hy e => by have e : y = w.1.size + 1 := e; omega))
 obtain ⟨g0, g1, g2⟩ := box3A hset
 refine bodyPost_ret (v := .agg #[.int .i64 0, .slice none 0 0, .slice none 0 0]) ?_ rfl ⟨none, 0, 0, none, 0, 0, rfl, autRd_nil Y _, hbY, sep_nil Y⟩
 simp [results, Tryd.results18, go_sem, g0, g1, g2]
theorem ofBad (a : Aut) (Ai : Option Addr) (ni ci : Nat) (An : Option Addr) (nn cn : Nat) (w : World) (B : Nat) (h : AutRd w B a Ai ni ci An nn cn) (hB : B ≤ w.1.size) (hck : ¬ chkA a = 0) (KE : Nat) (hr : ∀ x ∈ a.nodes, x.to.length ≤ KE) (hri : a.init.length ≤ 1000000) (hKE : KE ≤ 1000000) :
  Calls Tryd.prog 21 #[.agg #[.int .i64 a.sets, .slice Ai ni ci, .slice An nn cn]] w (AutOneS w Aut.zero) := by
 obtain ⟨hb0, x0, y0, z0⟩ := two_new w (.cells #[.int .i64 a.sets, .slice Ai ni ci, .slice An nn cn] 25) (.cells #[.int .i64 0, .slice none 0 0, .slice none 0 0] 25)
 obtain ⟨W0, hW0⟩ := xQ ((w.alloc (.cells #[.int .i64 a.sets, .slice Ai ni ci, .slice An nn cn] 25)).alloc (.cells #[.int .i64 0, .slice none 0 0, .slice none 0 0] 25))
 rw [hW0] at hb0 x0 y0 z0
 have HR0 := dh (h.below hb0 hB)
 have HC0 := dh (autoCheck_any a Ai ni ci An nn cn W0 B HR0.out (by omega) (by omega) (fun x hx => by have := hr x hx; omega))
 have hne : ((chkA a) == 0) = false := by rw [beq_eq_false_iff_ne]; exact hck
 have hne2 : ((chkA a) != 0) = true := by rw [bne_iff_ne]; exact hck
 have hne3 : decide (chkA a = 0) = false := decide_eq_false hck
 have HW0 := dh hW0
 have HB0 := dh hb0
 have HY0 := dh y0
 have hww : w.1.size + 1 < W0.1.size := by omega
 obtain ⟨q0, q1, q2⟩ := box3A x0
 clear hW0 hb0 x0 y0 z0 h hr hck
 go_enter Tryd.func21, Tryd.ntmps21
 go_upto_region 1 with fail
 rw [HW0.out]
 go_wp2_with fail
 refine HC0.out.mono ?_
 rintro e w1 ⟨rfl, hb1⟩
 have hy1 := (hb1.block (w.1.size + 1) hww).trans HY0.out
 have HBB := dh (HB0.out.trans (hb1.mono (show w.1.size ≤ W0.1.size by omega)))
 have hz1 := hb1.size
 obtain ⟨y0, y1, y2⟩ := box3A hy1
 have f0 : w1.frozen? ⟨w.1.size + 1, 0, none⟩ = false := frozen_of_row w1 _ 0 _ _ hy1
 have f1 : w1.frozen? ⟨w.1.size + 1, 1, none⟩ = false := frozen_of_row w1 _ 1 _ _ hy1
 have f2 : w1.frozen? ⟨w.1.size + 1, 2, none⟩ = false := frozen_of_row w1 _ 2 _ _ hy1
 have yl : w.1.size + 1 < w1.1.size := (aI.1 hy1).1
 have HY := dh hy1
 clear hy1 hb1 q0 q1 q2
 go_wp2_with fail
 have hset := set3A (a := .int .i64 0) (b := .slice none 0 0) (c := .slice none 0 0) HY.out rfl
 have htc := tch3A w1 (w.1.size + 1) (.int .i64 0) (.slice none 0 0) (.slice none 0 0)
 obtain ⟨Y, hY⟩ := xQ (((w1.setCell ⟨w.1.size + 1, 0, none⟩ (.int .i64 0)).setCell ⟨w.1.size + 1, 1, none⟩ (.slice none 0 0)).setCell ⟨w.1.size + 1, 2, none⟩ (.slice none 0 0))
 rw [hY] at hset htc ⊢
 have hbY : Below w.1.size w Y := HBB.out.trans (htc.below (show w.1.size ≤ w1.1.size by omega) (fun y hy e => by have e : y = w.1.size + 1 := e; omega))
 obtain ⟨g0, g1, g2⟩ := box3A hset
 refine bodyPost_ret (v := .agg #[.int .i64 0, .slice none 0 0, .slice none 0 0]) ?_ rfl ⟨none, 0, 0, none, 0, 0, rfl, autRd_nil Y _, hbY, sep_nil Y⟩
 simp [results, Tryd.results21, go_sem, g0, g1, g2]
theorem mergeP_all (a : Aut) (Ai : Option Addr) (ni ci : Nat) (An : Option Addr) (nn cn : Nat) (w : World) (B : Nat) (h : AutRd w B a Ai ni ci An nn cn) (hB : B ≤ w.1.size) (KE : Nat) (hd : NDA a KE) (hKE : KE ≤ 1000000) : Calls Tryd.prog 16 #[.agg #[.int .i64 a.sets, .slice Ai ni ci, .slice An nn cn]] w (AutOneS w (mergeF a)) := by
 unfold mergeF
 by_cases hck : chkA a = 0
 ·rw [if_pos hck]; exact mergeP_any a Ai ni ci An nn cn w B h hB hck hd.nd hd.inn KE hd.rows hd.init hKE
 ·rw [if_neg hck]; exact mergeBad a Ai ni ci An nn cn w B h hB hck KE hd.rows hd.init hKE
theorem pruneP_all (a : Aut) (Ai : Option Addr) (ni ci : Nat) (An : Option Addr) (nn cn : Nat) (w : World) (B : Nat) (h : AutRd w B a Ai ni ci An nn cn) (hB : B ≤ w.1.size) (KE : Nat) (hd : NDA a KE) (hKE : KE ≤ 1000000) : Calls Tryd.prog 18 #[.agg #[.int .i64 a.sets, .slice Ai ni ci, .slice An nn cn]] w (AutOneS w (pruneF a)) := by
 unfold pruneF
 by_cases hck : chkA a = 0
 ·rw [if_pos hck]; exact pruneP_any a Ai ni ci An nn cn w B h hB hck hd.nd hd.inn KE hd.rows hd.init hKE
 ·rw [if_neg hck]; exact pruneBad a Ai ni ci An nn cn w B h hB hck KE hd.rows hd.init hKE
end Go.Proofs.YtiebpncpdbnelaaDoor
namespace Go.Proofs.YtiebpncpdbnelaaDoor
open Go.RowKit
theorem ofP_ok (a : Aut) (Ai : Option Addr) (ni ci : Nat) (An : Option Addr) (nn cn : Nat) (w : World) (B : Nat) (h : AutRd w B a Ai ni ci An nn cn) (hB : B ≤ w.1.size) (hck : chkA a = 0) (hT : TabAt 0 Lib.deBruijn64tab w) (hg : 0 < w.1.size) (KE : Nat) (hd : NDA a KE) (hKE : KE ≤ 1000000) :
  Calls Tryd.prog 21 #[.agg #[.int .i64 a.sets, .slice Ai ni ci, .slice An nn cn]] w (AutOneS w (ofQ a)) := by
 have hr := hd.rows
 have hri := hd.init
 obtain ⟨hb0, x0, y0, z0⟩ := two_new w (.cells #[.int .i64 a.sets, .slice Ai ni ci, .slice An nn cn] 25) (.cells #[.int .i64 0, .slice none 0 0, .slice none 0 0] 25)
 obtain ⟨W0, hW0⟩ := xQ ((w.alloc (.cells #[.int .i64 a.sets, .slice Ai ni ci, .slice An nn cn] 25)).alloc (.cells #[.int .i64 0, .slice none 0 0, .slice none 0 0] 25))
 rw [hW0] at hb0 x0 y0 z0
 have HR0 := dh (h.below hb0 hB)
 have HC0 := dh (autoCheck_any a Ai ni ci An nn cn W0 B HR0.out (by omega) (by omega) (fun x hx => by have := hr x hx; omega))
 have HGA := dh (chk_iff.1 hck)
 have HD := dh hd
 have HW0 := dh hW0
 have HB0 := dh hb0
 have HX0 := dh x0
 have HY0 := dh y0
 have HCK := dh hck
 have hBw : B ≤ w.1.size := hB
 have hww : w.1.size + 1 < W0.1.size := by omega
 have HTB : Hid (∀ W', Below w.1.size w W' → TabAt 0 Lib.deBruijn64tab W' ∧ 0 < W'.1.size) := dh (fun W' hb => ⟨fun x hx => bC hb hg (hT x hx), Nat.lt_of_lt_of_le hg hb.size⟩)
 obtain ⟨q0, q1, q2⟩ := box3A x0
 clear hW0 hb0 x0 y0 z0 h hr hri hd hck hT hg
 go_enter Tryd.func21, Tryd.ntmps21
 go_upto_region 1 with fail
 rw [HW0.out]
 go_wp2_with fail
 refine HC0.out.mono ?_
 rintro e w1 ⟨rfl, hb1⟩
 rw [HCK.out]
 have hz1 := hb1.size
 have HX1 : Hid (w1.1[w.1.size]? = some (.cells #[.int .i64 a.sets, .slice Ai ni ci, .slice An nn cn] 25 (0, 0))) := dh ((hb1.block w.1.size (by omega)).trans HX0.out)
 have HT1 : Hid (Tch (fun k => k = w.1.size) W0 w1) := dh (below_tch hb1)
 have HP1 : Hid (∀ W2, Tch (fun k => k = w.1.size) w1 W2 → AutRd W2 W2.1.size a Ai ni ci An nn cn) := dh (fun W2 ht => by
  have h := ((HR0.out.below hb1 (by omega)).tchA ht (by omega) (fun b hb e => by have e : b = w.1.size := e; omega))
  exact h.up (by have := ht.size; omega))
 clear q0 q1 q2 hb1
 go_wp2_with fail
 go_loopg [3] (mu a) (fun gk _ wr => ∃ (b : Aut) (Bi : Option Addr) (mi di : Nat) (Bn : Option Addr) (mn dn : Nat), mu b ≤ gk ∧ Hid (GoodA b) ∧ Hid (NDA b KE) ∧ Hid (ofQ b = ofQ a) ∧ Hid (wr.1[w.1.size]? = some (.cells #[.int .i64 b.sets, .slice Bi mi di, .slice Bn mn dn] 25 (0, 0))) ∧ Hid (∀ W2, Tch (fun k => k = w.1.size) wr W2 → AutRd W2 W2.1.size b Bi mi di Bn mn dn) ∧ Hid (Tch (fun k => k = w.1.size) W0 wr))
 case atStart => exact ⟨a, Ai, ni, ci, An, nn, cn, lR, HGA, HD, dh rfl, HX1, HP1, HT1⟩
 case round =>
  obtain ⟨b, Bi, mi, di, Bn, mn, dn, hmu, HGB, HDB, HOB, HXB, HPB, HTC⟩ := hrel
  clear HX1 HP1 HT1
  have hzr := HTC.out.size
  have HBW : Hid (Below w.1.size w wr) := dh (HB0.out.trans (HTC.out.below (show w.1.size ≤ W0.1.size by omega) (fun x hx e => by have e : x = w.1.size := e; omega)))
  have hzw := HBW.out.size
  obtain ⟨b1, hb1⟩ := xQ (trimA b)
  obtain ⟨b2, hb2⟩ := xQ (mergeA b1)
  obtain ⟨b3, hb3⟩ := xQ (pruneA b2)
  obtain ⟨b4, hb4⟩ := xQ (trimA b3)
  have HST : Hid (qstep b = b4) := dh (by unfold qstep; rw [hb1, hb2, hb3, hb4])
  have g1 : GoodA b1 := hb1 ▸ HGB.out.trim
  have g2 : GoodA b2 := hb2 ▸ g1.merge
  have g3 : GoodA b3 := hb3 ▸ g2.prune
  have g4 : GoodA b4 := hb4 ▸ g3.trim
  have d1 : NDA b1 KE := hb1 ▸ HDB.out.trim
  have d2 : NDA b2 KE := hb2 ▸ d1.merge
  have d3 : NDA b3 KE := hb3 ▸ d2.prune
  have d4 : NDA b4 KE := hb4 ▸ d3.trim
  have hrb := HPB.out wr (Tch.refl _ wr)
  have HCA := dh (trimP_sep b Bi mi di Bn mn dn wr wr.1.size hrb lR (HTB.out wr HBW.out).1 (HTB.out wr HBW.out).2 HDB.out.nd HDB.out.inn KE HDB.out.rows (by have := HDB.out.init; omega) hKE)
  rw [trimF_yes (chk_iff.2 HGB.out), hb1] at HCA
  have hck3 := trimF_yes (chk_iff.2 g3)
  rw [hb4] at hck3
  have HG1 := dh g1
  have HG2 := dh g2
  have HG3 := dh g3
  have HG4 := dh g4
  have HD1 := dh d1
  have HD2 := dh d2
  have HD3 := dh d3
  have HD4 := dh d4
  have HE2 := dh hb2
  have HE3 := dh hb3
  have HE4 := dh hck3
  obtain ⟨q0, q1, q2⟩ := box3A HXB.out
  clear hb1 hb2 hb3 hb4 g1 g2 g3 g4 d1 d2 d3 d4 hrb hck3
  go_wp2_with fail
  refine HCA.out.mono ?_
  rintro e v1 ⟨Ci, oi, pi, Cn, on, pn, rfl, hr1, hv1, -⟩
  have HM := dh (mergeP_any b1 Ci oi pi Cn on pn v1 v1.1.size hr1 lR (chk_iff.2 HG1.out) HD1.out.nd HD1.out.inn KE HD1.out.rows HD1.out.init hKE)
  rw [HE2.out] at HM
  have HV1 := dh hv1
  clear q0 q1 q2 hr1 hv1
  go_wp2_with fail
  refine HM.out.mono ?_
  rintro e v2 ⟨Di, oi2, pi2, Dn, on2, pn2, rfl, hr2, hv2, -⟩
  have HP := dh (pruneP_any b2 Di oi2 pi2 Dn on2 pn2 v2 v2.1.size hr2 lR (chk_iff.2 HG2.out) HD2.out.nd HD2.out.inn KE HD2.out.rows HD2.out.init hKE)
  rw [HE3.out] at HP
  have HV2 := dh (HV1.out.trans (hv2.mono HV1.out.size))
  clear hr2 hv2
  go_wp2_with fail
  refine HP.out.mono ?_
  rintro e v3 ⟨Fi, oi3, pi3, Fn, on3, pn3, rfl, hr3, hv3, -⟩
  have HV3 := dh (HV2.out.trans (hv3.mono HV2.out.size))
  have hbw3 := HBW.out.trans (HV3.out.mono hzw)
  have HCB := dh (trimP_sep b3 Fi oi3 pi3 Fn on3 pn3 v3 v3.1.size hr3 lR (HTB.out v3 hbw3).1 (HTB.out v3 hbw3).2 HD3.out.nd HD3.out.inn KE HD3.out.rows (by have := HD3.out.init; omega) hKE)
  rw [HE4.out] at HCB
  clear hr3 hv3 hbw3
  go_wp2_with fail
  refine HCB.out.mono ?_
  rintro e v4 ⟨Gi, oi4, pi4, Gn, on4, pn4, rfl, hr4, hv4, hs4⟩
  obtain ⟨V, hV⟩ := xQ (v4.alloc (.cells #[.int .i64 b4.sets, .slice Gi oi4 pi4, .slice Gn on4 pn4] 25))
  have hbV : Below v4.1.size v4 V := by rw [← hV]; exact bR.alloc lR _
  have kV : V.1[v4.1.size]? = some (.cells #[.int .i64 b4.sets, .slice Gi oi4 pi4, .slice Gn on4 pn4] 25 (0, 0)) := by rw [← hV]; exact heap_alloc_new v4 _
  have HV4 := dh (HV3.out.trans (hv4.mono HV3.out.size))
  have HVV := dh (HV4.out.trans (hbV.mono HV4.out.size))
  have HSV := dh (hs4.below hbV)
  have HXV : Hid (V.1[w.1.size]? = some (.cells #[.int .i64 b.sets, .slice Bi mi di, .slice Bn mn dn] 25 (0, 0))) := dh ((HVV.out.block w.1.size (by omega)).trans HXB.out)
  have HYV : Hid (V.1[w.1.size + 1]? = some (.cells #[.int .i64 0, .slice none 0 0, .slice none 0 0] 25 (0, 0))) := dh ((HVV.out.block (w.1.size + 1) (by omega)).trans ((HTC.out.block (w.1.size + 1) hww (fun e => by have e : w.1.size + 1 = w.1.size := e; omega)).trans HY0.out))
  have HKV := dh kV
  have HV := dh hV
  have hrbV := HPB.out V (below_tch HVV.out)
  have hr4V := HSV.out.rd
  have hnb : b.nodes.length ≤ 256 := HGB.out.n256
  have hn4 : b4.nodes.length ≤ 256 := HG4.out.n256
  have HSM := dh (autoSame_any b b4 Bi mi di Bn mn dn Gi oi4 pi4 Gn on4 pn4 V V.1.size hrbV hr4V lR (by have := HDB.out.init; have := HD4.out.init; omega) (by have := HDB.out.init; have := HD4.out.init; omega) (fun x hx => by have := HDB.out.rows x hx; omega))
  obtain ⟨eb, heb⟩ := xQ (decide (b = b4))
  rw [heb] at HSM
  have HEB := dh heb
  have hzV := HVV.out.size
  clear hr4 hv4 hs4 hV hbV kV hrbV hr4V heb
  have hT4 : w.1.size < v4.1.size := by have := HV4.out.size; omega
  obtain ⟨q0, q1, q2⟩ := box3A ((HV4.out.block w.1.size (by omega)).trans HXB.out)
  go_upto_region 4 with fail
  show Code.wp _ _ _ _ (v4.alloc (.cells #[.int .i64 b4.sets, .slice Gi oi4 pi4, .slice Gn on4 pn4] 25))
  rw [HV.out]
  clear q0 q1 q2
  obtain ⟨q0, q1, q2⟩ := box3A HXV.out
  obtain ⟨r0, r1, r2⟩ := box3A HKV.out
  go_wp2_with fail
  refine HSM.out.mono ?_
  rintro e u1 ⟨rfl, hu1⟩
  have HU1 := dh hu1
  have hzu := hu1.size
  have HSU := dh (HSV.out.below hu1)
  have HXU := dh ((hu1.block w.1.size (by omega)).trans HXV.out)
  have HYU := dh ((hu1.block (w.1.size + 1) (by omega)).trans HYV.out)
  have hkU := (hu1.block v4.1.size (aI.1 HKV.out).1).trans HKV.out
  have HBU := dh (HBW.out.trans ((HVV.out.trans (hu1.mono hzV)).mono hzw))
  clear q0 q1 q2 r0 r1 r2 hu1
  obtain ⟨r0, r1, r2⟩ := box3A hkU
  clear hkU
  cases eb
  ·obtain ⟨y0, y1, y2⟩ := box3A HXU.out
   have f0 : u1.frozen? ⟨w.1.size, 0, none⟩ = false := frozen_of_row u1 _ 0 _ _ HXU.out
   have f1 : u1.frozen? ⟨w.1.size, 1, none⟩ = false := frozen_of_row u1 _ 1 _ _ HXU.out
   have f2 : u1.frozen? ⟨w.1.size, 2, none⟩ = false := frozen_of_row u1 _ 2 _ _ HXU.out
   have yl : w.1.size < u1.1.size := by omega
   have hne : qstep b ≠ b := fun e => by
    have := HEB.out
    rw [decide_eq_false_iff_not] at this
    exact this (by rw [← HST.out, e])
   have HO4 : Hid (ofQ b4 = ofQ a) := dh (by rw [← HOB.out, ofQ_step HGB.out hne, HST.out])
   have HM4 : Hid (mu b4 < mu b) := dh (by
    obtain ⟨m1, m2⟩ := step_mu HGB.out
    rw [HST.out] at m1 m2
    rcases Nat.lt_or_eq_of_le m1 with h | h
    ·exact h
    ·exact absurd (HST.out.trans (m2 h)) hne)
   have hset := set3A (a := .int .i64 b4.sets) (b := .slice Gi oi4 pi4) (c := .slice Gn on4 pn4) HXU.out rfl
   have htc := tch3A u1 (w.1.size) (.int .i64 b4.sets) (.slice Gi oi4 pi4) (.slice Gn on4 pn4)
   obtain ⟨Y, hY⟩ := xQ (((u1.setCell ⟨w.1.size, 0, none⟩ (.int .i64 b4.sets)).setCell ⟨w.1.size, 1, none⟩ (.slice Gi oi4 pi4)).setCell ⟨w.1.size, 2, none⟩ (.slice Gn on4 pn4))
   rw [hY] at hset htc
   have HSET := dh hset
   have HP4 : Hid (∀ W2, Tch (fun k => k = w.1.size) Y W2 → AutRd W2 W2.1.size b4 Gi oi4 pi4 Gn on4 pn4) := dh (fun W2 ht => HSU.out _ W2 (htc.then_ ht) (fun g hg _ => by have hg : g = w.1.size := hg; rw [hg]; exact ⟨_, HXU.out⟩))
   have HT4 : Hid (Tch (fun k => k = w.1.size) W0 Y) := dh (((HTC.out.then_ (below_tch HVV.out)).then_ (below_tch HU1.out)).then_ htc)
   have HY := dh hY
   clear hset htc hne hY
   go_wp2_with fail
   try rw [HY.out]
   go_roundg (mu b4)
   case rel => exact ⟨b4, Gi, oi4, pi4, Gn, on4, pn4, lR, HG4, HD4, HO4, HSET, HP4, HT4⟩
   case measure => have := HM4.out; omega
  ·obtain ⟨y0, y1, y2⟩ := box3A HYU.out
   have f0 : u1.frozen? ⟨w.1.size + 1, 0, none⟩ = false := frozen_of_row u1 _ 0 _ _ HYU.out
   have f1 : u1.frozen? ⟨w.1.size + 1, 1, none⟩ = false := frozen_of_row u1 _ 1 _ _ HYU.out
   have f2 : u1.frozen? ⟨w.1.size + 1, 2, none⟩ = false := frozen_of_row u1 _ 2 _ _ HYU.out
   have yl : w.1.size + 1 < u1.1.size := by omega
   have HQ : Hid (ofQ a = b4) := dh (by
    have e : b = b4 := of_decide_eq_true HEB.out
    rw [← HOB.out, ofQ_fix HGB.out (by rw [HST.out, e]), e])
   go_wp2_with fail
   have hset := set3A (a := .int .i64 b4.sets) (b := .slice Gi oi4 pi4) (c := .slice Gn on4 pn4) HYU.out rfl
   have htc := tch3A u1 (w.1.size + 1) (.int .i64 b4.sets) (.slice Gi oi4 pi4) (.slice Gn on4 pn4)
   obtain ⟨Y, hY⟩ := xQ (((u1.setCell ⟨w.1.size + 1, 0, none⟩ (.int .i64 b4.sets)).setCell ⟨w.1.size + 1, 1, none⟩ (.slice Gi oi4 pi4)).setCell ⟨w.1.size + 1, 2, none⟩ (.slice Gn on4 pn4))
   rw [hY] at hset htc ⊢
   have hbY : Below w.1.size w Y := HBU.out.trans (htc.below (show w.1.size ≤ u1.1.size by omega) (fun y hy e => by have e : y = w.1.size + 1 := e; omega))
   have hsY := HSU.out.tch htc (fun g hg => by have hg : g = w.1.size + 1 := hg; rw [hg]; exact ⟨_, HYU.out⟩)
   obtain ⟨g0, g1, g2⟩ := box3A hset
   refine bodyPost_ret (v := .agg #[.int .i64 b4.sets, .slice Gi oi4 pi4, .slice Gn on4 pn4]) ?_ rfl ?_
   ·simp [results, Tryd.results21, go_sem, g0, g1, g2]
   ·rw [HQ.out]; exact ⟨_, _, _, _, _, _, rfl, hsY.rd, hbY, hsY⟩
theorem ofP_all (a : Aut) (Ai : Option Addr) (ni ci : Nat) (An : Option Addr) (nn cn : Nat) (w : World) (B : Nat) (h : AutRd w B a Ai ni ci An nn cn) (hB : B ≤ w.1.size) (hT : TabAt 0 Lib.deBruijn64tab w) (hg : 0 < w.1.size) (KE : Nat) (hd : NDA a KE) (hKE : KE ≤ 1000000) : Calls Tryd.prog 21 #[.agg #[.int .i64 a.sets, .slice Ai ni ci, .slice An nn cn]] w (AutOneS w (ofFA a)) := by
 unfold ofFA
 by_cases hck : chkA a = 0
 ·rw [if_pos hck]; exact ofP_ok a Ai ni ci An nn cn w B h hB hck hT hg KE hd hKE
 ·rw [if_neg hck]; exact ofBad a Ai ni ci An nn cn w B h hB hck KE hd.rows hd.init hKE
end Go.Proofs.YtiebpncpdbnelaaDoor
