/- Texts that stand one behind the other, in one file. -/
import Derived.Test.YtiebpncpdbnelaaDoorZbl
import Derived.Test.YtiebpncpdbnelaaDoorAr3
import Derived.Test.YtiebpncpdbnelaaDoorZbn
set_option maxHeartbeats 4000000
set_option maxRecDepth 100000
namespace Go.Proofs.YtiebpncpdbnelaaDoor
theorem trimF_yes {a : Aut} (h : chkA a = 0) : trimF a = trimA a := by unfold trimF; rw [if_pos h]
end Go.Proofs.YtiebpncpdbnelaaDoor
namespace Go.Proofs.YtiebpncpdbnelaaDoor
def twoA : Aut := ⟨1, [1, 0], [⟨0, 0, 1, [0, 1]⟩, ⟨0, 0, 1, [1, 0]⟩]⟩
def oneA : Aut := ⟨1, [0], [⟨0, 0, 1, [0]⟩]⟩
def cutA : Aut := ⟨1, [0, 1], [⟨1, 0, 1, [0]⟩, ⟨0, 0, 1, [1]⟩]⟩
theorem two_chk : chkA twoA = 0 := by decide
theorem one_chk : chkA oneA = 0 := by decide
theorem cut_chk : chkA cutA = 0 := by decide
theorem simL_is {a : Aut} {r : List (List Bool)} (hr : r = (List.range a.nodes.length).map (fun i => (List.range a.nodes.length).map (fun k => relL r i k))) (h1 : SimR a (fun i k => relL r i k = true)) (h2 : ∀ i k, i < a.nodes.length → k < a.nodes.length → Sim a i k → relL r i k = true) : simL a = r := by
 rw [hr]
 unfold simL
 refine List.map_congr_left (fun i hi => List.map_congr_left (fun k hk => ?_))
 rw [Bool.eq_iff_iff, @decide_eq_true_iff _ (Classical.propDecidable _)]
 exact ⟨h2 i k (List.mem_range.1 hi) (List.mem_range.1 hk), fun h => ⟨_, h1, h⟩⟩
theorem lt2 {i : Nat} (h : i < 2) : i = 0 ∨ i = 1 := by omega
theorem relL_lt {r : List (List Bool)} {i k : Nat} (h : relL r i k = true) : i < r.length ∧ k < (r.getD i []).length := by
 unfold relL at h
 refine ⟨Nat.lt_of_not_le (fun hl => ?_), Nat.lt_of_not_le (fun hl => ?_)⟩
 ·rw [gD (l := r), List.getElem?_eq_none hl] at h; cases h
 ·rw [gD, List.getElem?_eq_none hl] at h; cases h
theorem two_sim : simL twoA = [[true, true], [true, true]] := by
 refine simL_is (by decide) ⟨fun i k h => ?_, fun i k h => ?_, fun i k h t ht => ?_⟩ (fun i k hi hk _ => ?_)
 ·obtain ⟨h1, h2⟩ := relL_lt h
  rcases lt2 h1 with rfl | rfl <;> exact ⟨by decide, h2⟩
 ·obtain ⟨h1, h2⟩ := relL_lt h
  rcases lt2 h1 with rfl | rfl <;> rcases lt2 h2 with rfl | rfl <;> decide
 ·obtain ⟨h1, h2⟩ := relL_lt h
  have htl : t < 2 := by
   rcases lt2 h1 with rfl | rfl
   ·have : (t : Int) ∈ [(0 : Int), 1] := ht
    simp at this; omega
   ·have : (t : Int) ∈ [(1 : Int), 0] := ht
    simp at this; omega
  have h2' : k < 2 := by rcases lt2 h1 with rfl | rfl <;> exact h2
  refine ⟨0, ?_, ?_⟩
  ·rcases lt2 h2' with rfl | rfl <;> decide
  ·rcases lt2 htl with rfl | rfl <;> decide
 ·have hi : i < 2 := hi
  have hk : k < 2 := hk
  rcases lt2 hi with rfl | rfl <;> rcases lt2 hk with rfl | rfl <;> decide
theorem one_sim : simL oneA = [[true]] := by
 refine simL_is (by decide) ⟨fun i k h => ?_, fun i k h => ?_, fun i k h t ht => ?_⟩ (fun i k hi hk _ => ?_)
 ·obtain ⟨h1, h2⟩ := relL_lt h
  have h1 : i < 1 := h1
  obtain rfl : i = 0 := by omega
  exact ⟨by decide, h2⟩
 ·obtain ⟨h1, h2⟩ := relL_lt h
  have h1 : i < 1 := h1
  obtain rfl : i = 0 := by omega
  have h2 : k < 1 := h2
  obtain rfl : k = 0 := by omega
  decide
 ·obtain ⟨h1, h2⟩ := relL_lt h
  have h1 : i < 1 := h1
  obtain rfl : i = 0 := by omega
  have h2 : k < 1 := h2
  obtain rfl : k = 0 := by omega
  have : (t : Int) ∈ [(0 : Int)] := ht
  have ht0 : t = 0 := by simp at this; omega
  subst ht0
  exact ⟨0, by decide, by decide⟩
 ·have hi : i < 1 := hi
  have hk : k < 1 := hk
  obtain rfl : i = 0 := by omega
  obtain rfl : k = 0 := by omega
  decide
theorem cut_sim : simL cutA = [[true, true], [false, true]] := by
 refine simL_is (by decide) ⟨fun i k h => ?_, fun i k h => ?_, fun i k h t ht => ?_⟩ (fun i k hi hk hs => ?_)
 ·obtain ⟨h1, h2⟩ := relL_lt h
  rcases lt2 h1 with rfl | rfl <;> exact ⟨by decide, h2⟩
 ·obtain ⟨h1, h2⟩ := relL_lt h
  rcases lt2 h1 with rfl | rfl
  ·rcases lt2 h2 with rfl | rfl <;> decide
  ·rcases lt2 h2 with rfl | rfl
   ·exact absurd h (by decide)
   ·decide
 ·obtain ⟨h1, h2⟩ := relL_lt h
  rcases lt2 h1 with rfl | rfl
  ·have : (t : Int) ∈ [(0 : Int)] := ht
   have ht0 : t = 0 := by simp at this; omega
   subst ht0
   refine ⟨k, ?_, h⟩
   rcases lt2 h2 with rfl | rfl <;> decide
  ·have : (t : Int) ∈ [(1 : Int)] := ht
   have ht0 : t = 1 := by simp at this; omega
   subst ht0
   rcases lt2 h2 with rfl | rfl
   ·exact absurd h (by decide)
   ·exact ⟨1, by decide, by decide⟩
 ·have hi : i < 2 := hi
  have hk : k < 2 := hk
  rcases lt2 hi with rfl | rfl <;> rcases lt2 hk with rfl | rfl
  ·decide
  ·decide
  ·have := (sim_sim cutA).one 1 0 hs
   revert this; decide
  ·decide
theorem two_merge : mergeA twoA = oneA := by unfold mergeA; rw [two_sim]; decide
theorem one_merge : mergeA oneA = oneA := by unfold mergeA; rw [one_sim]; decide
theorem one_prune : pruneA oneA = oneA := by unfold pruneA; rw [one_sim]; decide
theorem cut_prune : pruneA cutA = ⟨1, [1], [⟨1, 0, 1, [0]⟩, ⟨0, 0, 1, [1]⟩]⟩ := by unfold pruneA; rw [cut_sim]; decide
theorem two_use : [true, true] = useL twoA := by
 have e1 : openE twoA = [[⟨0, 0⟩, ⟨1, 0⟩], [⟨1, 0⟩, ⟨0, 0⟩]] := by decide
 have e2 : asksI (insA twoA) twoA.sets.toNat = [fun _ => true, fun m => ((insA twoA).getD m 0).testBit 0] := rfl
 refine use_uniq rfl (fun q hq => ?_)
 have hq : q < 2 := hq
 rcases lt2 hq with rfl | rfl
 ·refine ⟨fun _ => ⟨.start (by decide) (by decide), run_self (by rw [e1]; exact ⟨by decide, by decide, by decide⟩) (fun p hp => ?_)⟩, fun _ => rfl⟩
  rw [e2] at hp
  simp only [List.mem_cons, List.not_mem_nil, or_false] at hp
  rcases hp with rfl | rfl <;> decide
 ·refine ⟨fun _ => ⟨.start (by decide) (by decide), run_self (by rw [e1]; exact ⟨by decide, by decide, by decide⟩) (fun p hp => ?_)⟩, fun _ => rfl⟩
  rw [e2] at hp
  simp only [List.mem_cons, List.not_mem_nil, or_false] at hp
  rcases hp with rfl | rfl <;> decide
theorem one_use : [true] = useL oneA := by
 have e1 : openE oneA = [[⟨0, 0⟩]] := by decide
 have e2 : asksI (insA oneA) oneA.sets.toNat = [fun _ => true, fun m => ((insA oneA).getD m 0).testBit 0] := rfl
 refine use_uniq rfl (fun q hq => ?_)
 have hq : q < 1 := hq
 obtain rfl : q = 0 := by omega
 refine ⟨fun _ => ⟨.start (by decide) (by decide), run_self (by rw [e1]; exact ⟨by decide, by decide, by decide⟩) (fun p hp => ?_)⟩, fun _ => rfl⟩
 rw [e2] at hp
 simp only [List.mem_cons, List.not_mem_nil, or_false] at hp
 rcases hp with rfl | rfl <;> decide
theorem two_trim : trimA twoA = twoA := by unfold trimA; rw [← two_use]; decide
theorem one_trim : trimA oneA = oneA := by unfold trimA; rw [← one_use]; decide
theorem two_of : ofQ twoA = oneA := by
 have h1 : qstep twoA = oneA := by unfold qstep; rw [two_trim, two_merge, one_prune, one_trim]
 have h2 : qstep oneA = oneA := by unfold qstep; rw [one_trim, one_merge, one_prune, one_trim]
 rw [ofQ_step (chk_iff.1 two_chk) (by rw [h1]; exact fun e => by have := congrArg Aut.init e; cases this), h1]
 exact ofQ_fix (chk_iff.1 one_chk) h2
end Go.Proofs.YtiebpncpdbnelaaDoor
namespace Go.Proofs.YtiebpncpdbnelaaDoor
open Go.RowKit
def heavy33 (a : Aut) (ns nl : Nat) : Bool :=
 decide (16 < a.nodes.length) || (decide (40 < a.init.length) || (decide (12 < ns) || (decide (12 < nl) || a.nodes.any (fun x => decide (40 < x.to.length)))))
theorem heavy33_bd {a : Aut} {ns nl : Nat} (h : heavy33 a ns nl = false) : a.nodes.length ≤ 16 ∧ a.init.length ≤ 40 ∧ ns ≤ 12 ∧ nl ≤ 12 ∧ ∀ x ∈ a.nodes, x.to.length ≤ 40 := by
 simp only [heavy33, Bool.or_eq_false_iff, decide_eq_false_iff_not, List.any_eq_false] at h
 obtain ⟨h1, h2, h3, h4, h5⟩ := h
 exact ⟨by omega, by omega, by omega, by omega, fun l hl => by have := h5 l hl; simp at this; omega⟩
theorem any_snoc33 {α : Type} {l : List α} {p : α → Bool} {k : Nat} (hk : k < l.length) : (l.take (k + 1)).any p = ((l.take k).any p || p l[k]) := by
 have e : l.take (k + 1) = l.take k ++ [l[k]] := by rw [List.take_add_one, gE hk]; rfl
 rw [e, List.any_append, List.any_cons, List.any_nil, Bool.or_false]
theorem any_of33 {α : Type} {l : List α} {p : α → Bool} {k : Nat} (hk : k < l.length) (h : p l[k] = true) : l.any p = true := List.any_eq_true.2 ⟨_, mM hk, h⟩
theorem heavy33_any (a : Aut) (Ai : Option Addr) (ni ci : Nat) (An : Option Addr) (nn cn : Nat) (As : Option Addr) (ns cs : Nat) (Al : Option Addr) (nl cl : Nat) (w : World) (B : Nat) (h : AutRd w B a Ai ni ci An nn cn) (hB : B ≤ w.1.size) :
  Calls Tryd.prog 13 #[.agg #[.int .i64 a.sets, .slice Ai ni ci, .slice An nn cn], .agg #[.slice As ns cs, .slice Al nl cl]] w (Tru w (heavy33 a ns nl)) := by
 obtain ⟨hb0, x0, y0, z0⟩ := two_new w (.cells #[.int .i64 a.sets, .slice Ai ni ci, .slice An nn cn] 25) (.cells #[.slice As ns cs, .slice Al nl cl] 29)
 obtain ⟨W0, hW0⟩ := xQ ((w.alloc (.cells #[.int .i64 a.sets, .slice Ai ni ci, .slice An nn cn] 25)).alloc (.cells #[.slice As ns cs, .slice Al nl cl] 29))
 rw [hW0] at hb0 x0 y0 z0
 have HR0 := dh (h.below hb0 hB)
 have HW0 := dh hW0
 have HB0 := dh hb0
 have q1 : W0.cell? ⟨w.1.size, 1, none⟩ = some (.slice Ai ni ci) := cR x0
 have q2 : W0.cell? ⟨w.1.size, 2, none⟩ = some (.slice An nn cn) := cR x0
 have p0 : W0.cell? ⟨w.1.size + 1, 0, none⟩ = some (.slice As ns cs) := cR y0
 have p1 : W0.cell? ⟨w.1.size + 1, 1, none⟩ = some (.slice Al nl cl) := cR y0
 have HNN := dh HR0.out.enn
 have HD : Hid (heavy33 a ns nl = (decide (16 < nn) || (decide (40 < ni) || (decide (12 < ns) || (decide (12 < nl) || a.nodes.any (fun x => decide (40 < x.to.length))))))) := dh (by rw [heavy33, h.eni, h.enn])
 clear hW0 hb0 x0 y0 z0 h hB
 by_cases c0 : 16 < nn
 ·have d0 : decide ((16 : Int) < (nn : Int)) = true := by simp; omega
  have HR : Hid (heavy33 a ns nl = true) := dh (by rw [HD.out, decide_eq_true c0]; simp)
  clear c0 HD
  go_enter Tryd.func13, Tryd.ntmps13
  go_upto_region 1 with fail
  rw [HW0.out]
  go_wp2_with fail
  go_ret
  exact ⟨ret_bool (by simp [HR.out]), HB0.out⟩
 ·have d0 : decide ((16 : Int) < (nn : Int)) = false := by simp; omega
  by_cases c1 : 40 < ni
  ·have d1 : decide ((40 : Int) < (ni : Int)) = true := by simp; omega
   have HR : Hid (heavy33 a ns nl = true) := dh (by rw [HD.out, decide_eq_false c0, decide_eq_true c1]; simp)
   clear c0 c1 HD
   go_enter Tryd.func13, Tryd.ntmps13
   go_upto_region 1 with fail
   rw [HW0.out]
   go_wp2_with fail
   go_ret
   exact ⟨ret_bool (by simp [HR.out]), HB0.out⟩
  ·have d1 : decide ((40 : Int) < (ni : Int)) = false := by simp; omega
   by_cases c2 : 12 < ns
   ·have d2 : decide ((12 : Int) < (ns : Int)) = true := by simp; omega
    have HR : Hid (heavy33 a ns nl = true) := dh (by rw [HD.out, decide_eq_false c0, decide_eq_false c1, decide_eq_true c2]; simp)
    clear c0 c1 c2 HD
    go_enter Tryd.func13, Tryd.ntmps13
    go_upto_region 1 with fail
    rw [HW0.out]
    go_wp2_with fail
    go_ret
    exact ⟨ret_bool (by simp [HR.out]), HB0.out⟩
   ·have d2 : decide ((12 : Int) < (ns : Int)) = false := by simp; omega
    by_cases c3 : 12 < nl
    ·have d3 : decide ((12 : Int) < (nl : Int)) = true := by simp; omega
     have HR : Hid (heavy33 a ns nl = true) := dh (by rw [HD.out, decide_eq_false c0, decide_eq_false c1, decide_eq_false c2, decide_eq_true c3]; simp)
     clear c0 c1 c2 c3 HD
     go_enter Tryd.func13, Tryd.ntmps13
     go_upto_region 1 with fail
     rw [HW0.out]
     go_wp2_with fail
     go_ret
     exact ⟨ret_bool (by simp [HR.out]), HB0.out⟩
    ·have d3 : decide ((12 : Int) < (nl : Int)) = false := by simp; omega
     have HD2 : Hid (heavy33 a ns nl = a.nodes.any (fun x => decide (40 < x.to.length))) := dh (by rw [HD.out, decide_eq_false c0, decide_eq_false c1, decide_eq_false c2, decide_eq_false c3]; rfl)
     clear HD c1 c2 c3
     go_enter Tryd.func13, Tryd.ntmps13
     go_upto_region 1 with fail
     rw [HW0.out]
     go_wp2_with fail
     clear d0 d1 d2 d3 p0 p1 q1
     go_loopw [5] (fun i wr => ∃ k : Nat, k ≤ nn ∧ i = .int .i64 k ∧ wr = W0 ∧ Hid ((a.nodes.take k).any (fun x => decide (40 < x.to.length)) = false)) (fun i _ => nn - (intOf i).toNat)
     case atStart => exact ⟨0, by omega, rfl, by trivial, dh rfl⟩
     case round =>
      obtain ⟨k, hk, rfl, rfl, ht⟩ := hrel
      by_cases hlt : k < nn
      ·have hkE : k < a.nodes.length := by rw [← HNN.out]; exact hlt
       have hk1 : (k : Int) < (nn : Int) := by omega
       have hk0 : (0 : Int) ≤ (k : Int) := by omega
       have wk : IntKind.i64.wrap ((k : Int) + 1) = (k : Int) + 1 := by rw [wI]; omega
       obtain ⟨b, o, x, At, ct, rfl, hbl, hx, e0, e1, e2, e3, hst⟩ := rd_aut HR0.out hlt
       have hxe : a.nodes[k] = x := by
        rw [gE hkE] at hx; exact Option.some.inj hx
       have hs1 := any_snoc33 (p := fun x : ANd => decide (40 < x.to.length)) hkE
       have hof := fun h => any_of33 (p := fun x : ANd => decide (40 < x.to.length)) hkE h
       rw [hxe] at hs1 hof
       have HS := dh hs1
       have HO := dh hof
       clear hs1 hof hst hx hxe e0 e1 e2
       by_cases hcc : 40 < x.to.length
       ·have d4 : decide ((40 : Int) < (x.to.length : Int)) = true := by simp; omega
        have HC := dh (HO.out (decide_eq_true hcc))
        clear hcc
        go_wp2_with fail
        go_ret
        exact ⟨ret_bool (by simp [HD2.out, HC.out]), HB0.out⟩
       ·have d4 : decide ((40 : Int) < (x.to.length : Int)) = false := by simp; omega
        have HC := dh (decide_eq_false hcc)
        clear hcc
        go_wp2_with fail
        go_roundw
        case rel => exact ⟨k + 1, by omega, congrArg (Value.int .i64) (by omega), by trivial, dh (by rw [HS.out, ht.out, HC.out]; rfl)⟩
        case measure => simp [intOf]; omega
      ·have HT : Hid (a.nodes.any (fun x => decide (40 < x.to.length)) = false) := dh (by have := ht.out; rwa [tL (by rw [← HNN.out]; omega)] at this)
       clear ht
       go_wp2_with fail
       go_ret
       exact ⟨ret_bool (by simp [HD2.out, HT.out]), HB0.out⟩
end Go.Proofs.YtiebpncpdbnelaaDoor
namespace Go.Proofs.YtiebpncpdbnelaaDoor
open Go.RowKit Go.Maps
theorem quotOf_any (x : ANd) (A : Option Addr) (n c : Nat) (w : World) :
  Calls Tryd.prog 39 #[.agg #[.int .u64 (x.need : Int), .int .u64 (x.ban : Int), .int .u64 (x.inn : Int), .slice A n c]] w (fun e w' => e = .returned (.agg #[.int .u64 (x.need : Int), .int .u64 (x.ban : Int), .int .u64 (x.inn : Int)]) ∧ Below w.1.size w w') := by
 obtain ⟨hb0, x0, y0, z0⟩ := two_new w (.cells #[.int .u64 (x.need : Int), .int .u64 (x.ban : Int), .int .u64 (x.inn : Int), .slice A n c] 43) (.cells #[.int .u64 0, .int .u64 0, .int .u64 0] 52)
 obtain ⟨W0, hW0⟩ := xQ ((w.alloc (.cells #[.int .u64 (x.need : Int), .int .u64 (x.ban : Int), .int .u64 (x.inn : Int), .slice A n c] 43)).alloc (.cells #[.int .u64 0, .int .u64 0, .int .u64 0] 52))
 rw [hW0] at hb0 x0 y0 z0
 obtain ⟨q0, q1, q2, q3⟩ := box4A x0
 obtain ⟨y0', y1, y2⟩ := box3A y0
 have f0 := frozen_of_row W0 (w.1.size + 1) 0 _ _ y0
 have f1 := frozen_of_row W0 (w.1.size + 1) 1 _ _ y0
 have f2 := frozen_of_row W0 (w.1.size + 1) 2 _ _ y0
 have yl : w.1.size + 1 < W0.1.size := by omega
 have HW0 := dh hW0
 obtain ⟨Y, hY⟩ := xQ (((W0.setCell ⟨w.1.size + 1, 0, none⟩ (.int .u64 (x.need : Int))).setCell ⟨w.1.size + 1, 1, none⟩ (.int .u64 (x.ban : Int))).setCell ⟨w.1.size + 1, 2, none⟩ (.int .u64 (x.inn : Int)))
 have hset : Y.1[w.1.size + 1]? = some (.cells #[.int .u64 (x.need : Int), .int .u64 (x.ban : Int), .int .u64 (x.inn : Int)] 52 (0, 0)) := by
  rw [← hY, heap_setCell_same _ _ 2 _ _ _ (heap_setCell_same _ _ 1 _ _ _ (heap_setCell_same W0 _ 0 _ _ _ y0))]; rfl
 have hbY : Below w.1.size w Y := by
  rw [← hY]; exact ((hb0.setCell (p := ⟨w.1.size + 1, 0, none⟩) (Nat.le_succ _) _).setCell (p := ⟨w.1.size + 1, 1, none⟩) (Nat.le_succ _) _).setCell (p := ⟨w.1.size + 1, 2, none⟩) (Nat.le_succ _) _
 have HY := dh hY
 have HS := dh hset
 have HB := dh hbY
 clear hW0 hb0 x0 y0 z0 hY hset hbY
 go_enter Tryd.func39, Tryd.ntmps39
 go_upto_region 1 with fail
 rw [HW0.out]
 go_wp2_with fail
 rw [HY.out]
 obtain ⟨g0, g1, g2⟩ := box3A HS.out
 refine bodyPost_ret (v := .agg #[.int .u64 (x.need : Int), .int .u64 (x.ban : Int), .int .u64 (x.inn : Int)]) ?_ rfl ?_
 ·simp [results, Tryd.results39, go_sem, g0, g1, g2]
 ·exact ⟨rfl, HB.out⟩
theorem mapI_look {w : World} {mb n : Nat} {g : Lit → Option Value} (h : GMap w 3 mb n g) (x : Int) (hx : -9223372036854775808 ≤ x ∧ x ≤ 9223372036854775807) (c : Bool) :
  (Instr.lookup 50 (.map (some mb)) (.int .i64 x) c).run Tryd.prog w = .ok (if c then .tuple #[(g (.int .i64 x)).getD (.int .i64 0), .bool (g (.int .i64 x)).isSome] else (g (.int .i64 x)).getD (.int .i64 0)) w :=
 h.look c lawI28 Tryd.underlying50 (by kernel_rfl) (keyI28 hx)
theorem mapI_update {w : World} {mb n : Nat} {g : Lit → Option Value} (h : GMap w 3 mb n g) (x : Int) (hx : -9223372036854775808 ≤ x ∧ x ≤ 9223372036854775807) (hn : n ≤ 1000000) (v : Value) :
  ∃ w1, (Instr.mapUpdate 50 (.map (some mb)) (.int .i64 x) v).run Tryd.prog w = .ok () w1 ∧ (∀ g', PutG g g' (.int .i64 x) v → GMap w1 3 mb (n + 1) g') ∧ w.grownBy w1 (some mb) :=
 h.update lawI28 Tryd.underlying50 (by unfold maxLen; omega) (keyI28 hx) v
def FirstG (l : List Int) (i : Nat) (g : Lit → Option Value) : Prop := ∀ t : Int, g (.int .i64 t) = if t ∈ l.take i then some (.int .i64 (firstP l t : Int)) else none
theorem FirstG.zero (l : List Int) : FirstG l 0 (fun _ => none) := fun t => by simp
theorem FirstG.same {l : List Int} {i : Nat} {g : Lit → Option Value} (h : FirstG l i g) (hi : i < l.length) (hm : l[i] ∈ l.take i) : FirstG l (i + 1) g := fun t => by
 rw [h t]
 have : (t ∈ l.take (i + 1)) ↔ t ∈ l.take i := by
  rw [take_snoc l i hi, List.mem_append, mS]
  exact ⟨fun e => e.elim id (fun e => e ▸ hm), .inl⟩
 simp only [this]
theorem firstP_new {l : List Int} {i : Nat} (hi : i < l.length) (hm : l[i] ∉ l.take i) : firstP l l[i] = i := by
 refine firstB_uniq (Nat.le_of_lt hi) (fun j hj => ?_) (fun _ => by simp [List.getD, hi])
 refine decide_eq_false (fun e => hm ?_)
 rw [gD, gE (by omega)] at e
 have e : l[j] = l[i] := e
 rw [← e]
 exact List.mem_iff_getElem.2 ⟨j, by rw [List.length_take]; omega, by simp⟩
theorem FirstG.put {l : List Int} {i : Nat} {g g' : Lit → Option Value} (h : FirstG l i g) (hi : i < l.length) (hm : l[i] ∉ l.take i) (hp : PutG g g' (.int .i64 l[i]) (.int .i64 (i : Int))) : FirstG l (i + 1) g' := fun t => by
 rw [take_snoc l i hi]
 by_cases e : t = l[i]
 ·subst e
  rw [hp.1, if_pos (List.mem_append_right _ (mS.2 rfl)), firstP_new hi hm]
 ·rw [hp.2 _ (fun h => e (by injection h)), h t]
  have : (t ∈ l.take i ++ [l[i]]) ↔ t ∈ l.take i := by
   rw [List.mem_append, mS]
   exact ⟨fun h => h.elim id (fun h => absurd h e), .inl⟩
  simp only [this]
end Go.Proofs.YtiebpncpdbnelaaDoor
