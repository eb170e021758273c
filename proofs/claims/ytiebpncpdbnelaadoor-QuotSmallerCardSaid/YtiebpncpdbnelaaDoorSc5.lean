/- The walks of layer 7 (strongly connected parts): Of. -/
import Derived.Test.YtiebpncpdbnelaaDoorSc4
import Derived.Test.YtiebpncpdbnelaaDoorScQ
import Derived.Test.YtiebpncpdbnelaaDoorRegM
set_option maxHeartbeats 8000000
set_option maxRecDepth 100000
namespace Go.Proofs.YtiebpncpdbnelaaDoor
open Go.RowKit
theorem own_of_block {w : World} {base q n : Nat} {e : TypeId} {z : Value} (hh : w.1[q]? = some (.cells (madeCells #[z] n) e)) (hb : base ≤ q) (hn : n ≤ maxLen) : w.ownsRow base e 1 (.slice (some ⟨q, 0, none⟩) n n) n (List.replicate n z) := by
 have hm : (madeCells #[z] n).toList = List.replicate n z := toList_madeCells_one _ _
 have hs : (madeCells #[z] n).size = n := by have := congrArg List.length hm; simpa using this
 refine ⟨by simp, .inr ⟨q, n, _, rfl, hb, hh, lR, hn, by rw [hs, Nat.mul_one], ?_⟩⟩
 rw [tL (by rw [Array.length_toList, hs]; omega)]
 exact hm
def OfPost (E : List (List Nd)) (N : Nat) (w : World) (e : Ending) (w' : World) : Prop :=
 ∃ of v, OfOk E of ∧ e = .returned v ∧ w'.ownsRow w.1.size 3 1 v N (icells (natI of)) ∧ Below w.1.size w w'
theorem of_any7 (E : List (List Nd)) (vi vl : Value) (ae : Option Addr) (N ce B : Nat) (w : World) (hEd : Sl2 w B 2 ae N ce (E.map ncells)) (hB : B ≤ w.1.size)
  (hE : ∀ r ∈ E, ∀ e ∈ r, isNd E.length e.op = true) (hN : N ≤ 1000000) (hr : ∀ r ∈ E, r.length ≤ 1000000) :
  Calls Tryd.prog 117 #[.agg #[vi, .slice ae N ce, vl]] w (OfPost E N w) := by
 have hNE : N = E.length := by have := hEd.len; simpa using this
 have hmk := run_make_row' (P := Tryd.prog) 22 3 (.int .i64 0) 8 Tryd.underlying22 infoInt rfl .i64 .i64 N (by omega) (by omega)
 have hmb := run_make_row' (P := Tryd.prog) 54 4 (.bool false) 1 Tryd.underlying54 infoBool rfl .i64 .i64 N (by omega) (by omega)
 obtain ⟨w0, hw0⟩ := xQ (w.alloc (.cells #[vi, .slice ae N ce, vl] 67))
 have hb0 : Below w.1.size w w0 := by rw [← hw0]; exact bR.alloc lR _
 have hx0 : w0.1[w.1.size]? = some (.cells #[vi, .slice ae N ce, vl] 67) := by rw [← hw0]; exact heap_alloc_new w _
 have hz0 : w0.1.size = w.1.size + 1 := by rw [← hw0]; simp
 have hc1 : w0.cell? ⟨w.1.size, 1, none⟩ = some (.slice ae N ce) := cR hx0
 have HW0 := dh hw0
 have HEd := dh (hEd.below hb0 hB)
 have HE := dh hE
 have HR := dh hr
 have HNE := dh hNE
 have HB0 := dh hb0
 have HX0 := dh hx0
 have hgl : w.1.size < w0.1.size := by omega
 have hcap := hEd.cap
 have hmax := hEd.max
 unfold maxLen at hmax
 obtain ⟨gb, hgb⟩ := xQ w.1.size
 have HGB := dh hgb
 rw [hgb] at hc1 hgl HX0 hB
 have HZ0 := dh hz0
 clear hw0 hEd hE hr hNE hb0 hx0 hz0
 go_enter Tryd.func117, Tryd.ntmps117
 go_wp2_with fail
 rw [HW0.out]
 clear hgb
 refine wp_region_held_drew (S := fun w' => w'.cell? ⟨gb, 1, none⟩ = some (.slice ae N ce)) (by kernel_rfl) hc1 (fun hS => ?_)
 refine tkH 0 ?_
 refine tkH 1 ?_
 refine tkH 2 ?_
 refine tkH 4 ?_
 refine tkH 6 ?_
 refine tkH 8 ?_
 refine tkH 10 ?_
 refine wpAnyH_makes N 5 [⟨3, 12, 22, 11, 11, (.cells (madeCells #[.int .i64 0] N) 3)⟩, ⟨5, 14, 22, 13, 13, (.cells (madeCells #[.int .i64 0] N) 3)⟩, ⟨7, 16, 22, 15, 15, (.cells (madeCells #[.int .i64 0] N) 3)⟩, ⟨9, 18, 54, 17, 17, (.cells (madeCells #[.bool false] N) 4)⟩, ⟨11, 20, 22, 19, 19, (.cells (madeCells #[.int .i64 0] N) 3)⟩] rfl 3 _ _ _ (by simp) (by simp) ?_ ?_ (onlyL_of (by kernel_rfl)) (fun w' hb => bC hb hgl hc1) ?_
 ·simp
 ·intro m hm
  simp only [List.mem_cons, List.not_mem_nil, or_false] at hm
  rcases hm with rfl | rfl | rfl | rfl | rfl
  ·exact ⟨⟨_, _, _, rfl⟩, rfl, rfl, hmk⟩
  ·exact ⟨⟨_, _, _, rfl⟩, rfl, rfl, hmk⟩
  ·exact ⟨⟨_, _, _, rfl⟩, rfl, rfl, hmk⟩
  ·exact ⟨⟨_, _, _, rfl⟩, rfl, rfl, hmb⟩
  ·exact ⟨⟨_, _, _, rfl⟩, rfl, rfl, hmk⟩
 intro q w1 hb1 hq hqd
 simp only [putM, markL, List.map_cons, List.map_nil, List.foldl_cons, List.foldl_nil, Mk.val]
 obtain ⟨q3, h3⟩ := xQ (q 3)
 obtain ⟨q5, h5⟩ := xQ (q 5)
 obtain ⟨q7, h7⟩ := xQ (q 7)
 obtain ⟨q9, h9⟩ := xQ (q 9)
 obtain ⟨q11, h11⟩ := xQ (q 11)
 have a3 := hq ⟨3, 12, 22, 11, 11, (.cells (madeCells #[.int .i64 0] N) 3)⟩ (by simp)
 have a5 := hq ⟨5, 14, 22, 13, 13, (.cells (madeCells #[.int .i64 0] N) 3)⟩ (by simp)
 have a7 := hq ⟨7, 16, 22, 15, 15, (.cells (madeCells #[.int .i64 0] N) 3)⟩ (by simp)
 have a9 := hq ⟨9, 18, 54, 17, 17, (.cells (madeCells #[.bool false] N) 4)⟩ (by simp)
 have a11 := hq ⟨11, 20, 22, 19, 19, (.cells (madeCells #[.int .i64 0] N) 3)⟩ (by simp)
 have hd' : q3 ≠ q5 ∧ q3 ≠ q7 ∧ q3 ≠ q11 ∧ q5 ≠ q7 ∧ q5 ≠ q11 ∧ q7 ≠ q11 := by
  have h := fun (i j : Nat) (m m' : Mk) hm hm' (e1 : m.i = i) (e2 : m'.i = j) (hne : i ≠ j) => e1 ▸ e2 ▸ hqd m hm m' hm' (by rw [e1, e2]; exact hne)
  rw [← h3, ← h5, ← h7, ← h11]
  refine ⟨?_, ?_, ?_, ?_, ?_, ?_⟩
  ·exact h 3 5 _ _ (List.mem_cons_self ..) (List.mem_cons_of_mem _ (List.mem_cons_self ..)) rfl rfl (by decide)
  ·exact h 3 7 _ _ (List.mem_cons_self ..) (List.mem_cons_of_mem _ (List.mem_cons_of_mem _ (List.mem_cons_self ..))) rfl rfl (by decide)
  ·exact h 3 11 _ _ (List.mem_cons_self ..) (List.mem_cons_of_mem _ (List.mem_cons_of_mem _ (List.mem_cons_of_mem _ (List.mem_cons_of_mem _ (List.mem_cons_self ..))))) rfl rfl (by decide)
  ·exact h 5 7 _ _ (List.mem_cons_of_mem _ (List.mem_cons_self ..)) (List.mem_cons_of_mem _ (List.mem_cons_of_mem _ (List.mem_cons_self ..))) rfl rfl (by decide)
  ·exact h 5 11 _ _ (List.mem_cons_of_mem _ (List.mem_cons_self ..)) (List.mem_cons_of_mem _ (List.mem_cons_of_mem _ (List.mem_cons_of_mem _ (List.mem_cons_of_mem _ (List.mem_cons_self ..))))) rfl rfl (by decide)
  ·exact h 7 11 _ _ (List.mem_cons_of_mem _ (List.mem_cons_of_mem _ (List.mem_cons_self ..))) (List.mem_cons_of_mem _ (List.mem_cons_of_mem _ (List.mem_cons_of_mem _ (List.mem_cons_of_mem _ (List.mem_cons_self ..))))) rfl rfl (by decide)
 dsimp only at a3 a5 a7 a9 a11
 rw [h3] at a3
 rw [h5] at a5
 rw [h7] at a7
 rw [h9] at a9
 rw [h11] at a11
 rw [h3, h5, h7, h9, h11]
 change w0.1.size ≤ q3 ∧ w1.1[q3]? = _ at a3
 change w0.1.size ≤ q5 ∧ w1.1[q5]? = _ at a5
 change w0.1.size ≤ q7 ∧ w1.1[q7]? = _ at a7
 change w0.1.size ≤ q9 ∧ w1.1[q9]? = _ at a9
 change w0.1.size ≤ q11 ∧ w1.1[q11]? = _ at a11
 clear hq hqd h3 h5 h7 h9 h11
 have hb1' : Below w0.1.size w0 w1 := ⟨hb1.os, hb1.tape, hb1.output, hb1.size, hb1.block⟩
 have hz1 := hb1'.size
 have k1 : w1.cell? ⟨gb, 1, none⟩ = some (.slice ae N ce) := bC hb1' hgl hc1
 have HA := dh (And.intro a3 (And.intro a5 (And.intro a7 (And.intro a9 a11))))
 have HD := dh hd'
 have HB1 := dh hb1'
 clear a3 a5 a7 a9 a11 hd' hb1 hb1' hc1 hmk hmb
 refine wpAnyH_takeD (i := 12) (v := ?_) rfl (by kernel_rfl) (by kernel_rfl) (by kernel_rfl) (fun _ _ _ h => h) (Or.inl ⟨by kernel_rfl, ?_⟩) k1 ?_
 rotate_left 1
 ·(intro w' hSw; (try dsimp only at hSw); go_simp; try (with_reducible rfl))
 refine oneH 13 (fun K hK => ?_)
 go_simp
 have hbB : Below w0.1.size w0 (w1.alloc (.cells #[.slice ae N ce, .slice (some ⟨q3, 0, none⟩) N N, .slice (some ⟨q5, 0, none⟩) N N, .slice (some ⟨q7, 0, none⟩) N N, .slice none 0 0, .slice none 0 0, .slice (some ⟨q9, 0, none⟩) N N, .slice (some ⟨q11, 0, none⟩) N N, .int .i64 0] 140)) := HB1.out.alloc hz1 _
 have hA2 := heap_alloc_new w1 (.cells #[.slice ae N ce, .slice (some ⟨q3, 0, none⟩) N N, .slice (some ⟨q5, 0, none⟩) N N, .slice (some ⟨q7, 0, none⟩) N N, .slice none 0 0, .slice none 0 0, .slice (some ⟨q9, 0, none⟩) N N, .slice (some ⟨q11, 0, none⟩) N N, .int .i64 0] 140)
 have hO : ∀ {b : Nat} {o : Obj}, w1.1[b]? = some o → (w1.alloc (.cells #[.slice ae N ce, .slice (some ⟨q3, 0, none⟩) N N, .slice (some ⟨q5, 0, none⟩) N N, .slice (some ⟨q7, 0, none⟩) N N, .slice none 0 0, .slice none 0 0, .slice (some ⟨q9, 0, none⟩) N N, .slice (some ⟨q11, 0, none⟩) N N, .int .i64 0] 140)).1[b]? = some o := fun h => heap_old (aI.1 h).1 h
 have b3 := hO HA.out.1.2
 have b5 := hO HA.out.2.1.2
 have b7 := hO HA.out.2.2.1.2
 have b9 := hO HA.out.2.2.2.1.2
 have b11 := hO HA.out.2.2.2.2.2
 obtain ⟨w2, hw2⟩ := xQ (w1.alloc (.cells #[.slice ae N ce, .slice (some ⟨q3, 0, none⟩) N N, .slice (some ⟨q5, 0, none⟩) N N, .slice (some ⟨q7, 0, none⟩) N N, .slice none 0 0, .slice none 0 0, .slice (some ⟨q9, 0, none⟩) N N, .slice (some ⟨q11, 0, none⟩) N N, .int .i64 0] 140))
 rw [hw2] at hbB hA2 b3 b5 b7 b9 b11 ⊢
 clear hO hw2
 have hzb : w0.1.size ≤ w1.1.size := hz1
 obtain ⟨bs, hbs⟩ := xQ w1.1.size
 rw [hbs] at hA2 hzb ⊢
 have k2 : w2.cell? ⟨gb, 1, none⟩ = some (.slice ae N ce) := (hbB.cell (p := ⟨gb, 1, none⟩) hgl).trans (cR HX0.out)
 have hmL : N ≤ maxLen := by unfold maxLen; omega
 have hlt : ∀ {b : Nat} {o : Obj}, w2.1[b]? = some o → b < w2.1.size := fun h => (aI.1 h).1
 have hrep : icells (natI (List.replicate N 0)) = List.replicate N (.int .i64 0) := by simp [icells, natI]
 have hM0 : ScM gb (.cells #[vi, .slice ae N ce, vl] 67) w0.1.size bs (.slice ae N ce) N q3 q5 q7 q9 q11 (.slice none 0 0) (.slice none 0 0) (Sc.start N) w2 := by
  have d := HD.out
  refine ⟨hA2, by rw [show (Sc.start N).num = List.replicate N 0 from rfl, hrep]; exact own_of_block b3 HA.out.1.1 hmL, by rw [show (Sc.start N).low = List.replicate N 0 from rfl, hrep]; exact own_of_block b5 HA.out.2.1.1 hmL, by rw [show (Sc.start N).nxt = List.replicate N 0 from rfl, hrep]; exact own_of_block b7 HA.out.2.2.1.1 hmL, by rw [show (Sc.start N).prt = List.replicate N 0 from rfl, hrep]; exact own_of_block b11 HA.out.2.2.2.2.1 hmL, ?_, ?_, ?_, hzb, d, fun g e => by simp [Value.ownBlock] at e, fun g e => by simp [Value.ownBlock] at e, (hbB.block gb hgl).trans HX0.out, ?_⟩
  ·have := own_of_block b9 HA.out.2.2.2.1.1 hmL
   rw [show bcells (Sc.start N).inn = List.replicate N (.bool false) from by simp [bcells, Sc.start]]; exact this
  ·simpa [icells, natI, Sc.start] using World.ownsRow_nil w2 w0.1.size 3 1
  ·simpa [icells, natI, Sc.start] using World.ownsRow_nil w2 w0.1.size 3 1
  ·have := HA.out
   refine ⟨by omega, by omega, by omega, by omega, by omega, by omega, by simp [Value.ownBlock], by simp [Value.ownBlock]⟩
 have HM0 := dh hM0
 have HB2 := dh hbB
 clear hM0 hbB hA2 b3 b5 b7 b9 b11 HA HD HB1 hrep hmL hlt k1
 refine hK.out _ _ k2 (fun hS => ?_)
 clear hK
 refine wpAnyH_takeD (i := 14) (v := ?_) rfl (by kernel_rfl) (by kernel_rfl) (by kernel_rfl) (fun _ _ _ h => h) (Or.inl ⟨by kernel_rfl, ?_⟩) k2 ?_
 rotate_left 1
 ·(intro w' hSw; (try dsimp only at hSw); go_simp; try (with_reducible rfl))
 refine wpAnyH_done (by kernel_rfl) ?_ _
 have HI0 : Hid (SI E (Sc.start N)) := dh (by rw [HNE.out]; exact SI.start E)
 have hEN : E.length = N := HNE.out.symm
 go_wp2_with fail
 clear k2 hS hbs hEN
 go_loopw [26] (fun v wr => ∃ (i : Nat) (s : Sc) (vs vw : Value), i ≤ N ∧ v = .int .i64 i ∧ Hid (SI E s) ∧ Hid (s.way = []) ∧ Hid (∀ y, y < i → 0 < s.num.getD y 0) ∧ ScM gb (.cells #[vi, .slice ae N ce, vl] 67) w0.1.size bs (.slice ae N ce) N q3 q5 q7 q9 q11 vs vw s wr ∧ Below w0.1.size w0 wr) (fun v _ => N - (intOf v).toNat)
 case atStart => exact ⟨0, _, _, _, by omega, rfl, HI0, dh rfl, dh (fun y hy => by omega), HM0.out, HB2.out⟩
 case round =>
  clear HM0 HI0 HB2
  obtain ⟨i, s, vs, vw, hi, rfl, HI, HW, HV, hM, hb⟩ := hrel
  have c1 := hM.cells.2.1
  have c7 := hM.cells.2.2.2.2.2.2.2.1
  by_cases hlt : i < N
  ·have hi0 : (0 : Int) ≤ (i : Int) := by omega
   have hi1 : (i : Int) < (N : Int) := by omega
   have wi : IntKind.i64.wrap ((i : Int) + 1) = (i : Int) + 1 := by rw [wI]; omega
   obtain ⟨n1, n2, n3⟩ := own_getn hM.num hlt
   obtain ⟨ny, hny⟩ := xQ (s.num.getD i 0)
   rw [hny] at n1
   have HM := dh hM
   have HB := dh hb
   have HNY := dh hny
   clear hM hb hny
   by_cases hz : ny = 0
   ·subst hz
    have HWK := dh (walk_any gb _ E ae ce B w0.1.size bs N q3 q5 q7 q9 q11 vs vw s wr i (HEd.out.below HB.out (by omega)) (by omega) HM.out hgl HI.out HW.out hlt HNY.out HE.out hN HR.out)
    go_wp2_with fail
    refine HWK.out.mono ?_
    rintro e w5 ⟨⟨v5, rfl⟩, ⟨s5, vs5, vw5, h1, h2, h3, h4, hM5⟩, hb5⟩
    have HM5 := dh hM5
    have HB5 := dh (HB.out.trans hb5)
    have HI5 := dh h1
    have HW5 := dh h2
    have HV5 : Hid (∀ y, y < i + 1 → 0 < s5.num.getD y 0) := dh (fun y hy => by
     by_cases e : y = i
     ·subst e; exact h4
     ·exact h3 y (HV.out y (by omega)))
    clear hM5 hb5 h1 h2 h3 h4 c1 c7 n1 n2 n3
    go_wp2_with fail
    exact ⟨⟨i + 1, s5, vs5, vw5, by omega, congrArg (Value.int .i64) (by omega), HI5, HW5, HV5, HM5.out, HB5.out⟩, by simp [intOf]; omega⟩
   ·have hz' : ((ny : Int) == 0) = false := by simp; omega
    have HV5 : Hid (∀ y, y < i + 1 → 0 < s.num.getD y 0) := dh (fun y hy => by
     by_cases e : y = i
     ·subst e; rw [HNY.out]; omega
     ·exact HV.out y (by omega))
    go_wp2_with fail
    exact ⟨⟨i + 1, s, vs, vw, by omega, congrArg (Value.int .i64) (by omega), HI, HW, HV5, HM.out, HB.out⟩, by simp [intOf]; omega⟩
  ·have hin : i = N := by omega
   subst hin
   have hall := HI.out.all HW.out (fun x hx => HV.out x (by rw [HNE.out]; exact hx))
   have HOF : Hid (OfOk E s.prt) := dh ⟨HI.out.lp, hall⟩
   have hpo := own_base hM.prt (show w.1.size ≤ w0.1.size by have := HZ0.out; omega)
   have HPO := dh hpo
   have HBF : Hid (Below w.1.size w wr) := dh (HB0.out.trans (hb.mono (by have := HZ0.out; omega)))
   clear hM hb hall hpo c1
   go_wp2_with fail
   go_ret
   exact ⟨s.prt, _, HOF.out, rfl, HPO.out, HBF.out⟩
end Go.Proofs.YtiebpncpdbnelaaDoor
