/- The walks of layer 7 (strongly connected parts): Parts. -/
import Derived.Test.YtiebpncpdbnelaaGreatDoorZax
set_option maxHeartbeats 8000000
set_option maxRecDepth 100000
namespace Go.Proofs.YtiebpncpdbnelaaGreatDoor
open Go.RowKit
theorem sliceRowsII : SliceT Tryz.prog 105 22 1 24 :=
 SliceT.mk (z := .slice none 0 0) Tryz.underlying105 (by kernel_rfl) (by decide) (by decide)
theorem Own2.push {w w1 : World} {base te tr size : Nat} {v v' u : Value} {L : List (List Value)} {vs ys : List Value} {n : Nat} {o : Obj} (h : Own2 w base te tr size v L vs) (hne : te ≠ tr) (hu : w.ownsRow base te size u n ys)
  (hud : ∀ (j : Nat) x g, vs[j]? = some x → x.ownBlock = some g → u.ownBlock ≠ some g) (hm : w1.ownsRow base tr 1 v' (L.length + 1) (vs ++ [u])) (ht : Tch (fun k => v.ownBlock = some k) (w.alloc o) w1) : Own2 w1 base te tr size v' (L ++ [ys]) (vs ++ [u]) := by
 have ht' : Tch (fun k => v.ownBlock = some k) w w1 := Tch.trans ((Tch.refl _ w).alloc o) ht (fun _ _ e => e)
 have hrow : ∀ {u : Value} {n : Nat} {ys : List Value}, w.ownsRow base te size u n ys → w1.ownsRow base te size u n ys := fun ho => own_tch ho ht' (fun g hg e => own_ne ho h.main hne g hg e)
 refine ⟨by simpa using hm, by simp [h.len], fun j ys' hj => ?_, fun i j a b g hij ha hb hg => ?_⟩
 ·by_cases hl : j < L.length
  ·rw [gC hl] at hj
   obtain ⟨u', n', h1, h2⟩ := h.row j ys' hj
   exact ⟨u', n', by rw [gC (by rw [h.len]; exact hl)]; exact h1, hrow h2⟩
  ·have hj0 : j = L.length := by
    have := (gB.1 hj).1
    simp at this; omega
   subst hj0
   rw [gR lR, Nat.sub_self] at hj
   simp at hj
   subst hj
   exact ⟨u, n, by rw [← h.len, gR lR, Nat.sub_self]; rfl, hrow hu⟩
 ·by_cases hi : i < vs.length
  ·rw [gC hi] at ha
   by_cases hj : j < vs.length
   ·rw [gC hj] at hb
    exact h.dis i j a b g hij ha hb hg
   ·rw [gR (by omega)] at hb
    have : j - vs.length = 0 := by
     have := (gB.1 hb).1
     simp at this; omega
    rw [this] at hb
    simp at hb
    subst hb
    exact hud i a g ha hg
  ·rw [gR (by omega)] at ha
   have : i - vs.length = 0 := by
    have := (gB.1 ha).1
    simp at this; omega
   rw [this] at ha
   simp at ha
   subst ha
   have hj : j < vs.length := by
    by_cases hj : j < vs.length
    ·exact hj
    ·rw [gR (by omega)] at hb
     have := (gB.1 hb).1
     simp at this; omega
   rw [gC hj] at hb
   intro e
   exact hud j b g hb e hg
def ricells (L : List (List Nat)) : List (List Value) := L.map (fun r => icells (natI r))
def PartsPost (E : List (List Nd)) (w : World) (e : Ending) (w' : World) : Prop :=
 ∃ of v vs, OfOk E of ∧ e = .returned v ∧ Own2 w' w.1.size 3 22 1 v (ricells (scParts of)) vs ∧ Below w.1.size w w'
structure PRel (w1 : World) (of : List Nat) (N k : Nat) (u : Value) (wr : World) (place : List Nat) (vs : List Value) : Prop where
 rows : Own2 wr (w1.1.size + 1) 3 22 1 u (ricells (partsK of k)) vs
 pl : wr.ownsRow w1.1.size 3 1 (.slice (some ⟨w1.1.size, 0, none⟩) N N) N (icells (natI place))
 ok : PlaceOk of place k
 bel : Below w1.1.size w1 wr
theorem parts_any (E : List (List Nd)) (vi vl : Value) (ae : Option Addr) (N ce B : Nat) (w : World) (hEd : Sl2 w B 2 ae N ce (E.map ncells)) (hB : B ≤ w.1.size)
  (hE : ∀ r ∈ E, ∀ e ∈ r, isNd E.length e.op = true) (hN : N ≤ 1000000) (hr : ∀ r ∈ E, r.length ≤ 1000000) :
  Calls Tryz.prog 70 #[.agg #[vi, .slice ae N ce, vl]] w (PartsPost E w) := by
 have hNE : N = E.length := by have := hEd.len; simpa using this
 have hmk := run_make_row' (P := Tryz.prog) 22 3 (.int .i64 0) 8 Tryz.underlying22 infoInt rfl .i64 .i64 N (by omega) (by omega)
 obtain ⟨w0, hw0⟩ := xQ (w.alloc (.cells #[vi, .slice ae N ce, vl] 55))
 have hb0 : Below w.1.size w w0 := by rw [← hw0]; exact bR.alloc lR _
 have hx0 : w0.1[w.1.size]? = some (.cells #[vi, .slice ae N ce, vl] 55) := by rw [← hw0]; exact heap_alloc_new w _
 have hz0 : w0.1.size = w.1.size + 1 := by rw [← hw0]; simp
 have hc0 : w0.cell? ⟨w.1.size, 0, none⟩ = some vi := cR hx0
 have hc1 : w0.cell? ⟨w.1.size, 1, none⟩ = some (.slice ae N ce) := cR hx0
 have hc2 : w0.cell? ⟨w.1.size, 2, none⟩ = some vl := cR hx0
 have HOF := dh (of_any7 E vi vl ae N ce B w0 (hEd.below hb0 hB) (by omega) hE hN hr)
 have HW0 := dh hw0
 have HB0 := dh hb0
 have HNE := dh hNE
 have HZ0 := dh hz0
 clear hw0 hEd hE hr hNE hb0 hx0 hz0
 go_enter Tryz.func70, Tryz.ntmps70
 go_wp2_with fail
 rw [HW0.out]
 go_wp2_with fail
 refine HOF.out.mono ?_
 rintro e w1 ⟨of, v, hof, rfl, hrow, hb1⟩
 obtain ⟨A1, c1, rfl, hs1⟩ := own_sl hrow
 have hcap := hs1.cap
 have hmax := hs1.max
 unfold maxLen at hmax
 have hol : of.length = N := by have := hs1.len; rw [icells_len, natI_len] at this; omega
 have HS1 := dh hs1
 have HOK := dh hof
 have HOL := dh hol
 have HB1 := dh hb1
 clear hof hrow hs1 hol hb1 hc0 hc1 hc2
 go_wp2_with fail
 clear hmk
 have hP0 : PRel w1 of N 0 (.slice none 0 0) (w1.alloc (.cells (madeCells #[.int .i64 0] N) 3)) (List.replicate N 0) [] := by
  refine ⟨?_, ?_, fun j m hj => by simp [repK] at hj, bR.alloc lR _⟩
  ·have : ricells (partsK of 0) = [] := rfl
   rw [this]; exact Own2.nil _ _ _ _ _
  ·have := own_of_block (base := w1.1.size) (heap_alloc_new w1 (.cells (madeCells #[.int .i64 0] N) 3)) lR (by unfold maxLen; omega)
   simpa [icells, natI] using this
 obtain ⟨w2, hw2⟩ := xQ (w1.alloc (.cells (madeCells #[.int .i64 0] N) 3))
 rw [hw2] at hP0 ⊢
 have HP0 := dh hP0
 clear hP0 hw2
 obtain ⟨qp, hqp⟩ := xQ w1.1.size
 have HQ := dh hqp
 rw [hqp]
 clear hqp
 go_loopw [5, 15] (fun u v wr => ∃ (k : Nat) (place : List Nat) (vs : List Value), k ≤ N ∧ v = .int .i64 k ∧ PRel w1 of N k u wr place vs) (fun _ v _ => N - (intOf v).toNat)
 case atStart => exact ⟨0, _, _, by omega, rfl, HP0.out⟩
 case round =>
  clear HP0
  obtain ⟨k, place, vs, hk, rfl, hP⟩ := hrel
  by_cases hlt : k < N
  ·have hk0 : (0 : Int) ≤ (k : Int) := by omega
   have hk1 : (k : Int) < (N : Int) := by omega
   have wk : IntKind.i64.wrap ((k : Int) + 1) = (k : Int) + 1 := by rw [wI]; omega
   obtain ⟨b1, o1, hA1, hb1, hc1⟩ := (HS1.out.rd.below hP.bel lR).at_ (nat_at (by rw [HOL.out]; exact hlt))
   subst hA1
   obtain ⟨p, hp⟩ := xQ (of.getD k 0)
   rw [hp] at hc1
   have hpk : p ≤ k := by rw [← hp]; exact HOK.out.le (by rw [← HNE.out]; exact hlt)
   have hpl : place.length = N := own_nat hP.pl
   obtain ⟨AU, cu, hu, hsu⟩ := hP.rows.sl2
   have hLl : (ricells (partsK of k)).length = (repK of k).length := by simp [ricells, partsK]
   rw [hLl] at hu
   subst hu
   have hrl := repK_len of k
   obtain ⟨nr, hnr⟩ := xQ (repK of k).length
   rw [hnr] at hrl hP ⊢
   have hcu := hsu.cap
   have hmu := hsu.max
   unfold maxLen at hmu
   rw [hLl, hnr] at hcu
   have HPP := dh hp
   have HP := dh hP
   have HNR := dh hnr
   have HPL := dh hpl
   clear hP hp hsu hLl hnr hpl
   have hmL : (ricells (partsK of k)).length = nr := by simp [ricells, partsK, HNR.out]
   have HML := dh hmL
   clear hmL
   by_cases hpe : p = k
   ·subst hpe
    obtain ⟨q1, q2, q3⟩ := own_getn HP.out.pl hlt
    obtain ⟨ov, hov⟩ := xQ (place.getD p 0)
    rw [hov, HQ.out] at q1
    rw [HQ.out] at q2 q3
    have hrA : Own2 (wr.setCell ⟨qp, p, none⟩ (.int .i64 (nr : Int))) (w1.1.size + 1) 3 22 1 (.slice AU nr cu) (ricells (partsK of p)) vs :=
     HP.out.rows.tch (tch_cell qp p _) (fun g hg e => by have := (HP.out.rows.main.lt g hg).1; have := HQ.out; omega) (fun j u g hu hg e => by have := (HP.out.rows.rowlt hu g hg).1; have := HQ.out; omega)
    have hplA : (wr.setCell ⟨qp, p, none⟩ (.int .i64 (nr : Int))).ownsRow w1.1.size 3 1 (.slice (some ⟨qp, 0, none⟩) N N) N (icells (natI (place.set p nr))) := own_setn (HQ.out ▸ HP.out.pl)
    have hbA : Below w1.1.size w1 (wr.setCell ⟨qp, p, none⟩ (.int .i64 (nr : Int))) := HP.out.bel.setCell (p := ⟨qp, p, none⟩) (by have := HQ.out; show w1.1.size ≤ qp; omega) _
    have hokA : PlaceOk of (place.set p nr) (p + 1) := by
     have := placeOk_new HP.out.ok (by rw [HPL.out]; exact hlt) HPP.out
     rwa [HNR.out] at this
    have hmA := hrA.main
    rw [HML.out] at hmA
    have HRA := dh hrA
    have HPA := dh hplA
    have HBA := dh hbA
    have HOA := dh hokA
    have HMA := dh hmA
    clear hrA hplA hbA hokA hmA hov
    go_wp2_with (at_builtin; refine wpList_push rfl (.tmp 28) (.tmp 29) 105 rfl (w1.1.size + 1) 22 1 24 sliceRowsII _ nr _ (HMA.out.alloc _) rfl wr.1.size #[.slice none 0 0] rfl (by have := heap_alloc_new (wr.setCell ⟨qp, p, none⟩ (.int .i64 (nr : Int))) (.cells #[.slice none 0 0] 22); simpa [World.setCell] using this) rfl (by simp [Value.oneCell']) (by omega) (by omega) (by have := HBA.out.size; have := (HPA.out.lt qp rfl).2; have := HQ.out; simp only [World.size_alloc]; omega) ?_; intro v9 w9 hown9 ht9 hat9 _; obtain ⟨gU, cU, rfl⟩ := ownsRow_succ hown9)
    have hmB : ∀ g, (Value.slice AU nr cu).ownBlock = some g → w1.1.size + 1 ≤ g := fun g e => (HMA.out.lt g e).1
    have hrB := HRA.out.push (o := .cells #[.slice none 0 0] 22) (u := .slice none 0 0) (ys := []) (n := 0) (by decide) (World.ownsRow_nil _ _ _ _) (fun _ _ _ _ _ e => by simp [Value.ownBlock] at e) (by rw [HML.out]; exact hown9) ht9
    have ht9' : Tch (fun k => (Value.slice AU nr cu).ownBlock = some k) (wr.setCell ⟨qp, p, none⟩ (.int .i64 (nr : Int))) w9 := Tch.trans ((Tch.refl _ _).alloc _) ht9 (fun _ _ e => e)
    have hpB := own_tch HPA.out ht9' (fun g hg e => by simp [Value.ownBlock] at hg; have := hmB g e; have := HQ.out; omega)
    have hbB : Below w1.1.size w1 w9 := HBA.out.trans (ht9'.below HBA.out.size (fun k hk e => by have := hmB k e; omega))
    have hvl : vs.length = nr := by rw [HRA.out.len, HML.out]
    obtain ⟨wX, hwX⟩ := xQ w9
    rw [hwX] at hrB hpB hbB ⊢
    have cq : wX.cell? ⟨qp, p, none⟩ = some (.int .i64 (nr : Int)) := by
     rw [(own_getn (HQ.out ▸ hpB) hlt).1, setD (by rw [HPL.out]; exact hlt), if_pos rfl]
    have hxj : (vs ++ [Value.slice none 0 0])[nr]? = some (Value.slice none 0 0) := by rw [gR (by omega), hvl, Nat.sub_self]; rfl
    have cu_ : wX.cell? ⟨gU, nr, none⟩ = some (.slice none 0 0) := hrB.cell hxj
    have hpj : (place.set p nr).getD p 0 = nr := by rw [setD (by rw [HPL.out]; exact hlt), if_pos rfl]
    have hxl : (ricells (partsK of p) ++ [[]]).set nr ([] ++ [Value.int .i64 (p : Int)]) = ricells (partsK of (p + 1)) := by
     rw [partsK_new HOK.out (by rw [← HNE.out]; exact hlt) HPP.out, HNR.out]
     simp [ricells, List.map_set, icells, natI]
    have hm2 : (ricells (partsK of p) ++ [[]]).length = nr + 1 := by rw [lA, HML.out]; rfl
    have HXR := dh hrB
    have HXP : Hid (wX.ownsRow w1.1.size 3 1 (.slice (some ⟨qp, 0, none⟩) N N) N (icells (natI (place.set p nr)))) := dh (HQ.out ▸ hpB)
    have HXB := dh hbB
    have HXO := HOA
    have HXJ := dh hxj
    have HXW : Hid (wX.ownsRow (w1.1.size + 1) 3 1 (.slice none 0 0) 0 []) := dh (World.ownsRow_nil _ _ _ _)
    have HXL := dh hxl
    have HPJ := dh hpj
    have HML2 := dh hm2
    clear hrB hpB hbB hxj hpj hxl hm2 ht9 ht9' hat9 hown9 hmB hvl hwX q1 q2 q3
    have hj0 : (0 : Int) ≤ (nr : Int) := by omega
    have hj1 : (nr : Int) < (nr : Int) + 1 := by omega
    go_wp2_with fail
    refine wp_region_U (S := fun w' => w'.cell? ⟨qp, p, none⟩ = some (.int .i64 (nr : Int)) ∧ w'.cell? ⟨gU, nr, none⟩ = some (.slice none 0 0)) 16 (by kernel_rfl) ⟨cq, cu_⟩ (fun hS => ?_)
    have hER := HXR.out.tch (drew_tch wX) (fun _ _ e => e) (fun _ _ _ _ _ e => e)
    have hEP := own_tch HXP.out (drew_tch wX) (fun _ _ e => e)
    have hEB := bel_drew HXB.out
    have hEW := own_tch HXW.out (drew_tch wX) (fun _ _ e => e)
    obtain ⟨wE, hwE⟩ := xQ wX.drew
    rw [hwE] at hER hEP hEB hEW hS ⊢
    have HER := dh hER
    have HEP := dh hEP
    have HEB := dh hEB
    have HEW := dh hEW
    clear hER hEP hEB hEW hwE cq cu_ HXR HXP HXB HXW
    refine tkU 0 [] ?_
    refine tkU 1 [] ?_
    refine tkU 2 [] ?_
    refine tkU 3 [] ?_
    refine tkU 4 [] ?_
    refine tkU 5 [] ?_
    refine tkU 6 [] ?_
    refine tkU 7 [] ?_
    refine tkU 8 [] ?_
    refine tkU 9 [] ?_
    refine tkU 10 [] ?_
    refine tkU 11 [] ?_
    refine tkU 12 [] ?_
    refine wpAnyU_oneD (i := 13) rfl (by kernel_rfl) (fun K hK => ?_)
    go_simp
    have tb := heap_alloc_new wE (.cells #[.int .i64 (p : Int)] 3)
    have tw := own_al (o := (.cells #[.int .i64 (p : Int)] 3)) HEW.out
    have tq := (World.cell?_alloc_lt wE (.cells #[.int .i64 (p : Int)] 3) ⟨qp, p, none⟩ (HEP.out.lt qp rfl).2).trans hS.1
    have tu := (World.cell?_alloc_lt wE (.cells #[.int .i64 (p : Int)] 3) ⟨gU, nr, none⟩ (HER.out.main.lt gU rfl).2).trans hS.2
    obtain ⟨wY, hwY⟩ := xQ (wE.alloc (.cells #[.int .i64 (p : Int)] 3))
    rw [hwY] at tb tw tq tu ⊢
    have HWY := dh hwY
    clear hwY
    refine hK.out _ _ ⟨tq, tu⟩ (fun hS => ?_)
    clear hK
    refine wpAnyU_oneD (i := 14) rfl (by kernel_rfl) (fun K hK => ?_)
    refine step_push rfl (.tmp 42) (.tmp 44) 22 rfl (w1.1.size + 1) 3 1 8 sliceInt _ _ _ tw (by rfl) wE.1.size #[.int .i64 (p : Int)] (by rfl) tb rfl (by simp [Value.oneCell']) (by omega) (by omega) (by rw [← HWY.out]; have := HEB.out.size; have := (HEP.out.lt qp rfl).2; have := HQ.out; simp only [World.size_alloc]; omega) ?_
    intro uZ wZ hownZ htZ hatZ _
    obtain ⟨gZ, cZ, rfl⟩ := ownsRow_succ hownZ
    have htT : Tch (fun k => (.slice none 0 0 : Value).ownBlock = some k) wE wZ := Tch.trans (by rw [← HWY.out]; exact (Tch.refl _ wE).alloc _) htZ (fun _ _ h => h)
    have plZ := own_tch HEP.out htT (fun g hg e => by simp [Value.ownBlock] at hg; have := (HEW.out.lt g e).1; have := HQ.out; omega)
    have mnZ := own_tch HER.out.main htT (fun g hg e => own_ne HEW.out HER.out.main (by decide) g e hg)
    have kq := (own_getn plZ hlt).1
    rw [HPJ.out] at kq
    have kU : wZ.cell? ⟨gU, nr, none⟩ = some (.slice none 0 0) := by rw [HML2.out] at mnZ; rw [mnZ.cellAt nr (by omega)]; exact HXJ.out
    have fU : wZ.frozen? ⟨gU, nr, none⟩ = false := by rw [HML2.out] at mnZ; exact mnZ.frozenAt nr
    have zU : gU < wZ.1.size := (mnZ.lt gU rfl).2
    have hput := (HER.out.put (by decide) HXJ.out (by have := HEB.out.size; have := (HEP.out.lt qp rfl).2; have := HQ.out; omega) hownZ htT (fun g e => by rcases hatZ with h' | h'; exact .inl (h' ▸ e); (rw [h'] at e; cases e; exact .inr (by rw [← HWY.out]; simp)))).1
    have plF := own_tch plZ (tch_cell (w := wZ) gU nr (.slice (some ⟨gZ, 0, none⟩) (0 + 1) cZ)) (fun g hg e => by simp [Value.ownBlock] at hg; have := (HER.out.main.lt gU rfl).1; have := HQ.out; omega)
    have hbF : Below w1.1.size w1 (wZ.setCell ⟨gU, nr, none⟩ (.slice (some ⟨gZ, 0, none⟩) (0 + 1) cZ)) := (HEB.out.trans (htT.below HEB.out.size (fun k hk e => by have := (HEW.out.lt k e).1; omega))).setCell (p := ⟨gU, nr, none⟩) (by have := (HER.out.main.lt gU rfl).1; show w1.1.size ≤ gU; omega) _
    have HPUT := dh hput
    have HPF := dh plF
    have HBF := dh hbF
    clear hput plF hbF hownZ htZ hatZ htT plZ mnZ tb tw tq tu
    refine hK.out _ _ ⟨kq, kU⟩ (fun hS => ?_)
    clear hK
    refine tkU 15 [] ?_
    refine wpAnyU_lastD (i := 16) rfl (by kernel_rfl) (by kernel_rfl) (fun K hK => ?_)
    go_simp
    refine hK.out _ _ ?_
    clear hK
    refine wpAnyU_done (by kernel_rfl) ?_
    clear kq kU fU zU hS
    have hR := HPUT.out
    change Own2 _ _ _ _ _ _ (List.set _ _ (_ ++ [_])) _ at hR
    rw [HXL.out] at hR
    have HR9 := dh hR
    clear hR
    go_wp2_with fail
    exact ⟨⟨p + 1, place.set p nr, _, by omega, congrArg (Value.int .i64) (by omega), ⟨HR9.out, by have h9 := HPF.out; rw [HQ.out] at h9 ⊢; exact h9, HXO.out, HBF.out⟩⟩, by simp [intOf]; omega⟩
   ·have hkE : k < E.length := by rw [← HNE.out]; exact hlt
    obtain ⟨j, hj, hpo⟩ := partsK_old HOK.out hkE (by rw [HPP.out]; exact hpe)
    rw [HPP.out] at hj hpo
    have hjl : j < nr := by have := (gB.1 hj).1; rw [HNR.out] at this; exact this
    have hpj : place.getD p 0 = j := HP.out.ok j p hj
    have hpN : p < N := by omega
    have hrB := HP.out.rows
    have hmain := hrB.main
    rw [HML.out] at hmain
    obtain ⟨nq, rfl⟩ : ∃ t, nr = t + 1 := ⟨nr - 1, by omega⟩
    obtain ⟨gU, cU', hUe⟩ := ownsRow_succ hmain
    cases hUe
    have hxr : (ricells (partsK of k))[j]? = some (icells (natI (rowK of k p))) := by
     unfold ricells
     rw [List.getElem?_map, partsK_at hj]; rfl
    obtain ⟨uj, nj, hxj, hrow⟩ := hrB.row j _ hxr
    obtain ⟨Ar, cr, rfl, hsr⟩ := own_sl hrow
    have hnj : (rowK of k p).length = nj := by have := hsr.len; rw [icells_len, natI_len] at this; omega
    have hnl : nj ≤ 1000000 := by have := rowK_len of k p; omega
    have cq : wr.cell? ⟨qp, p, none⟩ = some (.int .i64 (j : Int)) := by
     rw [(own_getn (HQ.out ▸ HP.out.pl) hpN).1, hpj]
    have cu_ : wr.cell? ⟨gU, j, none⟩ = some (.slice Ar nj cr) := hrB.cell hxj
    have hxl : (ricells (partsK of k)).set j (icells (natI (rowK of k p)) ++ [Value.int .i64 (k : Int)]) = ricells (partsK of (k + 1)) := by
     rw [hpo]
     simp [ricells, List.map_set, icells, natI]
    have hne : ((p : Int) == (k : Int)) = false := by simp; omega
    have hp0 : (0 : Int) ≤ (p : Int) := by omega
    have hp1 : (p : Int) < (N : Int) := by omega
    have hj0 : (0 : Int) ≤ (j : Int) := by omega
    have hj1 : (j : Int) < (nq : Int) + 1 := by omega
    obtain ⟨wX, hwX⟩ := xQ wr
    rw [hwX] at hrB hrow cq cu_ hc1 ⊢
    have HXR := dh hrB
    have HXP : Hid (wX.ownsRow w1.1.size 3 1 (.slice (some ⟨qp, 0, none⟩) N N) N (icells (natI place))) := dh (by rw [← hwX, ← HQ.out]; exact HP.out.pl)
    have HXB : Hid (Below w1.1.size w1 wX) := dh (by rw [← hwX]; exact HP.out.bel)
    have HXO := dh (placeOk_old HP.out.ok (show of.getD k 0 ≠ k by rw [HPP.out]; exact hpe))
    have HXJ := dh hxj
    have HXW := dh hrow
    have HXL := dh hxl
    have HPJ := dh hpj
    have HML2 := HML
    clear hrB hrow hxj hpj hxl hmain hxr hsr hnj hj hpo hkE hwX
    have hlt' := hlt
    replace hlt := hpN
    go_wp2_with fail
    refine wp_region_U (S := fun w' => w'.cell? ⟨qp, p, none⟩ = some (.int .i64 (j : Int)) ∧ w'.cell? ⟨gU, j, none⟩ = some (.slice Ar nj cr)) 16 (by kernel_rfl) ⟨cq, cu_⟩ (fun hS => ?_)
    have hER := HXR.out.tch (drew_tch wX) (fun _ _ e => e) (fun _ _ _ _ _ e => e)
    have hEP := own_tch HXP.out (drew_tch wX) (fun _ _ e => e)
    have hEB := bel_drew HXB.out
    have hEW := own_tch HXW.out (drew_tch wX) (fun _ _ e => e)
    obtain ⟨wE, hwE⟩ := xQ wX.drew
    rw [hwE] at hER hEP hEB hEW hS ⊢
    have HER := dh hER
    have HEP := dh hEP
    have HEB := dh hEB
    have HEW := dh hEW
    clear hER hEP hEB hEW hwE cq cu_ HXR HXP HXB HXW
    refine tkU 0 [] ?_
    refine tkU 1 [] ?_
    refine tkU 2 [] ?_
    refine tkU 3 [] ?_
    refine tkU 4 [] ?_
    refine tkU 5 [] ?_
    refine tkU 6 [] ?_
    refine tkU 7 [] ?_
    refine tkU 8 [] ?_
    refine tkU 9 [] ?_
    refine tkU 10 [] ?_
    refine tkU 11 [] ?_
    refine tkU 12 [] ?_
    refine wpAnyU_oneD (i := 13) rfl (by kernel_rfl) (fun K hK => ?_)
    go_simp
    have tb := heap_alloc_new wE (.cells #[.int .i64 (k : Int)] 3)
    have tw := own_al (o := (.cells #[.int .i64 (k : Int)] 3)) HEW.out
    have tq := (World.cell?_alloc_lt wE (.cells #[.int .i64 (k : Int)] 3) ⟨qp, p, none⟩ (HEP.out.lt qp rfl).2).trans hS.1
    have tu := (World.cell?_alloc_lt wE (.cells #[.int .i64 (k : Int)] 3) ⟨gU, j, none⟩ (HER.out.main.lt gU rfl).2).trans hS.2
    obtain ⟨wY, hwY⟩ := xQ (wE.alloc (.cells #[.int .i64 (k : Int)] 3))
    rw [hwY] at tb tw tq tu ⊢
    have HWY := dh hwY
    clear hwY
    refine hK.out _ _ ⟨tq, tu⟩ (fun hS => ?_)
    clear hK
    refine wpAnyU_oneD (i := 14) rfl (by kernel_rfl) (fun K hK => ?_)
    refine step_push rfl (.tmp 42) (.tmp 44) 22 rfl (w1.1.size + 1) 3 1 8 sliceInt _ _ _ tw (by rfl) wE.1.size #[.int .i64 (k : Int)] (by rfl) tb rfl (by simp [Value.oneCell']) (by omega) (by omega) (by rw [← HWY.out]; have := HEB.out.size; have := (HEP.out.lt qp rfl).2; have := HQ.out; simp only [World.size_alloc]; omega) ?_
    intro uZ wZ hownZ htZ hatZ _
    obtain ⟨gZ, cZ, rfl⟩ := ownsRow_succ hownZ
    have htT : Tch (fun k => (.slice Ar nj cr : Value).ownBlock = some k) wE wZ := Tch.trans (by rw [← HWY.out]; exact (Tch.refl _ wE).alloc _) htZ (fun _ _ h => h)
    have plZ := own_tch HEP.out htT (fun g hg e => by simp [Value.ownBlock] at hg; have := (HEW.out.lt g e).1; have := HQ.out; omega)
    have mnZ := own_tch HER.out.main htT (fun g hg e => own_ne HEW.out HER.out.main (by decide) g e hg)
    have kq := (own_getn plZ hlt).1
    rw [HPJ.out] at kq
    have kU : wZ.cell? ⟨gU, j, none⟩ = some (.slice Ar nj cr) := by rw [HML2.out] at mnZ; rw [mnZ.cellAt j (by omega)]; exact HXJ.out
    have fU : wZ.frozen? ⟨gU, j, none⟩ = false := by rw [HML2.out] at mnZ; exact mnZ.frozenAt j
    have zU : gU < wZ.1.size := (mnZ.lt gU rfl).2
    have hput := (HER.out.put (by decide) HXJ.out (by have := HEB.out.size; have := (HEP.out.lt qp rfl).2; have := HQ.out; omega) hownZ htT (fun g e => by rcases hatZ with h' | h'; exact .inl (h' ▸ e); (rw [h'] at e; cases e; exact .inr (by rw [← HWY.out]; simp)))).1
    have plF := own_tch plZ (tch_cell (w := wZ) gU j (.slice (some ⟨gZ, 0, none⟩) (nj + 1) cZ)) (fun g hg e => by simp [Value.ownBlock] at hg; have := (HER.out.main.lt gU rfl).1; have := HQ.out; omega)
    have hbF : Below w1.1.size w1 (wZ.setCell ⟨gU, j, none⟩ (.slice (some ⟨gZ, 0, none⟩) (nj + 1) cZ)) := (HEB.out.trans (htT.below HEB.out.size (fun k hk e => by have := (HEW.out.lt k e).1; omega))).setCell (p := ⟨gU, j, none⟩) (by have := (HER.out.main.lt gU rfl).1; show w1.1.size ≤ gU; omega) _
    have HPUT := dh hput
    have HPF := dh plF
    have HBF := dh hbF
    clear hput plF hbF hownZ htZ hatZ htT plZ mnZ tb tw tq tu
    refine hK.out _ _ ⟨kq, kU⟩ (fun hS => ?_)
    clear hK
    refine tkU 15 [] ?_
    refine wpAnyU_lastD (i := 16) rfl (by kernel_rfl) (by kernel_rfl) (fun K hK => ?_)
    go_simp
    refine hK.out _ _ ?_
    clear hK
    refine wpAnyU_done (by kernel_rfl) ?_
    clear kq kU fU zU hS
    have hR := HPUT.out
    change Own2 _ _ _ _ _ _ (List.set _ _ (_ ++ [_])) _ at hR
    rw [HXL.out] at hR
    have HR9 := dh hR
    clear hR
    go_wp2_with fail
    exact ⟨⟨k + 1, place, _, by omega, congrArg (Value.int .i64) (by omega), ⟨HR9.out, by have h9 := HPF.out; rw [HQ.out] at h9 ⊢; exact h9, HXO.out, HBF.out⟩⟩, by simp [intOf]; omega⟩
  ·have hkn : k = N := by omega
   subst hkn
   have hfin : PartsPost E w (.returned u5) wr := by
    refine ⟨of, u5, vs, HOK.out, rfl, ?_, (HB0.out.trans (HB1.out.mono (by have := HZ0.out; omega))).trans (hP.bel.mono (by have := HB1.out.size; have := HZ0.out; omega))⟩
    have := hP.rows.rebase (show w.1.size ≤ w1.1.size + 1 by have := HB1.out.size; have := HZ0.out; omega)
    rw [← HOL.out, partsK_all] at this
    exact this
   have HF := dh hfin
   clear hP hfin
   go_wp2_with fail
   go_ret
   exact HF.out
end Go.Proofs.YtiebpncpdbnelaaGreatDoor
