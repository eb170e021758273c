/- The walks of layer 7 (strongly connected parts): come. -/
import Derived.Test.YtiebpncpdbnelaaGreatDoorScM
import Derived.RangeFuncBox
set_option maxHeartbeats 2000000
set_option maxRecDepth 100000
namespace Go.Proofs.YtiebpncpdbnelaaGreatDoor
open Go.RowKit
theorem drew_tch (w : World) : Tch (fun _ => False) w w.drew := ⟨rfl, rfl, rfl, lR, fun _ _ _ => rfl⟩
def ScPost (X : Nat) (xo : Obj) (base b : Nat) (EA : Value) (N qn ql qx qi qp : Nat) (s : Sc) (w : World) (en : Ending) (w' : World) : Prop :=
 (∃ v, en = .returned v) ∧ (∃ vs vw, ScM X xo base b EA N qn ql qx qi qp vs vw s w') ∧ Below base w w'
theorem bel_drew {base : Nat} {w w' : World} (h : Below base w w') : Below base w w'.drew := ⟨h.os, h.tape, h.output, h.size, h.block⟩
theorem ScM.drew {X : Nat} {xo : Obj} {base b : Nat} {EA : Value} {N qn ql qx qi qp : Nat} {vs vw : Value} {s : Sc} {w : World} (h : ScM X xo base b EA N qn ql qx qi qp vs vw s w) : ScM X xo base b EA N qn ql qx qi qp vs vw s w.drew := h.tch (drew_tch w) (fun _ _ e => e)
def SS (vs vw : Value) (w : World) : Nat → Prop := fun k => vs.ownBlock = some k ∨ vw.ownBlock = some k ∨ w.1.size ≤ k
theorem sc45 {X : Nat} {xo : Obj} {base b : Nat} {EA : Value} {N qn ql qx qi qp : Nat} {vs vw : Value} {s : Sc} {w w' : World} (h : ScM X xo base b EA N qn ql qx qi qp vs vw s w) (T : Tch (SS vs vw w) w w') : w'.cell? ⟨b, 4, none⟩ = some vs ∧ w'.cell? ⟨b, 5, none⟩ = some vw := by
 obtain ⟨f1, f2, f3, f4, f5, f6, f7, f8⟩ := h.far
 have hb := T.blk h.blk (fun e => by rcases e with e | e | e; exact f6 e; exact f7 e; omega)
 constructor <;> (rw [cell_of_row _ _ _ _ _ (0, 0) hb]; rfl)
theorem sc_lt {X : Nat} {xo : Obj} {base b : Nat} {EA : Value} {N qn ql qx qi qp : Nat} {vs vw : Value} {s : Sc} {w : World} (h : ScM X xo base b EA N qn ql qx qi qp vs vw s w) (hb : base ≤ w.1.size) {k : Nat} (hk : k < base) (e : SS vs vw w k) : False := by
 rcases e with e | e | e
 ·have := (h.stk.lt _ e).1; omega
 ·have := (h.way.lt _ e).1; omega
 ·omega
theorem come_any (X : Nat) (xo : Obj) (base b : Nat) (EA : Value) (N qn ql qx qi qp : Nat) (vs vw : Value) (s : Sc) (w : World) (n : Nat) (h : ScM X xo base b EA N qn ql qx qi qp vs vw s w) (hn : n < N) (_hN : N ≤ 1000000000) (hc : s.cnt ≤ 1000000000) (hs : s.stk.length ≤ 1000000000) (hw : s.way.length ≤ 1000000000) :
  Calls Tryz.prog 98 #[.pointer (some ⟨b, 0, none⟩), .int .i64 (n : Int)] w (ScPost X xo base b EA N qn ql qx qi qp (s.come n) w) := by
 have wc : IntKind.i64.wrap ((s.cnt : Int) + 1) = (s.cnt : Int) + 1 := by rw [wI]; omega
 have hn0 : (0 : Int) ≤ (n : Int) := by omega
 have hn1 : (n : Int) < (N : Int) := by omega
 obtain ⟨c0, c1, c2, c3, c4, c5, c6, c7, c8⟩ := h.cells
 have hf8 := h.soft 8
 have hbl := h.far.2.2.2.2.2.2.2
 have hbb := h.bb
 have hA := h.set_cnt (s.cnt + 1) (x := (s.cnt : Int) + 1) (by omega)
 have hbA : Below base w (w.setCell ⟨b, 8, none⟩ (.int .i64 ((s.cnt : Int) + 1))) := (Below.refl base w).setCell (p := ⟨b, 8, none⟩) h.bb _
 have HH := dh h
 clear h
 go_enter Tryz.func98, Tryz.ntmps98
 go_wp2_with fail
 clear c0 c1 c2 c3 c4 c5 c6 c7 c8 hf8 hbl HH
 obtain ⟨wA, hwA⟩ := xQ (w.setCell ⟨b, 8, none⟩ (.int .i64 ((s.cnt : Int) + 1)))
 rw [hwA] at hA hbA ⊢
 clear hwA
 obtain ⟨c0, c1, c2, c3, c4, c5, c6, c7, c8⟩ := hA.cells
 rw [show ((({ s with cnt := s.cnt + 1 } : Sc).cnt : Nat) : Int) = (s.cnt : Int) + 1 from by show ((s.cnt + 1 : Nat) : Int) = _; omega] at c8
 have HA := dh hA
 have HBA := dh hbA
 obtain ⟨n1, n2, n3⟩ := own_getn hA.num hn
 clear hA hbA c0 c3 c4 c5 c6 c7
 refine wp_region_held_drew (S := fun w' => w'.cell? ⟨b, 1, none⟩ = some (.slice (some ⟨qn, 0, none⟩) N N) ∧ w'.cell? ⟨b, 2, none⟩ = some (.slice (some ⟨ql, 0, none⟩) N N) ∧ w'.cell? ⟨b, 8, none⟩ = some (.int .i64 ((s.cnt : Int) + 1))) (by kernel_rfl) ⟨c1, c2, c8⟩ (fun hS => ?_)
 refine tkH 0 ?_
 refine tkH 1 ?_
 refine tkH 2 ?_
 refine tkH 3 ?_
 refine tkH 4 ?_
 refine tkH 5 ?_
 refine tkH 6 ?_
 refine tkH 7 ?_
 refine tkH 8 ?_
 refine tkH 9 ?_
 refine tkH 10 ?_
 refine tkH 11 ?_
 refine tkH 12 ?_
 refine tkH 13 ?_
 refine tkH 14 ?_
 refine tkH 15 ?_
 refine tkH 16 ?_
 refine tkH 17 ?_
 refine tkH 18 ?_
 refine oneH 19 (fun K hK => ?_)
 go_simp
 have hB := HA.out.set_num n (s.cnt + 1) (x := (s.cnt : Int) + 1) (by omega)
 have hbB := HBA.out.setCell (p := ⟨qn, n, none⟩) (HA.out.num.lt qn rfl).1 (.int .i64 ((s.cnt : Int) + 1))
 obtain ⟨wB, hwB⟩ := xQ (wA.setCell ⟨qn, n, none⟩ (.int .i64 ((s.cnt : Int) + 1)))
 rw [hwB] at hB hbB ⊢
 clear hwB
 have hc := hB.cells
 have hc8 := hc.2.2.2.2.2.2.2.2
 rw [show ((({ s with cnt := s.cnt + 1 } : Sc).cnt : Nat) : Int) = (s.cnt : Int) + 1 from by show ((s.cnt + 1 : Nat) : Int) = _; omega] at hc8
 obtain ⟨l1, l2, l3⟩ := own_getn hB.low hn
 have HB := dh hB
 have HBB := dh hbB
 have k1 := hc.2.1
 have k2 := hc.2.2.1
 clear hB hbB n1 n2 n3 c1 c2 c8 hc
 refine hK.out _ _ ⟨k1, k2, hc8⟩ (fun hS => ?_)
 clear hK
 refine tkH 20 ?_
 refine oneH 21 (fun K hK => ?_)
 go_simp
 have hC := HB.out.set_low n (s.cnt + 1) (x := (s.cnt : Int) + 1) (by omega)
 have hbC := HBB.out.setCell (p := ⟨ql, n, none⟩) (HB.out.low.lt ql rfl).1 (.int .i64 ((s.cnt : Int) + 1))
 obtain ⟨wC, hwC⟩ := xQ (wB.setCell ⟨ql, n, none⟩ (.int .i64 ((s.cnt : Int) + 1)))
 rw [hwC] at hC hbC ⊢
 clear hwC
 have hc := hC.cells
 have hc8' := hc.2.2.2.2.2.2.2.2
 rw [show ((({ s with cnt := s.cnt + 1 } : Sc).cnt : Nat) : Int) = (s.cnt : Int) + 1 from by show ((s.cnt + 1 : Nat) : Int) = _; omega] at hc8'
 have m1 := hc.2.1
 have m2 := hc.2.2.1
 refine hK.out _ _ ⟨m1, m2, hc8'⟩ (fun hS => ?_)
 clear hK
 refine wpAnyH_done (by kernel_rfl) ?_ _
 have hD := hC.drew
 have hbD := bel_drew hbC
 clear hC hbC HB HBB HA HBA hc hc8 hc8' m1 m2 k1 k2 l1 l2 l3 hS
 obtain ⟨s1, hs1⟩ : ∃ s1 : Sc, s1 = { { { s with cnt := s.cnt + 1 } with num := s.num.set n (s.cnt + 1) } with low := s.low.set n (s.cnt + 1) } := ⟨_, rfl⟩
 have hst : s1.stk = s.stk := by rw [hs1]
 have hwy : s1.way = s.way := by rw [hs1]
 have hse : ({ { s1 with stk := s1.stk ++ [n], way := s1.way ++ [n] } with inn := s1.inn.set n true } : Sc) = s.come n := by rw [hs1]; rfl
 replace hD : ScM X xo base b EA N qn ql qx qi qp vs vw s1 wC.drew := by rw [hs1]; exact hD
 have HSE := dh hse
 have HS1 := dh hst
 have HW1 := dh hwy
 have hls : s1.stk.length ≤ 1000000000 := by rw [hst]; exact hs
 have hlw : s1.way.length ≤ 1000000000 := by rw [hwy]; exact hw
 clear hs1 hst hwy hse
 go_wp2_with fail
 refine wp_region_U (S := fun w' => w'.cell? ⟨b, 4, none⟩ = some vs ∧ w'.cell? ⟨b, 5, none⟩ = some vw) 18 (by kernel_rfl) ⟨hD.cells.2.2.2.2.1, hD.cells.2.2.2.2.2.1⟩ (fun hS => ?_)
 have hE := hD.drew
 have hbE := bel_drew hbD
 obtain ⟨wE, hwE⟩ := xQ wC.drew.drew
 rw [show wC.drew.drew = wE from hwE] at hE hbE hS ⊢
 have hbs := hE.bb
 have hbz : base ≤ wE.1.size := by have := hE.far.2.2.2.2.2.2.2; omega
 have rs := hE.stk
 have rw_ := hE.way
 have HE := dh hE
 have T := Tch.refl (SS vs vw wE) wE
 clear hD hbD hwE hE
 refine tkU 0 [] ?_
 refine tkW 1 ?_
 refine tkU 2 [] ?_
 refine tkU 3 [] ?_
 refine tkU 4 [] ?_
 refine tkU 5 [] ?_
 refine tkU 6 [] ?_
 refine tkU 9 [12, 11, 10] ?_
 refine tkU 10 [12, 11] ?_
 refine tkU 11 [12] ?_
 refine tkU 12 [] ?_
 refine tkU 13 [15, 14] ?_
 refine wpAnyU_ready (rs := [7, 14]) (by kernel_rfl) (by simp) ?_
 refine (allReadyU_consD (i := 7) rfl (by kernel_rfl) (fun K hK => ?_) (allReadyU_consD (i := 14) rfl (by kernel_rfl) (fun K hK => ?_) AllReadyU.nil))
 ·skip
  go_simp
  obtain ⟨wE_7, hwwE_7⟩ := xQ (wE.alloc (.cells #[.int .i64 (n : Int)] 3))
  have T_7 := T.alloc (.cells #[.int .i64 (n : Int)] 3)
  have rs_7 := own_al (o := .cells #[.int .i64 (n : Int)] 3) rs
  have rw_7 := own_al (o := .cells #[.int .i64 (n : Int)] 3) rw_
  have tb7 := heap_alloc_new wE (.cells #[.int .i64 (n : Int)] 3)
  have tz7 : wE.1.size ≤ wE.1.size := T.size
  have ty7 : wE.1.size < (wE.alloc (.cells #[.int .i64 (n : Int)] 3)).1.size := by simp
  rw [hwwE_7] at T_7 rs_7 rw_7 tb7 ty7 ⊢
  clear hwwE_7
  obtain ⟨kk4, kk5⟩ := sc45 HE.out T_7
  refine hK.out _ _ ⟨kk4, kk5⟩ (fun hS => ?_)
  clear hK
  refine wpAnyU_ready (rs := [8, 14]) (by kernel_rfl) (by simp) ?_
  refine (allReadyU_consD (i := 8) rfl (by kernel_rfl) (fun K hK => ?_) (allReadyU_consD (i := 14) rfl (by kernel_rfl) (fun K hK => ?_) AllReadyU.nil))
  ·skip
   refine step_push rfl (.tmp 36) (.tmp 38) 22 rfl base 3 1 8 sliceInt _ _ _ rs_7 (by rfl) wE.1.size #[.int .i64 (n : Int)] (by rfl) tb7 rfl (by simp [Value.oneCell']) (by omega) (by omega) (by have := T_7.size; omega) ?_
   intro v8 wE_7_8 ho8 ht8 hat8 _
   obtain ⟨g8, d8, rfl⟩ := ownsRow_succ ho8
   have rs_7_8 := ho8
   have rw_7_8 := own_tch rw_7 ht8 (fun g hg e => (HE.out.dw g hg).2.2.2.2 e)
   have T_7_8 : Tch (SS vs vw wE) wE wE_7_8 := T_7.trans ht8 (fun _ _ e => .inl e)
   replace hat8 : ∀ g, (Value.slice (some ⟨g8, 0, none⟩) (s1.stk.length + 1) d8).ownBlock = some g → vs.ownBlock = some g ∨ wE.1.size ≤ g := fun g hg => by rcases hat8 with e | e; exact .inl (e ▸ hg); (rw [e] at hg; cases hg; exact .inr T_7.size)
   replace tb7 := ht8.blk tb7 (fun e => by have := (HE.out.stk.lt _ e).2; omega)
   replace ty7 := Nat.lt_of_lt_of_le ty7 ht8.size
   obtain ⟨kk4, kk5⟩ := sc45 HE.out T_7_8
   refine hK.out _ _ ⟨kk4, kk5⟩ (fun hS => ?_)
   clear hK
   refine wpAnyU_oneD (i := 14) rfl (by kernel_rfl) (fun K hK => ?_)
   go_simp
   obtain ⟨wE_7_8_14, hwwE_7_8_14⟩ := xQ (wE_7_8.alloc (.cells #[.int .i64 (n : Int)] 3))
   have T_7_8_14 := T_7_8.alloc (.cells #[.int .i64 (n : Int)] 3)
   have rs_7_8_14 := own_al (o := .cells #[.int .i64 (n : Int)] 3) rs_7_8
   have rw_7_8_14 := own_al (o := .cells #[.int .i64 (n : Int)] 3) rw_7_8
   have tb14 := heap_alloc_new wE_7_8 (.cells #[.int .i64 (n : Int)] 3)
   have tz14 : wE.1.size ≤ wE_7_8.1.size := T_7_8.size
   have ty14 : wE_7_8.1.size < (wE_7_8.alloc (.cells #[.int .i64 (n : Int)] 3)).1.size := by simp
   replace tb7 := heap_old (o := .cells #[.int .i64 (n : Int)] 3) ty7 tb7
   rw [hwwE_7_8_14] at T_7_8_14 rs_7_8_14 rw_7_8_14 tb14 ty14 tb7 ⊢
   replace ty7 := Nat.lt_of_lt_of_le ty7 (by rw [← hwwE_7_8_14]; simp : wE_7_8.1.size ≤ wE_7_8_14.1.size)
   clear hwwE_7_8_14
   obtain ⟨kk4, kk5⟩ := sc45 HE.out T_7_8_14
   refine hK.out _ _ ⟨kk4, kk5⟩ (fun hS => ?_)
   clear hK
   refine wpAnyU_oneD (i := 15) rfl (by kernel_rfl) (fun K hK => ?_)
   refine step_push rfl (.tmp 43) (.tmp 45) 22 rfl base 3 1 8 sliceInt _ _ _ rw_7_8_14 (by rfl) wE_7_8.1.size #[.int .i64 (n : Int)] (by rfl) tb14 rfl (by simp [Value.oneCell']) (by omega) (by omega) (by have := T_7_8_14.size; omega) ?_
   intro v15 wE_7_8_14_15 ho15 ht15 hat15 _
   obtain ⟨g15, d15, rfl⟩ := ownsRow_succ ho15
   have rw_7_8_14_15 := ho15
   have hd8 : ∀ g, (Value.slice (some ⟨g8, 0, none⟩) (s1.stk.length + 1) d8).ownBlock = some g → vw.ownBlock ≠ some g := fun g hg e => by rcases hat8 g hg with e' | e'; exact (HE.out.dw g e).2.2.2.2 e'; (have := (HE.out.way.lt _ e).2; omega)
   have rs_7_8_14_15 := own_tch rs_7_8_14 ht15 (fun g hg e => hd8 g hg e)
   have T_7_8_14_15 : Tch (SS vs vw wE) wE wE_7_8_14_15 := T_7_8_14.trans ht15 (fun _ _ e => .inr (.inl e))
   have hne15 : ∀ g, (Value.slice (some ⟨g15, 0, none⟩) (s1.way.length + 1) d15).ownBlock = some g → (Value.slice (some ⟨g8, 0, none⟩) (s1.stk.length + 1) d8).ownBlock ≠ some g := fun g hg e => by rcases hat15 with e' | e'; exact hd8 g e (e' ▸ hg); (rw [e'] at hg; cases hg; have h9 := (rs_7_8_14.lt _ e).2; omega)
   replace hat15 : ∀ g, (Value.slice (some ⟨g15, 0, none⟩) (s1.way.length + 1) d15).ownBlock = some g → vw.ownBlock = some g ∨ wE.1.size ≤ g := fun g hg => by rcases hat15 with e | e; exact .inl (e ▸ hg); (rw [e] at hg; cases hg; exact .inr T_7_8_14.size)
   obtain ⟨kk4, kk5⟩ := sc45 HE.out T_7_8_14_15
   refine hK.out _ _ ⟨kk4, kk5⟩ (fun hS => ?_)
   clear hK
   refine tkU 16 [17] ?_
   refine tkU 17 [] ?_
   refine wpAnyU_lastD (i := 18) rfl (by kernel_rfl) (by kernel_rfl) (fun K hK => ?_)
   obtain ⟨q4, q5, qf, qb, hF⟩ := HE.out.put_two T_7_8_14_15 (fun k e => e) (l := s1.stk ++ [n]) (m := s1.way ++ [n]) (by simpa [natI, icells] using rs_7_8_14_15) hat8 (by simpa [natI, icells] using rw_7_8_14_15) hat15 hne15
   have qf4 := qf 4
   go_simp
   refine hK.out _ _ ?_
   clear hK
   refine tkB 19 ?_
   refine tkB 20 ?_
   refine wpAnyU_lastD (i := 21) rfl (by kernel_rfl) (by kernel_rfl) (fun K hK => ?_)
   have q5' := (World.cell?_setCell_other wE_7_8_14_15 ⟨b, 4, none⟩ ⟨b, 5, none⟩ (.slice (some ⟨g8, 0, none⟩) (s1.stk.length + 1) d8) (by simp)).trans q5
   have qf5 := qf 5
   go_simp
   refine hK.out _ _ ?_
   clear hK
   refine wpAnyU_done (by kernel_rfl) ?_
   have hbF : Below base wE ((wE_7_8_14_15.setCell ⟨b, 4, none⟩ (.slice (some ⟨g8, 0, none⟩) (s1.stk.length + 1) d8)).setCell ⟨b, 5, none⟩ (.slice (some ⟨g15, 0, none⟩) (s1.way.length + 1) d15)) := ((T_7_8_14_15.below hbz (fun k hk e => sc_lt HE.out hbz hk e)).setCell (p := ⟨b, 4, none⟩) hbs (.slice (some ⟨g8, 0, none⟩) (s1.stk.length + 1) d8)).setCell (p := ⟨b, 5, none⟩) hbs (.slice (some ⟨g15, 0, none⟩) (s1.way.length + 1) d15)
   obtain ⟨wF, hwF⟩ := xQ ((wE_7_8_14_15.setCell ⟨b, 4, none⟩ (.slice (some ⟨g8, 0, none⟩) (s1.stk.length + 1) d8)).setCell ⟨b, 5, none⟩ (.slice (some ⟨g15, 0, none⟩) (s1.way.length + 1) d15))
   rw [hwF] at hF hbF ⊢
   obtain ⟨i1, i2, i3, _⟩ := own_getB hF.inn hn
   have c6 := hF.cells.2.2.2.2.2.2.1
   have hG := hF.set_inn n true
   have hbG := (hbE.trans hbF).setCell (p := ⟨qi, n, none⟩) (hF.inn.lt qi rfl).1 (.bool true)
   rw [HSE.out] at hG
   have HG := dh hG
   have HBG := dh hbG
   clear hF hbF hwF hG hbG hbE
   go_wp2_with fail
   go_end0
   exact ⟨⟨_, rfl⟩, ⟨_, _, HG.out⟩, HBG.out⟩
  ·skip
   go_simp
   obtain ⟨wE_7_14, hwwE_7_14⟩ := xQ (wE_7.alloc (.cells #[.int .i64 (n : Int)] 3))
   have T_7_14 := T_7.alloc (.cells #[.int .i64 (n : Int)] 3)
   have rs_7_14 := own_al (o := .cells #[.int .i64 (n : Int)] 3) rs_7
   have rw_7_14 := own_al (o := .cells #[.int .i64 (n : Int)] 3) rw_7
   have tb14 := heap_alloc_new wE_7 (.cells #[.int .i64 (n : Int)] 3)
   have tz14 : wE.1.size ≤ wE_7.1.size := T_7.size
   have ty14 : wE_7.1.size < (wE_7.alloc (.cells #[.int .i64 (n : Int)] 3)).1.size := by simp
   replace tb7 := heap_old (o := .cells #[.int .i64 (n : Int)] 3) ty7 tb7
   rw [hwwE_7_14] at T_7_14 rs_7_14 rw_7_14 tb14 ty14 tb7 ⊢
   replace ty7 := Nat.lt_of_lt_of_le ty7 (by rw [← hwwE_7_14]; simp : wE_7.1.size ≤ wE_7_14.1.size)
   clear hwwE_7_14
   obtain ⟨kk4, kk5⟩ := sc45 HE.out T_7_14
   refine hK.out _ _ ⟨kk4, kk5⟩ (fun hS => ?_)
   clear hK
   refine wpAnyU_oneD (i := 8) rfl (by kernel_rfl) (fun K hK => ?_)
   refine step_push rfl (.tmp 36) (.tmp 38) 22 rfl base 3 1 8 sliceInt _ _ _ rs_7_14 (by rfl) wE.1.size #[.int .i64 (n : Int)] (by rfl) tb7 rfl (by simp [Value.oneCell']) (by omega) (by omega) (by have := T_7_14.size; omega) ?_
   intro v8 wE_7_14_8 ho8 ht8 hat8 _
   obtain ⟨g8, d8, rfl⟩ := ownsRow_succ ho8
   have rs_7_14_8 := ho8
   have rw_7_14_8 := own_tch rw_7_14 ht8 (fun g hg e => (HE.out.dw g hg).2.2.2.2 e)
   have T_7_14_8 : Tch (SS vs vw wE) wE wE_7_14_8 := T_7_14.trans ht8 (fun _ _ e => .inl e)
   replace hat8 : ∀ g, (Value.slice (some ⟨g8, 0, none⟩) (s1.stk.length + 1) d8).ownBlock = some g → vs.ownBlock = some g ∨ wE.1.size ≤ g := fun g hg => by rcases hat8 with e | e; exact .inl (e ▸ hg); (rw [e] at hg; cases hg; exact .inr T_7_14.size)
   replace tb7 := ht8.blk tb7 (fun e => by have := (HE.out.stk.lt _ e).2; omega)
   replace ty7 := Nat.lt_of_lt_of_le ty7 ht8.size
   replace tb14 := ht8.blk tb14 (fun e => by have := (HE.out.stk.lt _ e).2; omega)
   replace ty14 := Nat.lt_of_lt_of_le ty14 ht8.size
   obtain ⟨kk4, kk5⟩ := sc45 HE.out T_7_14_8
   refine hK.out _ _ ⟨kk4, kk5⟩ (fun hS => ?_)
   clear hK
   refine wpAnyU_oneD (i := 15) rfl (by kernel_rfl) (fun K hK => ?_)
   refine step_push rfl (.tmp 43) (.tmp 45) 22 rfl base 3 1 8 sliceInt _ _ _ rw_7_14_8 (by rfl) wE_7.1.size #[.int .i64 (n : Int)] (by rfl) tb14 rfl (by simp [Value.oneCell']) (by omega) (by omega) (by have := T_7_14_8.size; omega) ?_
   intro v15 wE_7_14_8_15 ho15 ht15 hat15 _
   obtain ⟨g15, d15, rfl⟩ := ownsRow_succ ho15
   have rw_7_14_8_15 := ho15
   have hd8 : ∀ g, (Value.slice (some ⟨g8, 0, none⟩) (s1.stk.length + 1) d8).ownBlock = some g → vw.ownBlock ≠ some g := fun g hg e => by rcases hat8 g hg with e' | e'; exact (HE.out.dw g e).2.2.2.2 e'; (have := (HE.out.way.lt _ e).2; omega)
   have rs_7_14_8_15 := own_tch rs_7_14_8 ht15 (fun g hg e => hd8 g hg e)
   have T_7_14_8_15 : Tch (SS vs vw wE) wE wE_7_14_8_15 := T_7_14_8.trans ht15 (fun _ _ e => .inr (.inl e))
   have hne15 : ∀ g, (Value.slice (some ⟨g15, 0, none⟩) (s1.way.length + 1) d15).ownBlock = some g → (Value.slice (some ⟨g8, 0, none⟩) (s1.stk.length + 1) d8).ownBlock ≠ some g := fun g hg e => by rcases hat15 with e' | e'; exact hd8 g e (e' ▸ hg); (rw [e'] at hg; cases hg; have h9 := (rs_7_14_8.lt _ e).2; omega)
   replace hat15 : ∀ g, (Value.slice (some ⟨g15, 0, none⟩) (s1.way.length + 1) d15).ownBlock = some g → vw.ownBlock = some g ∨ wE.1.size ≤ g := fun g hg => by rcases hat15 with e | e; exact .inl (e ▸ hg); (rw [e] at hg; cases hg; exact .inr T_7_14_8.size)
   obtain ⟨kk4, kk5⟩ := sc45 HE.out T_7_14_8_15
   refine hK.out _ _ ⟨kk4, kk5⟩ (fun hS => ?_)
   clear hK
   refine tkU 16 [17] ?_
   refine tkU 17 [] ?_
   refine wpAnyU_lastD (i := 18) rfl (by kernel_rfl) (by kernel_rfl) (fun K hK => ?_)
   obtain ⟨q4, q5, qf, qb, hF⟩ := HE.out.put_two T_7_14_8_15 (fun k e => e) (l := s1.stk ++ [n]) (m := s1.way ++ [n]) (by simpa [natI, icells] using rs_7_14_8_15) hat8 (by simpa [natI, icells] using rw_7_14_8_15) hat15 hne15
   have qf4 := qf 4
   go_simp
   refine hK.out _ _ ?_
   clear hK
   refine tkB 19 ?_
   refine tkB 20 ?_
   refine wpAnyU_lastD (i := 21) rfl (by kernel_rfl) (by kernel_rfl) (fun K hK => ?_)
   have q5' := (World.cell?_setCell_other wE_7_14_8_15 ⟨b, 4, none⟩ ⟨b, 5, none⟩ (.slice (some ⟨g8, 0, none⟩) (s1.stk.length + 1) d8) (by simp)).trans q5
   have qf5 := qf 5
   go_simp
   refine hK.out _ _ ?_
   clear hK
   refine wpAnyU_done (by kernel_rfl) ?_
   have hbF : Below base wE ((wE_7_14_8_15.setCell ⟨b, 4, none⟩ (.slice (some ⟨g8, 0, none⟩) (s1.stk.length + 1) d8)).setCell ⟨b, 5, none⟩ (.slice (some ⟨g15, 0, none⟩) (s1.way.length + 1) d15)) := ((T_7_14_8_15.below hbz (fun k hk e => sc_lt HE.out hbz hk e)).setCell (p := ⟨b, 4, none⟩) hbs (.slice (some ⟨g8, 0, none⟩) (s1.stk.length + 1) d8)).setCell (p := ⟨b, 5, none⟩) hbs (.slice (some ⟨g15, 0, none⟩) (s1.way.length + 1) d15)
   obtain ⟨wF, hwF⟩ := xQ ((wE_7_14_8_15.setCell ⟨b, 4, none⟩ (.slice (some ⟨g8, 0, none⟩) (s1.stk.length + 1) d8)).setCell ⟨b, 5, none⟩ (.slice (some ⟨g15, 0, none⟩) (s1.way.length + 1) d15))
   rw [hwF] at hF hbF ⊢
   obtain ⟨i1, i2, i3, _⟩ := own_getB hF.inn hn
   have c6 := hF.cells.2.2.2.2.2.2.1
   have hG := hF.set_inn n true
   have hbG := (hbE.trans hbF).setCell (p := ⟨qi, n, none⟩) (hF.inn.lt qi rfl).1 (.bool true)
   rw [HSE.out] at hG
   have HG := dh hG
   have HBG := dh hbG
   clear hF hbF hwF hG hbG hbE
   go_wp2_with fail
   go_end0
   exact ⟨⟨_, rfl⟩, ⟨_, _, HG.out⟩, HBG.out⟩
 ·skip
  go_simp
  obtain ⟨wE_14, hwwE_14⟩ := xQ (wE.alloc (.cells #[.int .i64 (n : Int)] 3))
  have T_14 := T.alloc (.cells #[.int .i64 (n : Int)] 3)
  have rs_14 := own_al (o := .cells #[.int .i64 (n : Int)] 3) rs
  have rw_14 := own_al (o := .cells #[.int .i64 (n : Int)] 3) rw_
  have tb14 := heap_alloc_new wE (.cells #[.int .i64 (n : Int)] 3)
  have tz14 : wE.1.size ≤ wE.1.size := T.size
  have ty14 : wE.1.size < (wE.alloc (.cells #[.int .i64 (n : Int)] 3)).1.size := by simp
  rw [hwwE_14] at T_14 rs_14 rw_14 tb14 ty14 ⊢
  clear hwwE_14
  obtain ⟨kk4, kk5⟩ := sc45 HE.out T_14
  refine hK.out _ _ ⟨kk4, kk5⟩ (fun hS => ?_)
  clear hK
  refine wpAnyU_oneD (i := 7) rfl (by kernel_rfl) (fun K hK => ?_)
  go_simp
  obtain ⟨wE_14_7, hwwE_14_7⟩ := xQ (wE_14.alloc (.cells #[.int .i64 (n : Int)] 3))
  have T_14_7 := T_14.alloc (.cells #[.int .i64 (n : Int)] 3)
  have rs_14_7 := own_al (o := .cells #[.int .i64 (n : Int)] 3) rs_14
  have rw_14_7 := own_al (o := .cells #[.int .i64 (n : Int)] 3) rw_14
  have tb7 := heap_alloc_new wE_14 (.cells #[.int .i64 (n : Int)] 3)
  have tz7 : wE.1.size ≤ wE_14.1.size := T_14.size
  have ty7 : wE_14.1.size < (wE_14.alloc (.cells #[.int .i64 (n : Int)] 3)).1.size := by simp
  replace tb14 := heap_old (o := .cells #[.int .i64 (n : Int)] 3) ty14 tb14
  rw [hwwE_14_7] at T_14_7 rs_14_7 rw_14_7 tb7 ty7 tb14 ⊢
  replace ty14 := Nat.lt_of_lt_of_le ty14 (by rw [← hwwE_14_7]; simp : wE_14.1.size ≤ wE_14_7.1.size)
  clear hwwE_14_7
  obtain ⟨kk4, kk5⟩ := sc45 HE.out T_14_7
  refine hK.out _ _ ⟨kk4, kk5⟩ (fun hS => ?_)
  clear hK
  refine wpAnyU_oneD (i := 8) rfl (by kernel_rfl) (fun K hK => ?_)
  refine step_push rfl (.tmp 36) (.tmp 38) 22 rfl base 3 1 8 sliceInt _ _ _ rs_14_7 (by rfl) wE_14.1.size #[.int .i64 (n : Int)] (by rfl) tb7 rfl (by simp [Value.oneCell']) (by omega) (by omega) (by have := T_14_7.size; omega) ?_
  intro v8 wE_14_7_8 ho8 ht8 hat8 _
  obtain ⟨g8, d8, rfl⟩ := ownsRow_succ ho8
  have rs_14_7_8 := ho8
  have rw_14_7_8 := own_tch rw_14_7 ht8 (fun g hg e => (HE.out.dw g hg).2.2.2.2 e)
  have T_14_7_8 : Tch (SS vs vw wE) wE wE_14_7_8 := T_14_7.trans ht8 (fun _ _ e => .inl e)
  replace hat8 : ∀ g, (Value.slice (some ⟨g8, 0, none⟩) (s1.stk.length + 1) d8).ownBlock = some g → vs.ownBlock = some g ∨ wE.1.size ≤ g := fun g hg => by rcases hat8 with e | e; exact .inl (e ▸ hg); (rw [e] at hg; cases hg; exact .inr T_14_7.size)
  replace tb7 := ht8.blk tb7 (fun e => by have := (HE.out.stk.lt _ e).2; omega)
  replace ty7 := Nat.lt_of_lt_of_le ty7 ht8.size
  replace tb14 := ht8.blk tb14 (fun e => by have := (HE.out.stk.lt _ e).2; omega)
  replace ty14 := Nat.lt_of_lt_of_le ty14 ht8.size
  obtain ⟨kk4, kk5⟩ := sc45 HE.out T_14_7_8
  refine hK.out _ _ ⟨kk4, kk5⟩ (fun hS => ?_)
  clear hK
  refine wpAnyU_oneD (i := 15) rfl (by kernel_rfl) (fun K hK => ?_)
  refine step_push rfl (.tmp 43) (.tmp 45) 22 rfl base 3 1 8 sliceInt _ _ _ rw_14_7_8 (by rfl) wE.1.size #[.int .i64 (n : Int)] (by rfl) tb14 rfl (by simp [Value.oneCell']) (by omega) (by omega) (by have := T_14_7_8.size; omega) ?_
  intro v15 wE_14_7_8_15 ho15 ht15 hat15 _
  obtain ⟨g15, d15, rfl⟩ := ownsRow_succ ho15
  have rw_14_7_8_15 := ho15
  have hd8 : ∀ g, (Value.slice (some ⟨g8, 0, none⟩) (s1.stk.length + 1) d8).ownBlock = some g → vw.ownBlock ≠ some g := fun g hg e => by rcases hat8 g hg with e' | e'; exact (HE.out.dw g e).2.2.2.2 e'; (have := (HE.out.way.lt _ e).2; omega)
  have rs_14_7_8_15 := own_tch rs_14_7_8 ht15 (fun g hg e => hd8 g hg e)
  have T_14_7_8_15 : Tch (SS vs vw wE) wE wE_14_7_8_15 := T_14_7_8.trans ht15 (fun _ _ e => .inr (.inl e))
  have hne15 : ∀ g, (Value.slice (some ⟨g15, 0, none⟩) (s1.way.length + 1) d15).ownBlock = some g → (Value.slice (some ⟨g8, 0, none⟩) (s1.stk.length + 1) d8).ownBlock ≠ some g := fun g hg e => by rcases hat15 with e' | e'; exact hd8 g e (e' ▸ hg); (rw [e'] at hg; cases hg; have h9 := (rs_14_7_8.lt _ e).2; omega)
  replace hat15 : ∀ g, (Value.slice (some ⟨g15, 0, none⟩) (s1.way.length + 1) d15).ownBlock = some g → vw.ownBlock = some g ∨ wE.1.size ≤ g := fun g hg => by rcases hat15 with e | e; exact .inl (e ▸ hg); (rw [e] at hg; cases hg; exact .inr T_14_7_8.size)
  obtain ⟨kk4, kk5⟩ := sc45 HE.out T_14_7_8_15
  refine hK.out _ _ ⟨kk4, kk5⟩ (fun hS => ?_)
  clear hK
  refine tkU 16 [17] ?_
  refine tkU 17 [] ?_
  refine wpAnyU_lastD (i := 18) rfl (by kernel_rfl) (by kernel_rfl) (fun K hK => ?_)
  obtain ⟨q4, q5, qf, qb, hF⟩ := HE.out.put_two T_14_7_8_15 (fun k e => e) (l := s1.stk ++ [n]) (m := s1.way ++ [n]) (by simpa [natI, icells] using rs_14_7_8_15) hat8 (by simpa [natI, icells] using rw_14_7_8_15) hat15 hne15
  have qf4 := qf 4
  go_simp
  refine hK.out _ _ ?_
  clear hK
  refine tkB 19 ?_
  refine tkB 20 ?_
  refine wpAnyU_lastD (i := 21) rfl (by kernel_rfl) (by kernel_rfl) (fun K hK => ?_)
  have q5' := (World.cell?_setCell_other wE_14_7_8_15 ⟨b, 4, none⟩ ⟨b, 5, none⟩ (.slice (some ⟨g8, 0, none⟩) (s1.stk.length + 1) d8) (by simp)).trans q5
  have qf5 := qf 5
  go_simp
  refine hK.out _ _ ?_
  clear hK
  refine wpAnyU_done (by kernel_rfl) ?_
  have hbF : Below base wE ((wE_14_7_8_15.setCell ⟨b, 4, none⟩ (.slice (some ⟨g8, 0, none⟩) (s1.stk.length + 1) d8)).setCell ⟨b, 5, none⟩ (.slice (some ⟨g15, 0, none⟩) (s1.way.length + 1) d15)) := ((T_14_7_8_15.below hbz (fun k hk e => sc_lt HE.out hbz hk e)).setCell (p := ⟨b, 4, none⟩) hbs (.slice (some ⟨g8, 0, none⟩) (s1.stk.length + 1) d8)).setCell (p := ⟨b, 5, none⟩) hbs (.slice (some ⟨g15, 0, none⟩) (s1.way.length + 1) d15)
  obtain ⟨wF, hwF⟩ := xQ ((wE_14_7_8_15.setCell ⟨b, 4, none⟩ (.slice (some ⟨g8, 0, none⟩) (s1.stk.length + 1) d8)).setCell ⟨b, 5, none⟩ (.slice (some ⟨g15, 0, none⟩) (s1.way.length + 1) d15))
  rw [hwF] at hF hbF ⊢
  obtain ⟨i1, i2, i3, _⟩ := own_getB hF.inn hn
  have c6 := hF.cells.2.2.2.2.2.2.1
  have hG := hF.set_inn n true
  have hbG := (hbE.trans hbF).setCell (p := ⟨qi, n, none⟩) (hF.inn.lt qi rfl).1 (.bool true)
  rw [HSE.out] at hG
  have HG := dh hG
  have HBG := dh hbG
  clear hF hbF hwF hG hbG hbE
  go_wp2_with fail
  go_end0
  exact ⟨⟨_, rfl⟩, ⟨_, _, HG.out⟩, HBG.out⟩
end Go.Proofs.YtiebpncpdbnelaaGreatDoor
