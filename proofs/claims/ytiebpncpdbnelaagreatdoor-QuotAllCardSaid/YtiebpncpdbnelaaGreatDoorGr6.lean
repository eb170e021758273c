/- The walk of layer 6: Turn. -/
import Derived.Test.YtiebpncpdbnelaaGreatDoorZag
set_option maxHeartbeats 4000000
set_option maxRecDepth 100000
namespace Go.Proofs.YtiebpncpdbnelaaGreatDoor
open Go.RowKit
section
variable (ai ae al : Option Addr) (ni ci ne ce nl cl : Nat)
theorem turnP_any (G : Gph) (w : World) (B : Nat) (h : GrRd w B ai ni ci ae ne ce al nl cl G) (hB : B ≤ w.1.size) (hi : ni ≤ 1000000000) (he : ne ≤ 1000000000) (hl : nl ≤ 17592186044416) (K : Nat) (hr : ∀ l ∈ G.edges, l.length ≤ K) (hK : ne * K ≤ 1000000000) (_hK2 : K ≤ 1000000000) :
  Calls Tryz.prog 72 #[.agg #[.slice ai ni ci, .slice ae ne ce, .slice al nl cl]] w (NewGr w ⟨G.init, turnE G.edges, G.labels⟩) := by
 obtain ⟨L1, L2, L3⟩ := h.lens
 obtain ⟨wx, hwx, hbx, hzx, hx0, hx1, hx2⟩ := boxed3 w (.slice ai ni ci) (.slice ae ne ce) (.slice al nl cl) 55
 obtain ⟨w0, hw0, hb0', hz0, hy0, hy1, hy2⟩ := boxed3 wx (.slice none 0 0) (.slice none 0 0) (.slice none 0 0) 55
 have hb0 : Below w.1.size w w0 := hbx.trans (hb0'.mono (by omega))
 have hx0 := bC hb0' (by omega) hx0
 have hx1 := bC hb0' (by omega) hx1
 have hx2 := bC hb0' (by omega) hx2
 have hr0 : w0.1[w.1.size + 1]? = some (.cells #[.slice none 0 0, .slice none 0 0, .slice none 0 0] 55 (0, 0)) := by
  rw [hw0, ← hzx]; exact heap_alloc_new wx _
 have hww : (w.alloc (.cells #[.slice ai ni ci, .slice ae ne ce, .slice al nl cl] 55)).alloc (.cells #[.slice none 0 0, .slice none 0 0, .slice none 0 0] 55) = w0 := by rw [← hwx, ← hw0]
 have HW0 := dh hww
 have hzl : w.1.size < w0.1.size := by omega
 have hzr : w.1.size + 1 < w0.1.size := by omega
 have HR0 := dh hr0
 have H1 := dh L1
 have H2 := dh L2
 have H3 := dh L3
 have h' := h.below hb0 hB
 clear hw0 hwx L1 L2 L3 hww hb0' hbx hz0 hzx hy0 hy1 hy2 hr0
 have hmk := run_make_row' (P := Tryz.prog) 53 81 (.slice none 0 0) 24 Tryz.underlying53 infoRowE rfl .i64 .i64 ne (by omega) (by omega)
 have hCI := fun (w' : World) (hb : Below w0.1.size w0 w') => cloneInt_any ai ni ci (icells G.init) w' B (h'.hi.below hb (by omega)) (icells_one _) (by have := hb.size; omega) (by omega)
 have hCU := fun (w' : World) (hb : Below w0.1.size w0 w') => cloneU_any al nl cl (G.labels.map (.int .u64)) w' B (h'.hl.below hb (by omega)) (fun u hu => by obtain ⟨x, _, rfl⟩ := List.mem_map.1 hu; rfl) (by have := hb.size; omega) (by omega)
 have HCI := dh hCI
 have HCU := dh hCU
 clear hCI hCU
 have hal : ∀ (w' : World) (X Y : Obj) (o : Nat), ((w'.alloc X).alloc Y).cell? ⟨w'.1.size, o, none⟩ = (w'.alloc X).cell? ⟨w'.1.size, o, none⟩ := fun w' X Y o => World.cell?_alloc_lt _ _ _ (by simp)
 have hal2 : ∀ (w' : World) (X Y : Obj) (o : Nat), ((w'.alloc X).alloc Y).frozen? ⟨w'.1.size, o, none⟩ = (w'.alloc X).frozen? ⟨w'.1.size, o, none⟩ := fun w' X Y o => World.frozen?_of_block (Below.heap_alloc _ _ _ (by simp))
 go_enter Tryz.func72, Tryz.ntmps72
 go_upto_region 1 with fail
 rw [HW0.out]
 go_cut [3] from 4 (fun p wF => TStart w0 ni nl ne (icells G.init) (G.labels.map (.int .u64)) p wF)
 case first =>
  go_region_held3 (fun w' => w'.cell? ⟨w.1.size, 0, none⟩ = some (.slice ai ni ci) ∧ w'.cell? ⟨w.1.size, 1, none⟩ = some (.slice ae ne ce) ∧ w'.cell? ⟨w.1.size, 2, none⟩ = some (.slice al nl cl))
   (first | ((try dsimp only); (first | rw [far3, far3, far3] | rw [far3a, far3a, far3a]); (first | (refine ⟨?_, ?_, ?_⟩ <;> first | assumption | go_keep) | go_keep); all_goals omega) | go_keep)
   (first
    | (go_at_call 86; refine Calls.mono (HCI.out _ (by repeat (first | exact bR | exact hbA0 | exact hbB0 | refine below_al (by first | omega | (simp; done) | (simp; omega)) ?_ | refine Below.drew ?_))) ?_; rintro e wA ⟨vA, rfl, hownA, hbA, _⟩; (obtain ⟨AA, cA, rfl, hsA⟩ := own_sl hownA); have hzA := hbA.size; (try simp at hzA); (try have hzA1 : w0.1.size < wA.1.size := (by omega)); (try have hzA2 : w0.1.size + 1 < wA.1.size := (by omega)); have hzA0 : w0.1.size ≤ wA.1.size := (by omega); have k0 : wA.cell? ⟨w.1.size, 0, none⟩ = some (.slice ai ni ci) := (hbA.cell (p := ⟨w.1.size, 0, none⟩) (by simp; omega)).trans (by go_keep); have k1 : wA.cell? ⟨w.1.size, 1, none⟩ = some (.slice ae ne ce) := (hbA.cell (p := ⟨w.1.size, 1, none⟩) (by simp; omega)).trans (by go_keep); have k2 : wA.cell? ⟨w.1.size, 2, none⟩ = some (.slice al nl cl) := (hbA.cell (p := ⟨w.1.size, 2, none⟩) (by simp; omega)).trans (by go_keep); have hbA0 : Below w0.1.size w0 wA := below_via hbA (by first | omega | (simp; done) | (simp; omega)) (by repeat (first | exact bR | exact hbA0 | exact hbB0 | refine below_al (by first | omega | (simp; done) | (simp; omega)) ?_ | refine Below.drew ?_)); have hownA0 : wA.ownsRow w0.1.size 3 1 _ _ _ := own_base hownA (by first | omega | (simp; done) | (simp; omega)); have hltA := hownA.lt; (try simp only [World.size_alloc, World.drew] at hltA); obtain ⟨hcA, hfA⟩ := bcell hbA)
    | (go_at_call 87; refine Calls.mono (HCU.out _ (by repeat (first | exact bR | exact hbA0 | exact hbB0 | refine below_al (by first | omega | (simp; done) | (simp; omega)) ?_ | refine Below.drew ?_))) ?_; rintro e wB ⟨vB, rfl, hownB, hbB, _⟩; (obtain ⟨AB, cB, rfl, hsB⟩ := own_sl hownB); have hzB := hbB.size; (try simp at hzB); (try have hzB1 : wA.1.size < wB.1.size := (by omega)); (try have hzB2 : wA.1.size + 1 < wB.1.size := (by omega)); have hzB3 : w0.1.size ≤ wB.1.size := (by omega); (try have hzB4 : w0.1.size + 1 < wB.1.size := (by omega)); (try have hzB5 : w0.1.size < wB.1.size := (by omega)); have k0 : wB.cell? ⟨w.1.size, 0, none⟩ = some (.slice ai ni ci) := (hbB.cell (p := ⟨w.1.size, 0, none⟩) (by simp; omega)).trans (by go_keep); have k1 : wB.cell? ⟨w.1.size, 1, none⟩ = some (.slice ae ne ce) := (hbB.cell (p := ⟨w.1.size, 1, none⟩) (by simp; omega)).trans (by go_keep); have k2 : wB.cell? ⟨w.1.size, 2, none⟩ = some (.slice al nl cl) := (hbB.cell (p := ⟨w.1.size, 2, none⟩) (by simp; omega)).trans (by go_keep); have hbB0 : Below w0.1.size w0 wB := below_via hbB (by first | omega | (simp; done) | (simp; omega)) (by repeat (first | exact bR | exact hbA0 | exact hbB0 | refine below_al (by first | omega | (simp; done) | (simp; omega)) ?_ | refine Below.drew ?_)); have hownB0 : wB.ownsRow w0.1.size 34 1 _ _ _ := own_base hownB (by first | omega | (simp; done) | (simp; omega)); (try have hownA1 : wB.ownsRow w0.1.size 3 1 _ _ _ := own_below (by first | exact hownA0 | exact hownA0.alloc _ | exact (hownA0.alloc _).alloc _) hbB); have hltB := hownB.lt; (try simp only [World.size_alloc] at hltB); obtain ⟨hcB, hfB⟩ := bcell hbB))
  all_goals
   clear hcA hfA hcB hfB
   go_wp2_with fail
   go_meet
   clear HCI HCU hmk hal hal2 h h' HW0 hx0 hx1 hx2 k0 k1 k2 hr
   apply Exists.intro
   refine ⟨AA, cA, AB, cB, ?_⟩
   apply Exists.intro
   refine ⟨rfl, ?_, ?_, ?_, ?_, ?_, ?_, ?_, ?_⟩
   ·repeat (first | ((with_reducible refine heap_new ?_); focus (first | rfl | (simp; done))) | ((with_reducible refine heap_old ?_ ?_); focus (first | omega | (simp; done) | (simp; omega))) | (with_reducible refine heap_drew ?_) | ((with_reducible refine heap_below hbB ?_ ?_); focus (first | omega | (simp; done) | (simp; omega))) | ((with_reducible refine heap_below hbA ?_ ?_); focus (first | omega | (simp; done) | (simp; omega))) | (with_reducible refine heap_set3 (a := .slice none 0 0) (b := .slice none 0 0) (c := .slice none 0 0) ?_))
   ·repeat (first | ((with_reducible refine heap_new ?_); focus (first | rfl | (simp; done))) | ((with_reducible refine heap_old ?_ ?_); focus (first | omega | (simp; done) | (simp; omega))) | (with_reducible refine heap_drew ?_) | ((with_reducible refine heap_below hbB ?_ ?_); focus (first | omega | (simp; done) | (simp; omega))) | ((with_reducible refine heap_below hbA ?_ ?_); focus (first | omega | (simp; done) | (simp; omega))) | ((with_reducible refine heap_set3o ?_ ?_); focus (first | omega | (simp; done) | (simp; omega))))
   ·repeat (first | (with_reducible exact hownA1) | (with_reducible refine own_al ?_) | ((with_reducible refine own_set3 ?_ ?_); focus (intro hk; have := hltA _ hk; first | omega | (simp at this; done) | (simp at this; omega))))
   ·repeat (first | (with_reducible exact hownB0) | (with_reducible refine own_al ?_) | ((with_reducible refine own_set3 ?_ ?_); focus (intro hk; have := hltB _ hk; first | omega | (simp at this; done) | (simp at this; omega))))
   ·repeat (first | (with_reducible exact hbB0) | (with_reducible exact hbA0) | ((with_reducible refine below_al ?_ ?_); focus (first | omega | (simp; done) | (simp; omega))) | ((with_reducible refine below_set3 ?_ ?_); focus (first | omega | (simp; done) | (simp; omega))))
   ·(first | omega | (simp; done) | (simp; omega))
   ·(first | omega | (simp; done) | (simp; omega))
   ·(first | omega | (simp; done) | (simp; omega))
 case rest =>
  obtain ⟨g, r, AA, cA, AB, cB, rfl, hg, hT⟩ := TRel.start hcut (by omega)
  have hbF : Below w0.1.size w0 wc := hT.choose_spec.2.2.2.2
  have f1 := bC hbF hzl hx1
  clear hcut HCI HCU hmk hal hal2 HW0
  go_wp2_with fail
  clear f1
  go_loopw [22] (fun i wr => ∃ a : Nat, a ≤ ne ∧ i = .int .i64 a ∧ TRel w0 g r ni nl ne AA cA AB cB (icells G.init) (G.labels.map (.int .u64)) (turnTo ne G.edges a) wr) (fun i _ => ne - (intOf i).toNat)
  case atStart => exact ⟨0, by omega, rfl, hT⟩
  case round =>
   obtain ⟨a, ha, rfl, hT⟩ := hrel
   obtain ⟨wp, rfl⟩ : ∃ wp : World, wp = wr := ⟨_, rfl⟩
   have hbel : Below w0.1.size w0 wp := hT.choose_spec.2.2.2.2
   have hzp := hbel.size
   have e0 := bC hbel hzl hx0
   have e1 := bC hbel hzl hx1
   have e2 := bC hbel hzl hx2
   by_cases hlt : a < ne
   ·have hal : a < G.edges.length := by rw [← H2.out]; exact hlt
    obtain ⟨b, o, A', n', c', rfl, hbb, hc00, hrow⟩ := h'.he.at_ (ed_take hal)
    have hc0 := bC hbel (by omega) hc00
    have hlen := hr G.edges[a] (mM hal)
    have hnx : n' = G.edges[a].length := by have := hrow.len; rw [ncells_len] at this; omega
    have hbd := turnTo_bd (n := ne) hr a
    have hsucc : turnTo ne G.edges (a + 1) = G.edges[a].foldl (turn1 ne a) (turnTo ne G.edges a) := by rw [turnTo, show G.edges.getD a [] = G.edges[a] by simp [List.getD, hal]]
    have haK : a * K + K ≤ 1000000000 := by
     have : (a + 1) * K ≤ ne * K := Nat.mul_le_mul_right _ hlt
     rw [Nat.succ_mul] at this; omega
    generalize G.edges[a] = x at *
    generalize turnTo ne G.edges a = R at *
    subst hnx
    have HSU := dh hsucc
    have HBD := dh hbd
    have hR0 : TRel w0 g r ni nl ne AA cA AB cB (icells G.init) (G.labels.map (.int .u64)) ((x.take 0).foldl (turn1 ne a) R) wp := hT
    clear hsucc hbd hT
    go_wp2
    go_loopw [29] (fun i wr => ∃ m : Nat, m ≤ x.length ∧ i = .int .i64 m ∧ TRel w0 g r ni nl ne AA cA AB cB (icells G.init) (G.labels.map (.int .u64)) ((x.take m).foldl (turn1 ne a) R) wr) (fun i _ => x.length - (intOf i).toNat)
    case atStart => exact ⟨0, by omega, rfl, hR0⟩
    case round =>
     obtain ⟨m, hm, rfl, hT⟩ := hrel
     clear hR0
     by_cases hltm : m < x.length
     ·have hbr : Below w0.1.size w0 wr := hT.choose_spec.2.2.2.2
      obtain ⟨bb, oo, rfl, hbbb, hd0, hd1⟩ := rd_nd (hrow.rd.below hbr (by omega)) hltm
      have hsn := turnF_snoc (n := ne) (a := a) hltm R
      have hbd : ∀ t : Nat, (((x.take m).foldl (turn1 ne a) R).getD t []).length ≤ a * K + m := fun t => by
       have := turnF_bd (n := ne) (a := a) (x.take m) HBD.out t
       rw [List.length_take] at this
       omega
      generalize (x.take m).foldl (turn1 ne a) R = Q at *
      generalize x[m] = e at *
      obtain ⟨op, act⟩ := e
      dsimp only at *
      have hzr2 := hbr.size
      have hzw : w.1.size < wr.1.size := by omega
      have hgw : g < wr.1.size := lt_of_block hT.choose_spec.1
      have HSN := dh hsn
      have HBQ := dh hbd
      have f0 := bC hbr hzl hx0
      have f1 := bC hbr hzl hx1
      have f2 := bC hbr hzl hx2
      have hT1 := hT.below ((Below.refl wr.1.size wr).alloc lR (.cells #[.int .i64 op, .int .i64 act] 83))
      have HT1 := dh hT1
      have HTW := dh hT
      clear hsn hbd hT hT1 e0 e1 e2 hx0 hx1 hx2
      cases hnd : isNd ne op
      ·have HND := dh hnd
       clear hnd
       go_wp2_with fail
       refine (node_any ai _ al ni ci ne ce nl cl op _).mono ?_
       rw [HND.out]
       rintro e w2 ⟨rfl, hb2⟩
       have HT2 := dh (HT1.out.below hb2)
       go_wp2
       go_roundw
       case rel => exact ⟨m + 1, by omega, by go_num, by rw [HSN.out, turn1, if_neg (by rw [HND.out]; decide)]; exact HT2.out⟩
       case measure => simp [intOf]; omega
      ·obtain ⟨t, rfl, htn⟩ := isNd_nat hnd
       have HND := dh hnd
       clear hnd
       go_wp2_with fail
       refine (node_any ai _ al ni ci ne ce nl cl _ _).mono ?_
       rw [HND.out]
       rintro e w2 ⟨rfl, hb2⟩
       have q0 := (hb2.cell (p := ⟨wr.1.size, 0, none⟩) (by simp)).trans (World.cell?_alloc_new wr _ _ _)
       have q1 := (hb2.cell (p := ⟨wr.1.size, 1, none⟩) (by simp)).trans (World.cell?_alloc_new wr _ _ _)
       simp at q0 q1
       obtain ⟨vs, s1, s2, s3, s4, s5⟩ := HTW.out
       have hbW : Below wr.1.size wr w2 := ((Below.refl wr.1.size wr).alloc lR _).trans (hb2.mono (by simp))
       have t1 := (hbW.block g (lt_of_block s1)).trans s1
       have t2 := s2.below hbW
       have t3 := own_below s3 hbW
       have t4 := own_below s4 hbW
       have t5 := s5.trans (hbW.mono s5.size)
       have hrlt := fun (j : Nat) (v : Value) (hv : vs[j]? = some v) => s2.rowlt hv
       clear s1 s2 s3 s4 s5
       obtain ⟨⟨c0, c1, c2⟩, _, hgl⟩ := blk3 t1
       have hQ := t2.len'
       rw [List.length_map] at hQ
       have htq : t < Q.length := by omega
       have hst : turn1 ne a Q ⟨(t : Int), act⟩ = Q.set t (Q[t] ++ [⟨a, act⟩]) := by
        rw [turn1, if_pos HND.out]
        simp [List.getD, htq]
       obtain ⟨u, n0, hu, ho⟩ := t2.row t (ncells Q[t]) (by simp [htq])
       have hn0 : n0 = Q[t].length := by have := ho.1; rw [ncells_len] at this; omega
       have hnb : n0 ≤ a * K + m := by have := HBQ.out t; simp only [List.getD, gE htq, Option.getD_some] at this; omega
       generalize Q[t] = y at *
       obtain ⟨Au, cu, rfl, hsu⟩ := own_sl ho
       have d0 := t2.cell hu
       have d1 := t2.frozen t
       have hrl : r < w2.1.size := (t2.main.lt r rfl).2
       have hwl : wr.1.size < w2.1.size := by have := hb2.size; simp at this; omega
       have i0 : (0 : Int) ≤ (t : Int) := by omega
       have i1 : (t : Int) < (ne : Int) := by omega
       have hb20 : wr.1.size + 1 ≤ w2.1.size := by have := hb2.size; simpa using this
       have hune : ∀ g', (Value.slice Au n0 cu).ownBlock = some g' → g' ≠ wr.1.size := fun g' hg' e => by have := (hrlt t _ hu g' hg').2; omega
       clear hrlt
       have HU := dh hu
       have HST := dh hst
       have HQ := dh hQ
       have HN0 := dh hn0
       have T1 := dh t1
       have hnw := heap_alloc_new w2 (.cells #[.int .i64 a, .int .i64 act] 83)
       clear hu hst hQ hn0 t1
       go_wp2_with fail
       refine wp_region_T (S := fun w' => w'.cell? ⟨g, 1, none⟩ = some (.slice (some ⟨r, 0, none⟩) ne ne) ∧ w'.cell? ⟨wr.1.size, 0, none⟩ = some (.int .i64 (t : Int)) ∧ w'.cell? ⟨wr.1.size, 1, none⟩ = some (.int .i64 act) ∧ w'.cell? ⟨r, t, none⟩ = some (.slice Au n0 cu)) 17 (by kernel_rfl) ⟨c1, q0, q1, d0⟩ (fun hS => ?_)
       refine tkT 0 ?_
       refine tkT 1 ?_
       refine tkT 2 ?_
       refine tkT 3 ?_
       refine tkT 4 ?_
       refine tkT 5 ?_
       refine tkT 6 ?_
       refine tkT 7 ?_
       refine tkT 8 ?_
       refine tkT 9 ?_
       refine tkT 10 ?_
       refine tkT 11 ?_
       refine tkT 12 ?_
       refine tkT 13 ?_
       refine wpAnyT_oneD (i := 14) rfl (by kernel_rfl) (by decide) (fun K hK => ?_)
       go_simp
       refine hK.out _ _ (by go_keep) (fun hS => ?_)
       clear hK
       refine wpAnyT_oneD (i := 15) rfl (by kernel_rfl) (by decide) (fun K hK => ?_)
       refine step_push rfl (.tmp 46) (.tmp 51) 81 rfl w0.1.size 83 2 16 sliceEd _ _ _ (ho.alloc _) rfl w2.1.size #[.int .i64 a, .int .i64 act] rfl hnw rfl (by simp [Value.oneCell']) (by omega) (by omega) (by simp; omega) ?_
       intro u' w3 hown3 ht3 hat3 hne3
       obtain ⟨g', cap', rfl, _⟩ := own_form hown3 (by omega)
       obtain ⟨r1, r2, r3, r4, r5⟩ := TRel.grow (ys := y ++ [⟨a, act⟩]) T1.out t2 t3 t4 t5 rfl HU.out ho (by rw [ncells_append]; simpa [ncells] using hown3) (Tch.undrew ht3) hat3
       have r6 := (r4 _ (by omega) hune 0).trans q0
       have r7 := (r4 _ (by omega) hune 1).trans q1
       refine hK.out _ _ ⟨r1, r6, r7, r2⟩ (fun hS => ?_)
       clear hK r4
       refine tkT 16 ?_
       refine wpAnyT_endD rfl (by kernel_rfl) (by kernel_rfl) (fun K hK => ?_)
       go_simp
       refine hK.out _ _ ?_
       clear hK
       go_wp2
       go_roundw
       case rel => exact ⟨m + 1, by omega, by go_num, by rw [HSN.out, HST.out]; exact r5⟩
       case measure => simp [intOf]; omega
     ·have hml : m = x.length := by omega
      have hT1 := hT
      rw [tL (by omega), ← HSU.out] at hT1
      have HT1 := dh hT1
      clear hT hT1 hml
      go_wp2
      go_roundw
      case rel => exact ⟨a + 1, by omega, by go_num, HT1.out⟩
      case measure => simp [intOf]; omega
   ·have hae : a = ne := by omega
    have hfin : turnTo ne G.edges a = turnE G.edges := by rw [hae, turnE, ← H2.out]
    rw [hfin] at hT
    have HTF := dh hT
    obtain ⟨vs, s1, s2, s3, s4, s5⟩ := hT
    obtain ⟨⟨c0, c1, c2⟩, _, hgl⟩ := blk3 s1
    obtain ⟨⟨r0, r1, r2⟩, ⟨p0, p1, p2⟩, hrl⟩ := blk3 ((hbel.block _ hzr).trans HR0.out)
    have HF := dh (blk3 (heap_set3 (x := .slice AA ni cA) (y := .slice (some ⟨r, 0, none⟩) ne ne) (z := .slice AB nl cB) ((hbel.block _ hzr).trans HR0.out))).1
    have HAE := dh hae
    have hgr : w.1.size + 1 < g := by omega
    clear s1 s2 s3 s4 hfin hae
    go_wp2_with fail
    refine bodyPost_ret (v := .agg #[.slice AA ni cA, .slice (some ⟨r, 0, none⟩) ne ne, .slice AB nl cB]) ?_ rfl ?_
    ·obtain ⟨f0, f1, f2⟩ := HF.out
     simp [results, Tryz.results72, go_sem, f0, f1, f2]
    ·refine ⟨_, _, _, _, _, _, _, _, _, rfl, ?_, ?_, ?_⟩
     ·have := TRel.done (G := ⟨G.init, turnE G.edges, G.labels⟩) (q := w.1.size + 1) (x := .slice AA ni cA) (y := .slice (some ⟨r, 0, none⟩) ne ne) (z := .slice AB nl cB) HTF.out hzr
      refine this.up ?_
      simp [World.setCell]
     ·exact below_set3 (by omega) (hb0.trans (hbel.mono (by omega)))
     ·obtain ⟨vs, ho⟩ := TRel.doneO (q := w.1.size + 1) (x := .slice AA ni cA) (y := .slice (some ⟨r, 0, none⟩) ne ne) (z := .slice AB nl cB) HTF.out hzr
      exact ⟨vs, ho.rebase (by omega)⟩
end
end Go.Proofs.YtiebpncpdbnelaaGreatDoor
