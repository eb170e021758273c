/- The walk of layer 6: the reference's Reach. -/
import Derived.Test.YtiebpncpdbnelaaGreatDoorZag
set_option maxHeartbeats 2000000
set_option maxRecDepth 100000
namespace Go.Proofs.YtiebpncpdbnelaaGreatDoor
open Go.RowKit
section
variable (ai ae al : Option Addr) (ni ci ne ce nl cl : Nat)
theorem reachR_any (G : Gph) (from_ : List Int) (A : Option Addr) (n c : Nat) (w : World) (B : Nat) (h : GrRd w B ai ni ci ae ne ce al nl cl G) (hf : Sl w B 1 A n c (icells from_)) (hn : n = from_.length) (hB : B ≤ w.1.size) (he : ne ≤ 1000000000) (hl : n ≤ 1000000000) (hr : ∀ l ∈ G.edges, l.length ≤ 1000000000) :
  Calls Tryz.prog 59 #[.agg #[.slice ai ni ci, .slice ae ne ce, .slice al nl cl], .slice A n c] w (NewRow w 4 1 ne ((reachG ne G.edges from_).map .bool) False) := by
 subst hn
 obtain ⟨L1, L2, L3⟩ := h.lens
 obtain ⟨w0, hw0, hb0, hz0, hx0, hx1, hx2⟩ := boxed3 w (.slice ai ni ci) (.slice ae ne ce) (.slice al nl cl) 55
 have HW0 := dh hw0
 have h' := h.below hb0 hB
 have hf' := hf.below hb0 hB
 have hB0 : B ≤ w0.1.size := by omega
 have hzl : w.1.size < w0.1.size := by omega
 have H2 := dh L2
 have HZ0 := dh hz0
 clear hw0 L1 L2 L3 h hf hz0
 have hmk := run_make_row' (P := Tryz.prog) 48 4 (.bool false) 1 Tryz.underlying48 infoBool rfl .i64 .i64 ne (by omega) (by omega)
 go_enter Tryz.func59, Tryz.ntmps59
 go_wp2
 rw [← HW0.out]
 have hV0 : VRel w0 (w.1.size + 1) ne (.slice none 0 0) ((from_.take 0).foldl (vis ne) (List.replicate ne false, [])) (w0.alloc (.cells (madeCells #[.bool false] ne) 4)) := by
  rw [← HZ0.out]; exact VRel.start (by unfold maxLen; omega)
 clear hmk HW0
 generalize w.1.size + 1 = q at hV0 ⊢
 go_loopw [6, 7] (fun v i wr => ∃ k : Nat, k ≤ from_.length ∧ i = .int .i64 k ∧ VRel w0 q ne v ((from_.take k).foldl (vis ne) (List.replicate ne false, [])) wr) (fun _ i _ => from_.length - (intOf i).toNat)
 case atStart => exact ⟨0, by omega, rfl, hV0⟩
 case round =>
  obtain ⟨k, hk, rfl, hV⟩ := hrel
  have hbr : Below w0.1.size w0 wr := hV.2.2
  have hzr := hbr.size
  have hzw : w.1.size < wr.1.size := by omega
  have f0 := bC hbr hzl hx0
  have f1 := bC hbr hzl hx1
  have f2 := bC hbr hzl hx2
  clear hV0
  have hok : VOk ne ((from_.take k).foldl (vis ne) (List.replicate ne false, [])) := fold_ok _ (st0_ok ne)
  by_cases hlt : k < from_.length
  ·obtain ⟨b, o, rfl, hbb, hc0⟩ := rd_int (hf'.rd.below hbr (by omega)) hlt
   have hbw : b < wr.1.size := by omega
   have hsn := vF_snoc (n := ne) hlt (List.replicate ne false, [])
   generalize (from_.take k).foldl (vis ne) (List.replicate ne false, []) = s at *
   generalize from_[k] = x at *
   have HS := dh hsn
   have HV := dh hV
   have HO := dh hok
   have j0 : (0 : Int) ≤ (k : Int) := by omega
   have j1 : (k : Int) < (from_.length : Int) := by omega
   clear hsn hV hx0 hx1 hx2 hok
   cases hnd : isNd ne x
   ·have HND := dh hnd
    have HX := dh (vis_out (s := s) hnd)
    clear hnd
    go_wp2_with fail
    refine wp_region_held_drew (S := fun w' => w'.cell? ⟨w.1.size, 0, none⟩ = some (.slice ai ni ci) ∧ w'.cell? ⟨w.1.size, 1, none⟩ = some (.slice ae ne ce) ∧ w'.cell? ⟨w.1.size, 2, none⟩ = some (.slice al nl cl) ∧ w'.cell? ⟨b, o + k, none⟩ = some (.int .i64 x)) (by kernel_rfl) ⟨f0, f1, f2, hc0⟩ (fun hS => ?_)
    refine tkH 0 ?_
    refine tkH 1 ?_
    refine tkH 2 ?_
    refine tkH 3 ?_
    refine tkH 4 ?_
    refine oneH 5 (fun K hK => ?_)
    go_simp
    refine (nodeR_any ai ae al ni ci ne ce nl cl x _).mono ?_
    rw [HND.out]
    rintro e w2 ⟨rfl, hb2'⟩
    have hb2 : Below wr.1.size wr w2 := below_undrew hb2'
    have HV2 := dh (HV.out.below hb2)
    go_wp2_with fail
    refine hK.out _ _ ⟨bC hb2 hzw f0, bC hb2 hzw f1, bC hb2 hzw f2, bC hb2 hbw hc0⟩ (fun hS => ?_)
    clear hK
    refine tkH 6 ?_
    refine skH 7 ?_
    refine skH 8 ?_
    refine skH 9 ?_
    refine skH 10 ?_
    refine skH 11 ?_
    refine skH 12 ?_
    refine skH 13 ?_
    refine skH 14 ?_
    refine tkH 15 ?_
    refine wpAnyH_done (by kernel_rfl) ?_ _
    go_wp2
    go_roundw
    case rel => exact ⟨k + 1, by omega, by go_num, by rw [HS.out, HX.out]; exact HV2.out⟩
    case measure => simp [intOf]; omega
   ·obtain ⟨t, rfl, htn⟩ := isNd_nat hnd
    have hlm : t < s.1.length := by rw [HO.out.len]; exact htn
    obtain ⟨m0, m1, hqw, hqb⟩ := own_marks HV.out.1 htn
    have i0 : (0 : Int) ≤ (t : Int) := by omega
    have i1 : (t : Int) < (ne : Int) := by omega
    cases hmk : s.1.getD t false
    ·rw [hmk] at m0
     have HX := dh (vis_new (s := s) hnd hmk hlm)
     have HND := dh hnd
     have hsz : s.2.length < ne := HO.out.lt htn (by simp only [List.getD, gE hlm, Option.getD_some] at hmk ⊢; exact hmk)
     clear hnd hmk
     go_wp2_with fail
     refine wp_region_held_drew (S := fun w' => w'.cell? ⟨w.1.size, 0, none⟩ = some (.slice ai ni ci) ∧ w'.cell? ⟨w.1.size, 1, none⟩ = some (.slice ae ne ce) ∧ w'.cell? ⟨w.1.size, 2, none⟩ = some (.slice al nl cl) ∧ w'.cell? ⟨b, o + k, none⟩ = some (.int .i64 (t : Int)) ∧ w'.cell? ⟨q, t, none⟩ = some (.bool false)) (by kernel_rfl) ⟨f0, f1, f2, hc0, m0⟩ (fun hS => ?_)
     refine tkH 0 ?_
     refine tkH 1 ?_
     refine tkH 2 ?_
     refine tkH 3 ?_
     refine tkH 4 ?_
     refine oneH 5 (fun K hK => ?_)
     go_simp
     refine (nodeR_any ai ae al ni ci ne ce nl cl _ _).mono ?_
     rw [HND.out]
     rintro e w2 ⟨rfl, hb2'⟩
     have hb2 : Below wr.1.size wr w2 := below_undrew hb2'
     have hz2 := hb2.size
     have HV2 := dh (HV.out.below hb2)
     go_wp2_with fail
     have m2 := bC hb2 hqw m0
     have m3 := bC hb2 hbw hc0
     have m4 := bC hb2 hzw f1
     refine hK.out _ _ ⟨bC hb2 hzw f0, m4, bC hb2 hzw f2, m3, m2⟩ (fun hS => ?_)
     clear hK
     refine tkH 6 ?_
     refine tkH 7 ?_
     refine tkH 8 ?_
     refine tkH 9 ?_
     refine tkH 10 ?_
     refine tkH 11 ?_
     refine tkH 12 ?_
     refine tkH 13 ?_
     refine tkH 14 ?_
     refine tkH 15 ?_
     refine wpAnyH_done (by kernel_rfl) ?_ _
     obtain ⟨g1, g2, g3⟩ := VRel.mark (t := t) HV2.out
     have g4 := (HV2.out.1.frozenAt t)
     go_wp2_with (at_builtin; refine wpList_push rfl (.tmp 43) (.tmp 48) 22 rfl w0.1.size 3 1 8 sliceInt _ _ _ (g2.alloc _) rfl w2.1.size #[.int .i64 (t : Int)] rfl (heap_new (by simp [World.setCell])) rfl (by simp [Value.oneCell']) (by omega) (by omega) (by simp [World.setCell]; omega) ?_; intro v3 w3 hown3 ht3 hat3 hne3; have HV3 := dh (VRel.open (t := t) g1 g2 g3 rfl hown3 ht3); clear hown3 ht3 hat3)
     go_roundw
     case rel => exact ⟨k + 1, by omega, by go_num, by rw [HS.out, HX.out]; exact HV3.out⟩
     case measure => simp [intOf]; omega
    ·rw [hmk] at m0
     have HX := dh (vis_old (n := ne) (s := s) hmk hlm)
     have HND := dh hnd
     clear hnd hmk
     go_wp2_with fail
     refine wp_region_held_drew (S := fun w' => w'.cell? ⟨w.1.size, 0, none⟩ = some (.slice ai ni ci) ∧ w'.cell? ⟨w.1.size, 1, none⟩ = some (.slice ae ne ce) ∧ w'.cell? ⟨w.1.size, 2, none⟩ = some (.slice al nl cl) ∧ w'.cell? ⟨b, o + k, none⟩ = some (.int .i64 (t : Int)) ∧ w'.cell? ⟨q, t, none⟩ = some (.bool true)) (by kernel_rfl) ⟨f0, f1, f2, hc0, m0⟩ (fun hS => ?_)
     refine tkH 0 ?_
     refine tkH 1 ?_
     refine tkH 2 ?_
     refine tkH 3 ?_
     refine tkH 4 ?_
     refine oneH 5 (fun K hK => ?_)
     go_simp
     refine (nodeR_any ai ae al ni ci ne ce nl cl _ _).mono ?_
     rw [HND.out]
     rintro e w2 ⟨rfl, hb2'⟩
     have hb2 : Below wr.1.size wr w2 := below_undrew hb2'
     have hz2 := hb2.size
     have HV2 := dh (HV.out.below hb2)
     go_wp2_with fail
     have m2 := bC hb2 hqw m0
     have m3 := bC hb2 hbw hc0
     have m4 := bC hb2 hzw f1
     refine hK.out _ _ ⟨bC hb2 hzw f0, m4, bC hb2 hzw f2, m3, m2⟩ (fun hS => ?_)
     clear hK
     refine tkH 6 ?_
     refine tkH 7 ?_
     refine tkH 8 ?_
     refine tkH 9 ?_
     refine tkH 10 ?_
     refine tkH 11 ?_
     refine tkH 12 ?_
     refine tkH 13 ?_
     refine tkH 14 ?_
     refine tkH 15 ?_
     refine wpAnyH_done (by kernel_rfl) ?_ _
     go_wp2
     go_roundw
     case rel => exact ⟨k + 1, by omega, by go_num, by rw [HS.out, HX.out]; exact HV2.out⟩
     case measure => simp [intOf]; omega
  ·have hkl : k = from_.length := by omega
   rw [tL (by omega)] at hV
   have HV := dh (show VRel w0 q ne u6 (stN ne G.edges from_ 0) wr from hV)
   have hx0r := bC hbr hzl hx0
   clear hV hkl hx0r f0 f1 f2 hok
   go_wp2
   go_loopw [6, 8, 9, 10] (fun v i _ _ wr => ∃ k : Nat, i = .int .i64 k ∧ k ≤ (stN ne G.edges from_ k).2.length ∧ VRel w0 q ne v (stN ne G.edges from_ k) wr) (fun _ i _ _ _ => ne + 1 - (intOf i).toNat)
   case atStart => exact ⟨0, rfl, by omega, HV.out⟩
   case round =>
    clear HV hbr hzr hzw
    obtain ⟨k, rfl, hk, hV⟩ := hrel
    have hbr : Below w0.1.size w0 wr := hV.2.2
    have hzr := hbr.size
    have hzw : w.1.size < wr.1.size := by omega
    have f1 := bC hbr hzl hx1
    have hok := stN_ok ne G.edges from_ k
    have hle := hok.le
    obtain ⟨Ao, co, rfl, hso⟩ := own_sl hV.2.1
    by_cases hlt : k < (stN ne G.edges from_ k).2.length
    ·have hnd := hok.rng _ (mM hlt)
     have hnx := stN_next (n := ne) (E := G.edges) (from_ := from_) (k := k) (gE hlt)
     obtain ⟨b1, o1, rfl, hb1, hc1⟩ := rd_int hso.rd hlt
     generalize (stN ne G.edges from_ k).2[k] = x at *
     obtain ⟨a, rfl, han⟩ := isNd_nat hnd
     have hal : a < G.edges.length := by rw [← H2.out]; exact han
     obtain ⟨b, o, A', n', c', rfl, hbb, hc0, hrow⟩ := h'.he.at_ (ed_take hal)
     have hc0r := bC hbr (by omega) hc0
     have hlen := hr G.edges[a] (mM hal)
     have hnx' : n' = G.edges[a].length := by have := hrow.len; rw [ncells_len] at this; omega
     have hxr : G.edges.getD (a : Int).toNat [] = G.edges[a] := by simp [List.getD, hal]
     rw [hxr] at hnx
     clear hxr hnd hso
     generalize G.edges[a] = x at *
     subst hnx'
     generalize hgs : stN ne G.edges from_ k = s at *
     have i0 : (0 : Int) ≤ (a : Int) := by omega
     have i1 : (a : Int) < (ne : Int) := by omega
     have j0 : (0 : Int) ≤ (k : Int) := by omega
     have j1 : (k : Int) < (s.2.length : Int) := by omega
     have HNX := dh hnx
     have HGS := dh hgs
     have HOK := dh hok
     have HV := dh hV
     clear hnx hgs hok hV
     go_wp2_with fail
     refine wp_region_held_drew (S := fun w' => w'.cell? ⟨w.1.size, 1, none⟩ = some (.slice (some ⟨b, o, none⟩) ne ce) ∧ w'.cell? ⟨b1, o1 + k, none⟩ = some (.int .i64 (a : Int)) ∧ w'.cell? ⟨b, o + a, none⟩ = some (.slice A' x.length c')) (by kernel_rfl) ⟨f1, hc1, hc0r⟩ (fun hS => ?_)
     refine tkH 0 ?_
     refine tkH 1 ?_
     refine tkH 2 ?_
     refine tkH 3 ?_
     refine tkH 4 ?_
     refine tkH 5 ?_
     refine tkH 6 ?_
     refine tkH 7 ?_
     refine tkH 8 ?_
     refine wpAnyH_done (by kernel_rfl) ?_ _
     obtain ⟨wp, hwp⟩ : ∃ wp : World, wp = wr.drew := ⟨_, rfl⟩
     have hV0 : VRel w0 q ne (.slice (some ⟨b1, o1, none⟩) s.2.length co) (((tgts x).take 0).foldl (vis ne) s) wp := by rw [hwp]; exact HV.out.below (Below.drew bR)
     rw [← hwp]
     clear hwp HV
     go_wp2
     go_loopw [6, 10] (fun v i wr => ∃ m : Nat, m ≤ x.length ∧ i = .int .i64 m ∧ VRel w0 q ne v (((tgts x).take m).foldl (vis ne) s) wr) (fun _ i _ => x.length - (intOf i).toNat)
     case atStart => exact ⟨0, by omega, rfl, hV0⟩
     case round =>
      clear hV0 f1 hc0r hc1 hbr hzr hzw
      obtain ⟨m, hm, rfl, hV⟩ := hrel
      have hbr : Below w0.1.size w0 wr := hV.2.2
      have hzr := hbr.size
      have hzw : w.1.size < wr.1.size := by omega
      have f0 := bC hbr hzl hx0
      have f1 := bC hbr hzl hx1
      have f2 := bC hbr hzl hx2
      have hok : VOk ne (((tgts x).take m).foldl (vis ne) s) := fold_ok _ HOK.out
      by_cases hltm : m < x.length
      ·obtain ⟨bb, oo, rfl, hbbb, hd0, _⟩ := rd_nd (hrow.rd.below hbr (by omega)) hltm
       have hbw : bb < wr.1.size := by omega
       have hsn := tF_snoc (n := ne) hltm s
       generalize ((tgts x).take m).foldl (vis ne) s = s' at *
       generalize x[m].op = y at *
       have HS := dh hsn
       have HV := dh hV
       have HO := dh hok
       have k0 : (0 : Int) ≤ (m : Int) := by omega
       have k1 : (m : Int) < (x.length : Int) := by omega
       clear hsn hV hx0 hx1 hx2 hok
       cases hnd : isNd ne y
       ·have HND := dh hnd
        have HX := dh (vis_out (s := s') hnd)
        clear hnd
        go_wp2_with fail
        refine wp_region_held_drew (S := fun w' => w'.cell? ⟨w.1.size, 0, none⟩ = some (.slice ai ni ci) ∧ w'.cell? ⟨w.1.size, 1, none⟩ = some (.slice (some ⟨b, o, none⟩) ne ce) ∧ w'.cell? ⟨w.1.size, 2, none⟩ = some (.slice al nl cl) ∧ w'.cell? ⟨bb, oo + m * 2, none⟩ = some (.int .i64 y)) (by kernel_rfl) ⟨f0, f1, f2, hd0⟩ (fun hS => ?_)
        refine tkH 0 ?_
        refine tkH 1 ?_
        refine tkH 2 ?_
        refine tkH 3 ?_
        refine tkH 4 ?_
        refine tkH 5 ?_
        refine oneH 6 (fun K hK => ?_)
        go_simp
        refine (nodeR_any ai _ al ni ci ne ce nl cl _ _).mono ?_
        rw [HND.out]
        rintro e w2 ⟨rfl, hb2'⟩
        have hb2 : Below wr.1.size wr w2 := below_undrew hb2'
        have hz2 := hb2.size
        have HV2 := dh (HV.out.below hb2)
        have p0 := bC hb2 hzw f0
        have p1 := bC hb2 hzw f1
        have p2 := bC hb2 hzw f2
        have p3 := bC hb2 hbw hd0
        go_wp2_with fail
        refine hK.out _ _ ⟨p0, p1, p2, p3⟩ (fun hS => ?_)
        clear hK
        refine tkH 7 ?_
        refine skH 8 ?_
        refine skH 9 ?_
        refine skH 10 ?_
        refine skH 11 ?_
        refine skH 12 ?_
        refine skH 13 ?_
        refine skH 14 ?_
        refine skH 15 ?_
        refine skH 16 ?_
        refine tkH 17 ?_
        refine wpAnyH_done (by kernel_rfl) ?_ _
        go_wp2
        go_roundw
        case rel => exact ⟨m + 1, by omega, by go_num, by rw [HS.out, HX.out]; exact HV2.out⟩
        case measure => simp [intOf]; omega
       ·obtain ⟨t, rfl, htn⟩ := isNd_nat hnd
        have hlm : t < s'.1.length := by rw [HO.out.len]; exact htn
        obtain ⟨m0, m1, hqw, hqb⟩ := own_marks HV.out.1 htn
        have l0 : (0 : Int) ≤ (t : Int) := by omega
        have l1 : (t : Int) < (ne : Int) := by omega
        cases hmk : s'.1.getD t false
        ·rw [hmk] at m0
         have HX := dh (vis_new (s := s') hnd hmk hlm)
         have HND := dh hnd
         have hsz : s'.2.length < ne := HO.out.lt htn (by simp only [List.getD, gE hlm, Option.getD_some] at hmk ⊢; exact hmk)
         clear hnd hmk
         go_wp2_with fail
         refine wp_region_held_drew (S := fun w' => w'.cell? ⟨w.1.size, 0, none⟩ = some (.slice ai ni ci) ∧ w'.cell? ⟨w.1.size, 1, none⟩ = some (.slice (some ⟨b, o, none⟩) ne ce) ∧ w'.cell? ⟨w.1.size, 2, none⟩ = some (.slice al nl cl) ∧ w'.cell? ⟨bb, oo + m * 2, none⟩ = some (.int .i64 (t : Int)) ∧ w'.cell? ⟨q, t, none⟩ = some (.bool false)) (by kernel_rfl) ⟨f0, f1, f2, hd0, m0⟩ (fun hS => ?_)
         refine tkH 0 ?_
         refine tkH 1 ?_
         refine tkH 2 ?_
         refine tkH 3 ?_
         refine tkH 4 ?_
         refine tkH 5 ?_
         refine oneH 6 (fun K hK => ?_)
         go_simp
         refine (nodeR_any ai _ al ni ci ne ce nl cl _ _).mono ?_
         rw [HND.out]
         rintro e w2 ⟨rfl, hb2'⟩
         have hb2 : Below wr.1.size wr w2 := below_undrew hb2'
         have hz2 := hb2.size
         have HV2 := dh (HV.out.below hb2)
         have p0 := bC hb2 hzw f0
         have p1 := bC hb2 hzw f1
         have p2 := bC hb2 hzw f2
         have p3 := bC hb2 hbw hd0
         have p4 := bC hb2 hqw m0
         go_wp2_with fail
         refine hK.out _ _ ⟨p0, p1, p2, p3, p4⟩ (fun hS => ?_)
         clear hK
         refine tkH 7 ?_
         refine tkH 8 ?_
         refine tkH 9 ?_
         refine tkH 10 ?_
         refine tkH 11 ?_
         refine tkH 12 ?_
         refine tkH 13 ?_
         refine tkH 14 ?_
         refine tkH 15 ?_
         refine tkH 16 ?_
         refine tkH 17 ?_
         refine wpAnyH_done (by kernel_rfl) ?_ _
         obtain ⟨g1, g2, g3⟩ := VRel.mark (t := t) HV2.out
         have g4 := (HV2.out.1.frozenAt t)
         go_wp2_with (at_builtin; refine wpList_push rfl (.tmp 95) (.tmp 101) 22 rfl w0.1.size 3 1 8 sliceInt _ _ _ (g2.alloc _) rfl w2.1.size #[.int .i64 (t : Int)] rfl (heap_new (by simp [World.setCell])) rfl (by simp [Value.oneCell']) (by omega) (by omega) (by simp [World.setCell]; omega) ?_; intro v3 w3 hown3 ht3 hat3 hne3; have HV3 := dh (VRel.open (t := t) g1 g2 g3 rfl hown3 ht3); clear hown3 ht3 hat3)
         go_roundw
         case rel => exact ⟨m + 1, by omega, by go_num, by rw [HS.out, HX.out]; exact HV3.out⟩
         case measure => simp [intOf]; omega
        ·rw [hmk] at m0
         have HX := dh (vis_old (n := ne) (s := s') hmk hlm)
         have HND := dh hnd
         clear hnd hmk
         go_wp2_with fail
         refine wp_region_held_drew (S := fun w' => w'.cell? ⟨w.1.size, 0, none⟩ = some (.slice ai ni ci) ∧ w'.cell? ⟨w.1.size, 1, none⟩ = some (.slice (some ⟨b, o, none⟩) ne ce) ∧ w'.cell? ⟨w.1.size, 2, none⟩ = some (.slice al nl cl) ∧ w'.cell? ⟨bb, oo + m * 2, none⟩ = some (.int .i64 (t : Int)) ∧ w'.cell? ⟨q, t, none⟩ = some (.bool true)) (by kernel_rfl) ⟨f0, f1, f2, hd0, m0⟩ (fun hS => ?_)
         refine tkH 0 ?_
         refine tkH 1 ?_
         refine tkH 2 ?_
         refine tkH 3 ?_
         refine tkH 4 ?_
         refine tkH 5 ?_
         refine oneH 6 (fun K hK => ?_)
         go_simp
         refine (nodeR_any ai _ al ni ci ne ce nl cl _ _).mono ?_
         rw [HND.out]
         rintro e w2 ⟨rfl, hb2'⟩
         have hb2 : Below wr.1.size wr w2 := below_undrew hb2'
         have hz2 := hb2.size
         have HV2 := dh (HV.out.below hb2)
         have p0 := bC hb2 hzw f0
         have p1 := bC hb2 hzw f1
         have p2 := bC hb2 hzw f2
         have p3 := bC hb2 hbw hd0
         have p4 := bC hb2 hqw m0
         go_wp2_with fail
         refine hK.out _ _ ⟨p0, p1, p2, p3, p4⟩ (fun hS => ?_)
         clear hK
         refine tkH 7 ?_
         refine tkH 8 ?_
         refine tkH 9 ?_
         refine tkH 10 ?_
         refine tkH 11 ?_
         refine tkH 12 ?_
         refine tkH 13 ?_
         refine tkH 14 ?_
         refine tkH 15 ?_
         refine tkH 16 ?_
         refine tkH 17 ?_
         refine wpAnyH_done (by kernel_rfl) ?_ _
         go_wp2
         go_roundw
         case rel => exact ⟨m + 1, by omega, by go_num, by rw [HS.out, HX.out]; exact HV2.out⟩
         case measure => simp [intOf]; omega
      ·have hml : m = x.length := by omega
       rw [tL (by rw [tgts, List.length_map]; omega), ← HNX.out] at hV
       have hgr : k + 1 ≤ (stN ne G.edges from_ (k + 1)).2.length := by
        obtain ⟨r, hr⟩ := stN_grow (n := ne) (E := G.edges) (from_ := from_) k
        rw [hr, lA, HGS.out]
        have := fold_len_le (n := ne) (tgts x) s
        rw [← HNX.out, hr, lA, HGS.out] at this
        omega
       have HV := dh hV
       clear hV hml
       go_wp2
       go_roundw
       case rel => exact ⟨k + 1, by go_num, hgr, HV.out⟩
       case measure => simp [intOf]; omega
    ·have hend := reachG_end (n := ne) (E := G.edges) (from_ := from_) (k := k) hk (by omega)
     have HE := dh hend
     have HV := dh hV
     clear hend hV hso hok
     generalize (stN ne G.edges from_ k) = s at *
     go_wp2
     go_ret
     exact ⟨_, rfl, by rw [HE.out]; exact own_base HV.out.1 (by omega), hb0.trans (hbr.mono (by omega)), by simp⟩
end
end Go.Proofs.YtiebpncpdbnelaaGreatDoor
