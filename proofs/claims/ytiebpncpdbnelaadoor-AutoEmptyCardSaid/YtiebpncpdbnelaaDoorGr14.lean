/- The walk of layer 6: distances. -/
import Derived.Test.YtiebpncpdbnelaaDoorZan
set_option maxHeartbeats 2000000
set_option maxRecDepth 100000
namespace Go.Proofs.YtiebpncpdbnelaaDoor
open Go.RowKit
section
variable (ai ae al : Option Addr) (ni ci ne ce nl cl : Nat)
theorem dist_any (G : Gph) (ends : List Int) (A : Option Addr) (n c : Nat) (w : World) (B : Nat) (h : GrRd w B ai ni ci ae ne ce al nl cl G) (hs : Sl w B 1 A n c (icells ends)) (hn : n = ends.length) (hg : GOk ne ends) (hB : B ≤ w.1.size) (hi : ni ≤ 1000000000) (he : ne ≤ 65536) (hl : nl ≤ 17592186044416) (KE : Nat) (hr : ∀ l ∈ G.edges, l.length ≤ KE) (hKE : ne * KE ≤ 1000000000) (hK2 : KE ≤ 1000000000) :
  Calls Tryd.prog 99 #[.agg #[.slice ai ni ci, .slice ae ne ce, .slice al nl cl], .slice A n c] w (NewRow w 3 1 ne (icells (farG ne (turnE G.edges) ends)) False) := by
 subst hn
 obtain ⟨w0, hw0, hb0, hz0, hx0, hx1, hx2⟩ := boxed3 w (.slice ai ni ci) (.slice ae ne ce) (.slice al nl cl) 67
 have HW0 := dh hw0
 have HZ0 := dh hz0
 have h' := h.below hb0 hB
 have hs' := hs.below hb0 hB
 have hzl : w.1.size < w0.1.size := by omega
 have hB0 : B ≤ w0.1.size := by omega
 have L2 := h.lens.2.1
 have hr2 : ∀ l ∈ turnE G.edges, l.length ≤ 1000000000 := turnE_bd hr (by rw [← L2]; exact hKE)
 have hTo : TOk ne (turnE G.edges) := by rw [L2]; exact turn_TOk _
 have hTl : (turnE G.edges).length = ne := by rw [turnE_len, L2]
 have HTL := dh hTl
 have hel : ends.length ≤ ne := by
  have := (dstN_ok hTo hg 0).le
  exact this
 have HG := dh hg
 have HTO := dh hTo
 clear hw0 hz0 h hs L2 hTl hg hTo
 have hmk := run_make_row' (P := Tryd.prog) 22 3 (.int .i64 0) 8 Tryd.underlying22 infoInt rfl .i64 .i64 ne (by omega) (by omega)
 go_enter Tryd.func99, Tryd.ntmps99
 go_wp2
 rw [← HW0.out]
 have hF0 : (w0.alloc (.cells (madeCells #[.int .i64 0] ne) 3)).ownsRow 0 3 1 (.slice (some ⟨w0.1.size, 0, none⟩) ne ne) ne (icells (List.replicate 0 (-1) ++ List.replicate (ne - 0) 0)) := by
  have := own_made (w := w0) (base := 0) (e := 3) (n := ne) (v := .int .i64 0) (Nat.zero_le _) (by unfold maxLen; omega)
  simpa [icells] using this
 have hb1 : Below w0.1.size w0 (w0.alloc (.cells (madeCells #[.int .i64 0] ne) 3)) := bR.alloc lR _
 have hz1 : (w0.alloc (.cells (madeCells #[.int .i64 0] ne) 3)).1.size = w0.1.size + 1 := by simp
 rw [HZ0.out] at hF0
 generalize w0.alloc (.cells (madeCells #[.int .i64 0] ne) 3) = w1 at *
 have hz1' : w1.1.size = w.1.size + 2 := by rw [hz1, HZ0.out]
 have HZ1 := dh hz1'
 have hqf : w.1.size + 1 < w1.1.size := by omega
 clear hmk HW0 hz1 hz1'
 generalize hqe : w.1.size + 1 = qf at *
 have hqw : w0.1.size ≤ qf := by rw [HZ0.out]; omega
 have HQE := dh hqe
 clear hqe
 go_loopw [24] (fun i wr => ∃ k : Nat, k ≤ ne ∧ i = .int .i64 k ∧ wr.ownsRow 0 3 1 (.slice (some ⟨qf, 0, none⟩) ne ne) ne (icells (List.replicate k (-1) ++ List.replicate (ne - k) 0)) ∧ Tch (fun b => b = qf) w1 wr) (fun i _ => ne - (intOf i).toNat)
 case atStart => exact ⟨0, by omega, rfl, hF0, Tch.refl _ _⟩
 case round =>
  obtain ⟨k, hk, rfl, hF, ht⟩ := hrel
  clear hF0
  by_cases hlt : k < ne
  ·obtain ⟨_, f1, f2, _⟩ := own_geti hF hlt
   have hcell := (own_geti hF hlt).1
   have hF2 := own_seti (t := k) (d := -1) hF
   have hsx : (List.replicate k (-1 : Int) ++ List.replicate (ne - k) 0).set k (-1) = List.replicate (k + 1) (-1) ++ List.replicate (ne - (k + 1)) 0 := by
    refine List.ext_getElem (by simp; omega) (fun i h1 h2 => ?_)
    rw [List.getElem_set]
    simp only [List.getElem_append, List.getElem_replicate, List.length_replicate]
    (repeat' split) <;> omega
   rw [hsx] at hF2
   have HF2 := dh hF2
   have HT := dh (Tch.trans ht (tch_cell qf k (.int .i64 (-1))) (fun _ _ e => e))
   clear hF hF2 ht hsx
   go_wp2
   go_roundw
   case rel => exact ⟨k + 1, by omega, by go_num, HF2.out, HT.out⟩
   case measure => simp [intOf]; omega
  ·have hkn : k = ne := by omega
   have hF1 : wr.ownsRow 0 3 1 (.slice (some ⟨qf, 0, none⟩) ne ne) ne (icells ((ends.take 0).foldl (fun D i => D.set i.toNat 0) (List.replicate ne (-1)))) := by
    have : List.replicate k (-1 : Int) ++ List.replicate (ne - k) 0 = List.replicate ne (-1) := by rw [hkn]; simp
    rw [this] at hF; exact hF
   have HF1 := dh hF1
   have HT := dh ht
   clear hF hF1 ht hkn hqf
   go_wp2
   go_loopw [33] (fun i wr => ∃ k : Nat, k ≤ ends.length ∧ i = .int .i64 k ∧ wr.ownsRow 0 3 1 (.slice (some ⟨qf, 0, none⟩) ne ne) ne (icells ((ends.take k).foldl (fun D i => D.set i.toNat 0) (List.replicate ne (-1)))) ∧ Tch (fun b => b = qf) w1 wr) (fun i _ => ends.length - (intOf i).toNat)
   case atStart => exact ⟨0, by omega, rfl, HF1.out, HT.out⟩
   case round =>
    clear HF1 HT
    obtain ⟨k, hk, rfl, hF, ht⟩ := hrel
    have hbr : Below w0.1.size w0 wr := hb1.trans (ht.below hb1.size (fun b hb e => by omega))
    have hzr := hbr.size
    by_cases hlt : k < ends.length
    ·obtain ⟨b, o, rfl, hbb, hc0⟩ := rd_int (hs'.rd.below hbr hB0) hlt
     have hnd := HG.out.rng _ (mM hlt)
     have hsn : (ends.take (k + 1)).foldl (fun D i => D.set i.toNat 0) (List.replicate ne (-1)) = ((ends.take k).foldl (fun D i => D.set i.toNat 0) (List.replicate ne (-1))).set (ends[k]).toNat (0 : Int) := by
      rw [take_snoc ends k hlt, List.foldl_append]; rfl
     generalize ends[k] = x at *
     obtain ⟨t, rfl, htn⟩ := isNd_nat hnd
     rw [tN] at hsn
     obtain ⟨hcell, f1, f2, _⟩ := own_geti hF htn
     have hF2 := own_seti (t := t) (d := 0) hF
     rw [← hsn] at hF2
     have HF2 := dh hF2
     have HT := dh (Tch.trans ht (tch_cell qf t (.int .i64 0)) (fun _ _ e => e))
     clear hF hF2 ht hsn hnd
     go_wp2
     go_roundw
     case rel => exact ⟨k + 1, by omega, by go_num, HF2.out, HT.out⟩
     case measure => simp [intOf]; omega
    ·have hF1 : wr.ownsRow 0 3 1 (.slice (some ⟨qf, 0, none⟩) ne ne) ne (icells (dstN ne (turnE G.edges) ends 0).1) := by
      rw [tL (by omega)] at hF; exact hF
     have hx0r := bC hbr hzl hx0
     have hx1r := bC hbr hzl hx1
     have hx2r := bC hbr hzl hx2
     have hqr : qf < wr.1.size := (hF1.lt qf rfl).2
     have HF1 := dh hF1
     have HX := dh hx1r
     have hTu := turnP_any ai ae al ni ci ne ce nl cl G wr B (h'.below hbr hB0) (by omega) hi (by omega) hl KE hr hKE hK2
     have HTU := dh hTu
     have HSD := dh (hs'.below hbr hB0)
     have HBR := dh hbr
     clear hF hF1 ht hbr hTu hx0 hx1 hx2 hs' h' hb1 hr
     obtain ⟨wl0, rfl⟩ := xR wr
     go_wp2_with fail
     refine Calls.mono HTU.out ?_
     rintro e wT ⟨bi, mi, di, be, me, de, bl, ml, dl, rfl, hGT, hbT, vsT, hOT⟩
     have hzT := hbT.size
     have hme : me = ne := by have := hOT.len'; rw [List.length_map, HTL.out] at this; exact this
     subst hme
     have hfd : ∀ (w : World), (Instr.field 67 (.agg #[.slice bi mi di, .slice be me de, .slice bl ml dl]) 1).run Tryd.prog w = .ok (.slice be me de) w := fun _ => by kernel_rfl
     have HCL := dh (cloneInt_any A ends.length c (icells ends) wT B (HSD.out.below hbT (by omega)) (icells_one _) (by omega) (by omega))
     have HGT := dh hGT
     have HBT := dh hbT
     have HOT := dh hOT
     clear hGT hbT hOT HTU
     go_wp2_with fail
     clear hfd
     refine Calls.mono HCL.out ?_
     rintro e wC ⟨vw, rfl, hWC, hbC, _⟩
     have hzC := hbC.size
     have hmin : (if (me : Int) ≤ 65536 then (me : Int) else 65536) = me := by rw [if_pos (by omega)]
     have HBN := dh (bnew_any me ((me + 63) / 64) wC he rfl)
     have hBS := BSet.start me wC (k := (me + 63) / 64) rfl he
     have hbD : Below wC.1.size wC ((wC.alloc (.cells (madeCells #[.int .u64 0] ((me + 63) / 64)) 41)).alloc (.cells #[.int .i64 (me : Int), .slice (some ⟨wC.1.size, 0, none⟩) ((me + 63) / 64) ((me + 63) / 64)] 107)) := (bR.alloc lR _).alloc (by simp) _
     have HWC := dh hWC
     have HBC := dh hbC
     have HBS := dh hBS
     have HBD := dh hbD
     clear hWC hbC hBS hbD HCL
     go_wp2_with fail
     refine Calls.mono HBN.out ?_
     rintro e wD ⟨rfl, hwD⟩
     rw [← hwD] at HBS HBD
     have hzD := HBD.out.size
     have hb2 : Below wT.1.size wT wD := HBC.out.trans (HBD.out.mono hzC)
     have hb3 : Below wl0.1.size wl0 wD := HBT.out.trans (hb2.mono hzT)
     have HB3 := dh hb3
     have hfar := own_below HF1.out hb3
     have hO := HOT.out.below hb2
     have hwave := own_below HWC.out HBD.out
     have hbs := HBS.out
     have hqd : qf < wT.1.size := by omega
     have hqC : wC.1.size < wD.1.size := hbs.lt.2
     have hSC : wC.1.size + 1 < wD.1.size := hbs.lt.1
     have hqn : qf ≠ wC.1.size := by omega
     have HFAR := dh hfar
     have HO := dh hO
     have HWV := dh hwave
     have HBS2 := dh hbs
     clear hwD HBS HBD HBN hb2 hb3 hfar hO hwave hbs HBT HBC HWC HOT HF1 hmin
     generalize wC.1.size = qd at *
     go_wp2
     have hT1 := HTO.out
     generalize turnE G.edges = T at *
     have HTO := dh hT1
     have hO0 : ORel wD qf qd (qd + 1) me wT.1.size vw (dstN me T ends 0) 0 wD := ⟨HFAR.out, HWV.out, ⟨_, HBS2.out⟩, Tch.refl _ _⟩
     have hW0 : WaveOk 1 (dstN me T ends 0) 0 ((dstN me T ends 0).2.length - 0) := wave_start HG.out
     have hDb : qf < wD.1.size := by omega
     have hqs : qf ≠ qd + 1 := by omega
     clear HFAR HWV hT1 HX hx0r hx1r hx2r HSD
     go_loopg [10, 12] (me + 1) (fun gk v i wr => ∃ (k : Nat) (d : Int), k + gk = me + 1 ∧ i = .int .i64 d ∧ 1 ≤ d ∧ d ≤ (k : Int) + 1 ∧ WaveOk d (dstN me T ends k) k ((dstN me T ends k).2.length - k) ∧ ORel wD qf qd (qd + 1) me wT.1.size v (dstN me T ends k) k wr)
     case atStart => exact ⟨0, 1, by omega, rfl, by omega, by omega, hW0, hO0⟩
     case round =>
      clear hO0 hW0
      obtain ⟨k, d, hkg, rfl, hd1, hdk, hWv, o1, o2, ⟨W, o3⟩, o4⟩ := hrel
      obtain ⟨wR, rfl⟩ := xR wr
      have hzR := o4.size
      have hok := dstN_ok HTO.out HG.out k
      have hle := hok.le
      have hkl := hWv.le
      obtain ⟨Aw, cw, rfl, hsw⟩ := own_sl o2
      by_cases hlt : k < (dstN me T ends k).2.length
      ·generalize hwl : (dstN me T ends k).2.length - k = wl at *
       have hdl : ((dstN me T ends k).2.drop k).length = wl := by rw [List.length_drop]; exact hwl
       have hw1 : 1 ≤ wl := by omega
       have hw0 : decide (0 < wl) = true := by simp; omega
       have hnum : DNum wR qf qd (qd + 1) := ⟨by omega, by omega, by omega, by omega, by omega, hqn⟩
       have hD0 : DRel wR qf qd (qd + 1) me (.slice none 0 0) (dstN me T ends (k + 0)) (k + wl) wR := by
        refine ⟨o1, ?_, ⟨W, o3⟩, Tch.refl _ _⟩
        have : (dstN me T ends (k + 0)).2.drop (k + wl) = [] := List.drop_eq_nil_of_le (by show (dstN me T ends k).2.length ≤ _; omega)
        rw [this]; exact World.ownsRow_nil _ _ _ _
       have hwave := fun (w : World) (ht : Tch (DS qf qd wR.1.size) wR w) => wave_keep o2 o3 (show qf < wT.1.size by omega) ht
       rw [hdl] at hwave o2 hsw
       rw [hdl]
       have HWAVE := dh hwave
       have HNUM := dh hnum
       have HO4 := dh o4
       have HDL := dh hdl
       have HWL := dh hwl
       have HWV := dh hWv
       clear hwave hnum o1 o2 o3 o4 hdl hwl hsw hok hWv
       go_wp2
       go_loopw [13, 57] (fun v i wr => ∃ jj : Nat, jj ≤ wl ∧ i = .int .i64 jj ∧ WaveOk d (dstN me T ends (k + jj)) (k + jj) (wl - jj) ∧ DRel wR qf qd (qd + 1) me v (dstN me T ends (k + jj)) (k + wl) wr) (fun _ i _ => wl - (intOf i).toNat)
       case atStart => exact ⟨0, by omega, rfl, HWV.out, hD0⟩
       case round =>
        clear hD0
        obtain ⟨jj, hjj, rfl, hWj, hD⟩ := hrel
        by_cases hltj : jj < wl
        ·rw [show wl - jj = (wl - jj - 1) + 1 by omega] at hWj
         obtain ⟨i, hi1, hi2, hi3, hi4, hi5⟩ := WaveOk.step HTO.out HG.out hd1 hWj
         have hwo := HWAVE.out wr hD.t
         have hcell : ∃ b o, Aw = some ⟨b, o, none⟩ ∧ b < wr.1.size ∧ wr.cell? ⟨b, o + jj, none⟩ = some (.int .i64 i) := by
          obtain ⟨A', c', hv, hs'⟩ := own_sl hwo
          cases hv
          have hj2 : jj < ((dstN me T ends k).2.drop k).length := by rw [HDL.out]; exact hltj
          obtain ⟨b, o, e1, e2, e3⟩ := rd_int hs'.rd hj2
          refine ⟨b, o, e1, e2, ?_⟩
          rw [e3]
          obtain ⟨r, hr⟩ := dst_up HTO.out HG.out k jj
          rw [hr, gC (by have := HWL.out; omega), ← List.getElem?_drop, gE hj2] at hi1
          injection hi1 with hi1
          rw [hi1]
         obtain ⟨bw, ow, rfl, hbw, hcw⟩ := hcell
         obtain ⟨a, rfl, han⟩ := isNd_nat hi3
         have haT : a < T.length := by rw [HTL.out]; exact han
         obtain ⟨be', A', c', rfl, hc0, hnb, hrow, hnr⟩ := rows0 (qf := qf) (qd := qd) HO.out haT hqr HBS2.out.2.1
         have hxl : (T[a]).length ≤ 1000000000 := hr2 _ (mM haT)
         have hxm : ∀ y ∈ tgts T[a], isNd me y = true := fun y hy => HTO.out a y (by simpa [List.getD, haT] using hy)
         have hxT : T.getD a [] = T[a] := by simp [List.getD, haT]
         rw [tN, hxT] at hi4
         generalize T[a] = x at *
         obtain ⟨W, hBS⟩ := hD.dn
         have HPUT := dh (bput_any (qd + 1) qd me W a wr hBS han)
         have hsle := (dstN_ok HTO.out HG.out (k + jj)).le
         have hple : k + wl ≤ (dstN me T ends (k + jj)).2.length := by have := hWj.le; omega
         generalize dstN me T ends (k + jj) = s at *
         have HD := dh hD
         have HI4 := dh hi4
         have HI5 := dh hi5
         have HXM := dh hxm
         have HROW := dh hrow
         have HNR := dh hnr
         have HNB := dh hnb
         have HC0 := dh hc0
         clear hD hi1 hi2 hi3 hi4 hi5 hBS hxm hrow hnr hnb hwo hWj hxT hc0
         go_wp2_with fail
         refine Calls.mono HPUT.out ?_
         rintro e w2 ⟨rfl, hB2, ht2⟩
         have hD2 := DRel.put HNUM.out HD.out hB2 ht2
         have hTw : Tch (DS qf qd wD.1.size) wD w2 := Tch.trans HO4.out hD2.t (fun i hi hS => DS.up hi (by omega) hS)
         have hc2 := cell_tch HC0.out hTw HNB.out
         have hD0 : DRel wR qf qd (qd + 1) me u13 (((tgts x).take 0).foldl (dvis d) s) (k + wl) w2 := hD2
         clear hB2 ht2 hD2 hTw
         have i0 : (0 : Int) ≤ (a : Int) := by omega
         have i1 : (a : Int) < (me : Int) := by omega
         go_wp2
         go_loopw [13, 69] (fun v i wr => ∃ m : Nat, m ≤ x.length ∧ i = .int .i64 m ∧ DRel wR qf qd (qd + 1) me v (((tgts x).take m).foldl (dvis d) s) (k + wl) wr) (fun _ i _ => x.length - (intOf i).toNat)
         case atStart => exact ⟨0, by omega, rfl, hD0⟩
         case round =>
          clear hD0 hc2
          obtain ⟨m, hm, rfl, hD⟩ := hrel
          by_cases hltm : m < x.length
          ·have hTw : Tch (DS qf qd wD.1.size) wD wr := Tch.trans HO4.out hD.t (fun i hi hS => DS.up hi (by omega) hS)
           have hro := own_tch HROW.out hTw HNR.out
           obtain ⟨A2, c2, hv, hs2⟩ := own_sl hro
           cases hv
           obtain ⟨bb, oo, rfl, hbbb, hd0, hd1'⟩ := rd_nd hs2.rd hltm
           have hsn := dF_snoc (d := d) hltm s
           have hnd := HXM.out x[m].op (by simp only [tgts, List.mem_map]; exact ⟨x[m], mM hltm, rfl⟩)
           have hlen := dvisF_len (d := d) ((tgts x).take m) s
           have hlen2 := dvisF_le (d := d) ((tgts x).take m) s
           rw [List.length_take] at hlen2
           generalize ((tgts x).take m).foldl (dvis d) s = s' at *
           generalize x[m] = e at *
           obtain ⟨op, act⟩ := e
           dsimp only at *
           obtain ⟨t, rfl, htn⟩ := isNd_nat hnd
           have hDa := hD.below ((Below.refl wr.1.size wr).alloc lR (.cells #[.int .i64 (t : Int), .int .i64 act] 65))
           obtain ⟨g1, g2, g3, _⟩ := own_geti hDa.far htn
           have hpl : (s'.2.drop (k + wl)).length ≤ 2000000000 := by rw [List.length_drop]; omega
           have hp2 : k + wl ≤ s'.2.length := by omega
           have hzb := hD.t.size
           have j0 : (0 : Int) ≤ (t : Int) := by omega
           have j1 : (t : Int) < (me : Int) := by omega
           have HS := dh hsn
           have HDA := dh hDa
           clear hro hs2 hTw hsn hlen hlen2 hnd hDa
           by_cases hc : s'.1.getD t 0 < 0
           ·have hcb : decide (s'.1.getD t 0 < 0) = true := by simpa using hc
            have HX := dh (dvis_new (d := d) hc)
            have htell := DRel.tell (t := t) (d := d) HNUM.out HDA.out
            generalize s'.1.getD t 0 = z at *
            obtain ⟨k1, k2, k3, k4⟩ := htell
            have HK1 := dh k1
            have HK3 := dh k3
            have HK4 := dh k4
            have hz2 : (wr.setCell ⟨qf, t, none⟩ (.int .i64 d)).1.size = wr.1.size := by simp [World.setCell]
            have hqw2 : qf < wr.1.size := by omega
            rw [World.setCell_alloc_past _ _ _ _ hqw2] at k2 HK1 HK3 HK4
            clear k1 k3 k4 hc
            go_wp2_with (at_builtin; refine wpList_push rfl (.tmp 84) (.tmp 87) 22 rfl wR.1.size 3 1 8 sliceInt _ _ _ (k2.alloc _) rfl _ #[.int .i64 (t : Int)] rfl (heap_new (by simp [World.setCell])) rfl (by simp [Value.oneCell']) (by omega) (by omega) (by simp [World.setCell]; omega) ?_; intro v3 w3 hown3 ht3 hat3 hne3; have HD3 := dh (DRel.open (t := t) (d := d) HNUM.out HK1.out k2 HK3.out HK4.out hp2 rfl hown3 ht3); clear hown3 ht3 hat3)
            go_roundw
            case rel => exact ⟨m + 1, by omega, by go_num, by rw [HS.out, HX.out]; exact HD3.out⟩
            case measure => simp [intOf]; omega
           ·have hcb : decide (s'.1.getD t 0 < 0) = false := by simpa using hc
            have HX := dh (dvis_old (d := d) hc)
            generalize s'.1.getD t 0 = z at *
            clear hc
            go_wp2
            go_roundw
            case rel => exact ⟨m + 1, by omega, by go_num, by rw [HS.out, HX.out]; exact HDA.out⟩
            case measure => simp [intOf]; omega
          ·have hml : m = x.length := by omega
           rw [tL (by rw [tgts, List.length_map]; omega), ← HI4.out] at hD
           have HD1 := dh hD
           clear hD hml
           go_wp2
           go_roundw
           case rel => exact ⟨jj + 1, by omega, by go_num, by rw [show wl - (jj + 1) = wl - jj - 1 by omega]; exact HI5.out, HD1.out⟩
           case measure => simp [intOf]; omega
        ·have hjl : jj = wl := by omega
         subst hjl
         rw [Nat.sub_self] at hWj
         have hWt := hWj.turn
         have HWT := dh hWt
         have HD := dh hD
         clear hWj hWt hD
         go_wp2
         go_roundg (gk - jj)
         case rel =>
          exact ⟨k + jj, d + 1, by omega, rfl, by omega, by omega, HWT.out, HD.out.far, own_base HD.out.nx (by omega), HD.out.dn, Tch.trans HO4.out HD.out.t (fun i hi hS => DS.up hi (by omega) hS)⟩
         case measure => omega
      ·have hend := farG_end HTO.out HG.out (k := k) (by omega) (by omega)
       have hdl : ((dstN me T ends k).2.drop k).length = 0 := by rw [List.length_drop]; omega
       rw [hdl]
       have HE := dh hend
       have HO1 := dh o1
       have HO4 := dh o4
       clear hend hdl o1 o2 o3 o4 hok hWv hsw
       generalize (dstN me T ends k) = s at *
       go_wp2
       go_ret
       refine ⟨_, rfl, by rw [HE.out]; exact own_at HO1.out (by have := HQE.out; omega), ?_, by simp⟩
       have e1 : Below w0.1.size w0 wD := HBR.out.trans (HB3.out.mono hzr)
       exact hb0.trans ((e1.trans (HO4.out.below e1.size (fun b hb hS => by rcases hS with e | e | e <;> omega))).mono (by omega))
end
end Go.Proofs.YtiebpncpdbnelaaDoor
