/- The walk of fix's reference: behind. -/
import Derived.Test.YtfpncpjdmgfkbaaFx11
namespace Go.Proofs.Ytfpncpjdmgfkbaa
open Go.RowKit

section
variable (ai ae al : Option Addr) (ni ci ne ce nl cl : Nat)
set_option maxHeartbeats 4000000 in
set_option maxRecDepth 100000 in
theorem behind_any (G : Gph) (z : List Bool) (Az : Option Addr) (cz : Nat) (s : List Bool) (Am : Option Addr) (nm cm : Nat) (w : World) (B : Nat) (h : GrRd w B ai ni ci ae ne ce al nl cl G) (hzs : Sl w B 1 Az ne cz (z.map .bool)) (hzn : ne = z.length) (hms : Sl w B 1 Am nm cm (s.map .bool)) (hmn : nm = s.length) (hB : B ≤ w.heap.size) (he : ne ≤ 65536) (K : Nat) (hr : ∀ l ∈ G.edges, l.length ≤ K) (hK2 : K ≤ 1000) :
    Calls Try.prog 70 #[.agg #[.slice ai ni ci, .slice ae ne ce, .slice al nl cl], .slice Az ne cz, .slice Am nm cm] w (NewRow w 4 1 ne (bcells (stepZ G.edges z (askOf s))) False) := by
  obtain ⟨w0, hw0, hb0, hz0, hx0, hx1, hx2⟩ := boxed3 w (.slice ai ni ci) (.slice ae ne ce) (.slice al nl cl) 26
  have HW0 := Lib.hid hw0
  clear hw0
  have h' := h.below hb0 hB
  have hz' := hzs.below hb0 hB
  have hm' := hms.below hb0 hB
  have HWI := Lib.hid (withinR_any ai ae al ni ci ne ce nl cl G z Az cz w0 B h' hz' hzn (by omega) (by omega) K hr (by omega))
  have hmk := run_make_row' (P := Try.prog) 35 4 (.bool false) 1 Try.underlying35 infoBool rfl .i64 .i64 ne (by omega) (by omega)
  have HZN := Lib.hid hzn
  have HLE := Lib.hid h.lens.2.1
  have hzl : w.heap.size < w0.heap.size := by omega
  have HMN := Lib.hid hmn
  clear hzn hmn
  go_enter Try.func70, Try.ntmps70
  go_wp2_with fail
  rw [← HW0.out]
  refine HWI.out.mono ?_
  rintro e w1 ⟨ai1, ni1, ci1, ae1, ne1, ce1, al1, nl1, cl1, rfl, hG1, hb1, hO1⟩
  obtain ⟨M1, M2, M3⟩ := hG1.lens
  have hne1 : ne1 = ne := by rw [M2]; show (withinE G.edges z).length = ne; rw [withinE_len, ← HLE.out]
  have hni1 : ni1 = 0 := M1
  have hnl1 : nl1 = 0 := M3
  subst hne1 hni1 hnl1
  have hz1 := hb1.size
  have g1 := (hb1.cell (p := ⟨w.heap.size, 1, none⟩) hzl).trans hx1
  have hzl1 : w.heap.size < w1.heap.size := by omega
  clear HWI HW0 M1 M2 M3 hO1
  go_wp2
  obtain ⟨gq, hgq⟩ : ∃ q, q = w1.heap.size + 1 := ⟨_, rfl⟩
  obtain ⟨wb, hwb, hbb, hzb, y0, y1, y2⟩ := boxed3 w1 (.slice ai1 0 ci1) (.slice ae1 ne1 ce1) (.slice al1 0 cl1) 26
  have hF0 : ∃ W, W = (wb.alloc (.cells (madeCells #[.bool false] ne1) 4)) ∧ W.ownsRow gq 4 1 (.slice (some ⟨gq, 0, none⟩) ne1 ne1) ne1 (bcells ((List.range 0).map (fun k => z.getD k false && askOf s k) ++ List.replicate (ne1 - 0) false)) ∧ Below gq wb W := by
    refine ⟨_, rfl, ?_, (Below.refl _ _).alloc (by rw [hgq]; omega) _⟩
    have := own_made (w := wb) (base := gq) (e := 4) (n := ne1) (v := .bool false) (by rw [hgq]; omega) (by unfold maxLen; omega)
    rw [hzb, ← hgq] at this
    simpa [bcells] using this
  obtain ⟨W, hW, hown, hbW⟩ := hF0
  rw [← hwb, ← hW, ← hgq]
  have hgl : w1.heap.size < gq := by omega
  have hzW : gq < W.heap.size := by rw [hW, hgq]; simp; omega
  have hbw1 : Below w.heap.size w w1 := hb0.trans (hb1.mono (by omega))
  have hb1W : Below w1.heap.size w1 W := hbb.trans (hbW.mono (by omega))
  have hz2 := (hz'.below hb1 (by omega)).below hb1W (by omega)
  have hm2 := (hm'.below hb1 (by omega)).below hb1W (by omega)
  have hbw : Below w.heap.size w W := hbw1.trans (hb1W.mono (by omega))
  have x0 := (hbW.cell (p := ⟨w1.heap.size, 0, none⟩) hgl).trans y0
  have x1 := (hbW.cell (p := ⟨w1.heap.size, 1, none⟩) hgl).trans y1
  have x2 := (hbW.cell (p := ⟨w1.heap.size, 2, none⟩) hgl).trans y2
  have HX := Lib.hid (And.intro x0 (And.intro x1 x2))
  clear hW hgq hwb hzb y0 y1 y2 x0 x1 x2 hx0 hx1 hx2 g1
  go_loopw [9] (fun i wr => ∃ k : Nat, k ≤ ne1 ∧ i = .int .i64 k ∧ wr.ownsRow gq 4 1 (.slice (some ⟨gq, 0, none⟩) ne1 ne1) ne1 (bcells ((List.range k).map (fun k => z.getD k false && askOf s k) ++ List.replicate (ne1 - k) false)) ∧ Below gq W wr) (fun i _ => ne1 - (intOf i).toNat)
  case atStart => exact ⟨0, by omega, rfl, hown, Below.refl _ _⟩
  case round =>
    obtain ⟨k, hk, rfl, hR, hbr⟩ := hrel
    clear hown
    by_cases hlt : k < ne1
    · have hkz : k < z.length := by rw [← HZN.out]; exact hlt
      obtain ⟨zb, zo, hze, hzb0, hzc⟩ := (hz2.rd.below hbr (by omega)).at_ (bcells'_at hkz)
      subst hze
      have hcell := (own_getb hR hlt).1
      obtain ⟨_, f1, f2, _⟩ := own_getb hR hlt
      have hF2 := own_setb (t := k) (d := (z.getD k false && askOf s k)) hR
      rw [row_set hlt (fun k => z.getD k false && askOf s k) false] at hF2
      have j0 : (0 : Int) ≤ (k : Int) := by omega
      have j1 : (k : Int) < (ne1 : Int) := by omega
      have HF2 := Lib.hid hF2
      have HR := Lib.hid hR
      have HOF := Lib.hid (of_any Am nm cm s k wr B HMN.out (hm2.below hbr (by omega)))
      have HBR := Lib.hid hbr
      have hbx : Below gq W (wr.setCell ⟨gq, k, none⟩ (.bool (z.getD k false && askOf s k))) := hbr.setCell (p := ⟨gq, k, none⟩) (Nat.le_refl _) _
      have HBX := Lib.hid hbx
      clear hF2 hR hbr hbx hmk
      cases hza : z.getD k false
      · rw [hza] at hzc HF2 HBX
        go_wp2
        go_roundw
        case rel => exact ⟨k + 1, by omega, by go_num, HF2.out, HBX.out⟩
        case measure => simp [intOf]; omega
      · rw [hza] at hzc
        clear HF2 HBX
        go_wp2_with fail
        refine HOF.out.mono ?_
        rw [show hasB s (k : Int) = askOf s k from rfl]
        rintro e w2 ⟨rfl, hb2⟩
        have hR2 := own_below HR.out hb2
        have hc2 := (own_getb hR2 hlt).1
        obtain ⟨_, f1', f2', _⟩ := own_getb hR2 hlt
        have hF3 := own_setb (t := k) (d := (z.getD k false && askOf s k)) hR2
        rw [row_set hlt (fun k => z.getD k false && askOf s k) false] at hF3
        have hbx := (HBR.out.trans (hb2.mono (by have := HBR.out.size; omega))).setCell (p := ⟨gq, k, none⟩) (Nat.le_refl _) (.bool (z.getD k false && askOf s k))
        rw [hza, Bool.true_and] at hF3 hbx
        have HF3 := Lib.hid hF3
        have HBX := Lib.hid hbx
        clear hF3 hbx hR2 HOF
        go_wp2
        go_roundw
        case rel => exact ⟨k + 1, by omega, by go_num, HF3.out, HBX.out⟩
        case measure => simp [intOf]; omega
    · obtain ⟨wq, rfl⟩ : ∃ wq : World, wq = wr := ⟨_, rfl⟩
      have hke : k = ne1 := by omega
      have hgoal : (List.range k).map (fun k => z.getD k false && askOf s k) ++ List.replicate (ne1 - k) false = goalZ z (askOf s) := by
        rw [hke, Nat.sub_self, List.replicate_zero, List.append_nil, goalZ, ← HZN.out]
      rw [hgoal] at hR
      obtain ⟨Ag, cg, hge, hsg⟩ := own_sl hR
      cases hge
      have hb1r : Below w1.heap.size w1 wq := hb1W.trans (hbr.mono (by omega))
      have hGr := hG1.below hb1r (Nat.le_refl _)
      have hszr := hbr.size
      have hrw : ∀ l ∈ withinE G.edges z, l.length ≤ K := by
        intro l hl
        obtain ⟨i, hi, rfl⟩ := List.mem_map.1 hl
        split
        · refine Nat.le_trans (List.length_filter_le _ _) ?_
          rw [List.mem_range] at hi
          simp only [List.getD, List.getElem?_eq_getElem hi, Option.getD_some]
          exact hr _ (List.getElem_mem hi)
        · simp
      have HBK := Lib.hid (backR_any ai1 ae1 al1 0 ci1 ne1 ce1 0 cl1 ⟨[], withinE G.edges z, []⟩ (goalZ z (askOf s)) (some ⟨gq, 0, none⟩) ne1 ne1 wq (max w1.heap.size wq.heap.size) (hGr.up (by omega)) (hsg.up (by omega)) (by rw [goalZ_len]; exact HZN.out) (by omega) (by omega) he (by omega) (by omega) K hrw (by
        have := Nat.mul_le_mul he hK2; omega) (by omega))
      have e0 := (hbr.cell (p := ⟨w1.heap.size, 0, none⟩) hgl).trans HX.out.1
      have e1 := (hbr.cell (p := ⟨w1.heap.size, 1, none⟩) hgl).trans HX.out.2.1
      have e2 := (hbr.cell (p := ⟨w1.heap.size, 2, none⟩) hgl).trans HX.out.2.2
      clear hgoal hke hsg HX hR
      go_wp2_with fail
      refine HBK.out.mono ?_
      rintro e w2 ⟨v, rfl, hback, hb2, _⟩
      obtain ⟨Ab, cb, rfl, hsb⟩ := own_sl hback
      have hz2s := hb2.size
      have g1 := (hb2.cell (p := ⟨w1.heap.size, 1, none⟩) (show w1.heap.size < wq.heap.size by omega)).trans e1
      have hlw2 : w1.heap.size < w2.heap.size := by omega
      have hb12 : Below w1.heap.size w1 w2 := hb1r.trans (hb2.mono (by omega))
      have hbw2 : Below w.heap.size w w2 := hbw1.trans (hb12.mono (by omega))
      clear HBK e0 e1 e2 hback
      go_wp2
      obtain ⟨go, hgo⟩ : ∃ q, q = w2.heap.size := ⟨_, rfl⟩
      obtain ⟨f, hf⟩ : ∃ f : Nat → Bool, f = fun i => ((withinE G.edges z).getD i []).any (fun e => (backG ne1 (withinE G.edges z) (goalZ z (askOf s))).getD e.op.toNat false) := ⟨_, rfl⟩
      have hF1 : ∃ W2, W2 = (w2.alloc (.cells (madeCells #[.bool false] ne1) 4)) ∧ W2.ownsRow go 4 1 (.slice (some ⟨go, 0, none⟩) ne1 ne1) ne1 (bcells ((List.range 0).map f ++ List.replicate (ne1 - 0) false)) ∧ Below go w2 W2 := by
        refine ⟨_, rfl, ?_, (Below.refl _ _).alloc (by rw [hgo]; exact Nat.le_refl _) _⟩
        have := own_made (w := w2) (base := go) (e := 4) (n := ne1) (v := .bool false) (by rw [hgo]; exact Nat.le_refl _) (by unfold maxLen; omega)
        rw [← hgo] at this
        simpa [bcells] using this
      obtain ⟨W2, hW2, hown2, hbW2⟩ := hF1
      rw [← hW2, ← hgo]
      have hgo1 : go ≤ w2.heap.size := by omega
      have hgo2 : w2.heap.size ≤ go := by omega
      have hfz : ∀ i, f i = ((withinE G.edges z).getD i []).any (fun e => (backG ne1 (withinE G.edges z) (goalZ z (askOf s))).getD e.op.toNat false) := fun i => by rw [hf]
      have hfs : (List.range ne1).map f = stepZ G.edges z (askOf s) := by rw [stepZ, ← HZN.out, hf]; rfl
      have HFZ := Lib.hid hfz
      have HFS := Lib.hid hfs
      have hbl : (backG ne1 (withinE G.edges z) (goalZ z (askOf s))).length = ne1 := reachG_len _ _ _
      have HBL := Lib.hid hbl
      have hG2 := (hG1.below hb12 (Nat.le_refl _)).he
      have hwm : ∀ i, i < G.edges.length → ∀ e ∈ (withinE G.edges z).getD i [], hasB z e.op = true := fun i hi e he => ((within_mem hi).1 he).2.2
      generalize backG ne1 (withinE G.edges z) (goalZ z (askOf s)) = bk at *
      clear hf hfz hfs hW2 hgo hbl hmk
      go_loopw [12, 13] (fun i _ wx => ∃ k : Nat, k ≤ ne1 ∧ i = .int .i64 k ∧ wx.ownsRow go 4 1 (.slice (some ⟨go, 0, none⟩) ne1 ne1) ne1 (bcells ((List.range k).map f ++ List.replicate (ne1 - k) false)) ∧ Below go w2 wx) (fun i _ _ => ne1 - (intOf i).toNat)
      case atStart => exact ⟨0, by omega, rfl, hown2, hbW2⟩
      case round =>
        obtain ⟨k, hk, rfl, hR, hbx⟩ := hrel
        obtain ⟨wp, rfl⟩ : ∃ wp : World, wp = wr := ⟨_, rfl⟩
        clear hown2
        by_cases hlt : k < ne1
        · have hkG : k < G.edges.length := by rw [← HLE.out]; exact hlt
          have hkE : k < (withinE G.edges z).length := by rw [withinE_len]; exact hkG
          obtain ⟨b, o, A', n', c', hae, hbb, hc00, hrow⟩ := hG2.at_ (ed_take hkE)
          subst hae
          have hlen := hrw _ (List.getElem_mem hkE)
          have hnx : n' = ((withinE G.edges z)[k]).length := by have := hrow.len; rw [ncells_len] at this; omega
          have hxg : (withinE G.edges z).getD k [] = (withinE G.edges z)[k] := by simp [List.getD, hkE]
          have hxm := hwm k hkG
          have hfk := HFZ.out k
          rw [hxg] at hxm hfk
          have hR0 : wp.ownsRow go 4 1 (.slice (some ⟨go, 0, none⟩) ne1 ne1) ne1 (bcells (((List.range k).map f ++ List.replicate (ne1 - k) false).set k ((((withinE G.edges z)[k]).take 0).any (fun e => bk.getD e.op.toNat false)))) := by
            rw [List.take_zero, List.any_nil, row_set0 hlt f false]; exact hR
          have hrs := row_set hlt f false
          have hbsl : ((List.range k).map f ++ List.replicate (ne1 - k) false).length = ne1 := by simp; omega
          generalize (List.range k).map f ++ List.replicate (ne1 - k) false = base at *
          generalize (withinE G.edges z)[k] = x at *
          subst hnx
          have HRS := Lib.hid hrs
          have HFK := Lib.hid hfk
          have HBS := Lib.hid hbsl
          have i0 : (0 : Int) ≤ (k : Int) := by omega
          have i1 : (k : Int) < (ne1 : Int) := by omega
          have G1 := Lib.hid g1
          clear hrs hfk hxg hR hbsl g1
          go_wp2
          go_loopw [13] (fun i wx => ∃ m : Nat, m ≤ x.length ∧ i = .int .i64 m ∧ wx.ownsRow go 4 1 (.slice (some ⟨go, 0, none⟩) ne1 ne1) ne1 (bcells (base.set k ((x.take m).any (fun e => bk.getD e.op.toNat false)))) ∧ Below go w2 wx) (fun i _ => x.length - (intOf i).toNat)
          case atStart => exact ⟨0, by omega, rfl, hR0, hbx⟩
          case round =>
            obtain ⟨m, hm, rfl, hR, hbr⟩ := hrel
            clear hR0 hbx
            have hc0 := (hbr.cell (p := ⟨b, o + k, none⟩) (show b < go by omega)).trans hc00
            have hg1 := (hbr.cell (p := ⟨w1.heap.size, 1, none⟩) (show w1.heap.size < go by omega)).trans G1.out
            by_cases hltm : m < x.length
            · obtain ⟨bb, oo, rfl, hbbb, hd0, hd1⟩ := rd_nd (hrow.rd.below hbr (by omega)) hltm
              have hop := hxm _ (List.getElem_mem hltm)
              have hac : (x.take (m + 1)).any (fun e => bk.getD e.op.toNat false) = ((x.take m).any (fun e => bk.getD e.op.toNat false) || bk.getD (x[m]).op.toNat false) := by
                rw [take_snoc x m hltm, List.any_append]; simp
              generalize (x.take m).any (fun e => bk.getD e.op.toNat false) = a0 at *
              generalize x[m] = e at *
              obtain ⟨op, act⟩ := e
              dsimp only at *
              obtain ⟨j, rfl, hjl, _⟩ := hasB_iff.1 hop
              rw [← HZN.out] at hjl
              rw [Int.toNat_natCast] at hac
              obtain ⟨b2, o2, hab, hb20, hbc⟩ := (hsb.rd.below hbr (by omega)).at_ (bcells'_at (show j < bk.length by rw [HBL.out]; exact hjl))
              subst hab
              obtain ⟨q0, q1, q2, _⟩ := own_getb hR hlt
              rw [getD_set_same (by rw [HBS.out]; exact hlt)] at q0
              have HRH := Lib.hid hR
              have hszw := hbr.size
              have i2 : (0 : Int) ≤ (j : Int) := by omega
              have i3 : (j : Int) < (ne1 : Int) := by omega
              have m0 : (0 : Int) ≤ (m : Int) := by omega
              have m1 : (m : Int) < (x.length : Int) := by omega
              have k1 : b2 < wr.heap.size := by omega
              have k2 : bb < wr.heap.size := by omega
              have HAC := Lib.hid hac
              generalize bk.getD j false = bv at *
              have HW : ∀ v, Hid ((wr.setCell ⟨go, k, none⟩ (.bool v)).ownsRow go 4 1 (.slice (some ⟨go, 0, none⟩) ne1 ne1) ne1 (bcells (base.set k v)) ∧ Below go w2 (wr.setCell ⟨go, k, none⟩ (.bool v))) := fun v => by
                have h1 := own_setb (t := k) (d := v) HRH.out
                rw [List.set_set] at h1
                exact Lib.hid ⟨h1, hbr.setCell (p := ⟨go, k, none⟩) (Nat.le_refl _) (.bool v)⟩
              clear hac hop hR hbr
              cases a0
              · go_wp2
                go_roundw
                case rel => exact ⟨m + 1, by omega, by go_num, by rw [HAC.out, Bool.false_or]; exact (HW bv).out.1, (HW bv).out.2⟩
                case measure => simp [intOf]; omega
              · go_wp2
                go_roundw
                case rel => exact ⟨m + 1, by omega, by go_num, by rw [HAC.out, Bool.true_or]; exact (HW true).out.1, (HW true).out.2⟩
                case measure => simp [intOf]; omega
            · have hml : m = x.length := by omega
              rw [hml, List.take_length, ← HFK.out, HRS.out] at hR
              have HR := Lib.hid hR
              have HBR := Lib.hid hbr
              clear hml hR hbr
              go_wp2
              go_roundw
              case rel => exact ⟨k + 1, by omega, by go_num, HR.out, HBR.out⟩
              case measure => simp [intOf]; omega
        · have hke : k = ne1 := by omega
          rw [hke, Nat.sub_self, List.replicate_zero, List.append_nil, HFS.out] at hR
          have HR := Lib.hid hR
          have HBX := Lib.hid (hbw2.trans (hbx.mono (by have := hbw2.size; omega)))
          have hws := hbw2.size
          clear hR hbx hke
          go_wp2
          go_ret
          exact ⟨_, rfl, own_base HR.out (by omega), HBX.out, by simp⟩
end
end Go.Proofs.Ytfpncpjdmgfkbaa
