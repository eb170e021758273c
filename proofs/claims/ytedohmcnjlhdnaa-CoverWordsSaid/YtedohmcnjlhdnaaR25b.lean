/- The walk of the reference of layer 25: Begins. -/
import Derived.Test.YtedohmcnjlhdnaaR25a
namespace Go.Proofs.Ytedohmcnjlhdnaa
open Go.RowKit

set_option maxHeartbeats 4000000 in
set_option maxRecDepth 100000 in
theorem Begins_any (A : Option Addr) (c : Nat) (f : List Nd) (w : World) (B : Nat) (hf : Sl w B 2 A f.length c (ncells f)) (hB : B ≤ w.heap.size) (hl : f.length ≤ 8796093022208) :
    Calls Try.prog 17 #[.slice A f.length c] w (BegPost f w) := by
  have hR0 : BRel f w 0 (.slice none 0 0) w := ⟨by simp [runs, scan], by simp [runs, Chain], by simpa [runs, icells] using World.ownsRow_nil w w.heap.size 3 1, Below.refl _ _⟩
  go_enter Try.func17, Try.ntmps17
  go_wp2
  go_loopw [4, 5] (fun vo i wr => ∃ k : Nat, k ≤ f.length ∧ i = .int .i64 k ∧ BRel f w k vo wr) (fun _ i _ => f.length - (intOf i).toNat)
  case atStart => exact ⟨0, by omega, rfl, hR0⟩
  case round =>
    clear hR0
    obtain ⟨k, hk, rfl, hrel⟩ := hrel
    by_cases hlt : k < f.length
    · obtain ⟨h1, hch, hown, hbel⟩ := hrel
      obtain ⟨b0, off, rfl, _, hc0, hc1⟩ := rd_nd (hf.rd.below hbel hB) hlt
      generalize hst : (runs (f.take k)).1 = st at *
      generalize hout : (runs (f.take k)).2 = outs at *
      have hout_len : outs.length = k := by rw [← hout, runs_len, List.length_take]; omega
      have Hst := Lib.hid hst
      have Hout := Lib.hid hout
      have H1 := Lib.hid h1
      have Hlen := Lib.hid hout_len
      have Hch := Lib.hid hch
      clear hst hout h1 hout_len hch
      generalize hx : f[k] = x at *
      have Hx := Lib.hid hx
      clear hx
      have hsz := hbel.size
      have hT := takesV_bd x
      by_cases e1 : takesV x < 0
      · go_wp2_with (first | (go_at_call 36; refine (Takes_any x _).mono ?_; rintro e w' ⟨rfl, rfl⟩))
        go_ret2
        exact beg_no (beg_wrong hlt H1.out (by rw [Hx.out]; intro h; have := (takesV_bad.1 h).1; omega)) (hbel.alloc hsz _)
      obtain ⟨tk, htk⟩ : ∃ tk : Nat, takesV x = tk := ⟨(takesV x).toNat, by omega⟩
      have Htk := Lib.hid htk
      have htk2 : (tk : Int) ≤ 2 := by omega
      clear htk e1 hT
      obtain ⟨wo, hwo⟩ : ∃ wo : World, wo = wr.alloc (.cells #[.int .i64 x.op, .int .i64 x.n] 38) := ⟨_, rfl⟩
      have hbo : Below wr.heap.size wr wo := by rw [hwo]; exact (Below.refl _ _).alloc (Nat.le_refl _) _
      go_wp2_with (first | (go_at_call 36; refine (Takes_any x _).mono ?_; rw [Htk.out]; rintro e w' ⟨rfl, rfl⟩))
      rw [← hwo]
      clear hwo
      have hown' := own_below hown hbo
      have hbel' : Below w.heap.size w wo := hbel.trans (hbo.mono hsz)
      obtain ⟨Ao, co, rfl, hso⟩ := own_sl hown'
      rw [show (k : Nat) = k from rfl] at hown'
      go_loop [7, 8] (fun fr kk => ∃ m q : Nat, m ≤ tk ∧ m ≤ st.length ∧ q ≤ k ∧ kk = .int .i64 m ∧ fr = .int .i64 q ∧ Chain outs q (st.reverse.drop m) ∧ Hid (frm k (st.drop (st.length - m)) = (q : Int))) (fun _ kk => tk - (intOf kk).toNat)
      case atStart => exact ⟨0, k, by omega, by omega, by omega, rfl, rfl, by simpa using Hch.out, frm_none (by omega)⟩
      case round =>
        obtain ⟨m, q, hm, hms, hqk, rfl, rfl, hcq, HF⟩ := hrel
        have HC := Lib.hid hcq
        clear hcq
        by_cases hmt : m < tk
        · by_cases hq0 : q = 0
          · subst hq0
            have hnil := chain_zero HC.out
            have hle : st.length ≤ m := by
              have := congrArg List.length hnil
              simp at this; omega
            have HN := Lib.hid hnil
            clear hnil
            go_wp2
            go_ret2
            exact beg_no (beg_wrong hlt H1.out (by rw [Hx.out]; intro h; have := (takesV_bad.1 h).2; rw [Htk.out] at this; omega)) hbel'
          · obtain ⟨q', r', hr', hqq, hoq, hcq'⟩ := chain_pos HC.out (by omega)
            obtain ⟨hmlt, hget, hdr⟩ := drop_rev hr'
            have hq1 : q - 1 < outs.length := by rw [Hlen.out]; omega
            obtain ⟨_, o1, rfl, _, hcell⟩ := hso.rd.at_ (j := q - 1) (u := .int .i64 q') (by simp [icells, hoq])
            have hfrm : frm k (st.drop (st.length - (m + 1))) = (q' : Int) := by rw [frm_pos (by omega)]; exact hget
            have HFR := Lib.hid hfrm
            have HDR := Lib.hid hdr
            have HCQ := Lib.hid hcq'
            clear hr' hoq hget hdr hfrm hcq' hq1
            go_wp2
            go_round
            case rel => exact ⟨m + 1, q', by omega, by omega, by omega, by go_num, rfl, by rw [HDR.out]; exact HCQ.out, HFR.out⟩
            case measure => simp [intOf]; omega
        · have hmt' : m = tk := by omega
          subst hmt'
          have htk1 : (m : Int) ≤ (st.length : Int) := by omega
          have hb0 : bad x st.length = 0 := takesV_bad.2 ⟨by rw [Htk.out]; omega, by rw [Htk.out]; omega⟩
          have htake : takes x.op = (m : Int) := by rw [← takesV_eq (by rw [Htk.out]; omega)]; exact Htk.out
          have hr : runs (f.take (k + 1)) = (st.take (st.length - m) ++ [(q : Int)], outs ++ [(q : Int)]) := by
            rw [runs_snoc hlt, Hx.out, stp_frm _ _ (by rw [Hst.out]; omega) (by omega), Hst.out, Hout.out, Hlen.out, htake, Int.toNat_natCast, HF.out]
          have hs1 : scan (f.take (k + 1)) 0 = (0, st.length - m + 1) := by
            have := scan_ok hlt H1.out (by rw [Hx.out]; exact hb0)
            rw [Hx.out, htake, Int.toNat_natCast] at this
            exact this
          have hch1 : Chain (runs (f.take (k + 1))).2 (k + 1) (runs (f.take (k + 1))).1.reverse := by
            rw [runs_snoc hlt, Hx.out]
            have := (chain_step (i := k) (x := x) (st := (runs (f.take k)).1) (o := (runs (f.take k)).2) (by rw [Hout.out]; exact Hlen.out) (by rw [Hst.out, Hout.out]; exact Hch.out) (by rw [Hst.out]; exact hb0)).1
            exact this
          have HR := Lib.hid hr
          have HS1 := Lib.hid hs1
          have HCH1 := Lib.hid hch1
          clear hr hs1 hch1 htake hb0
          have hzo := hbel'.size
          go_wp2_with (at_builtin; refine wpList_pushB rfl (.tmp 35) (.tmp 37) 28 rfl w.heap.size 3 1 8 sliceInt _ _ _ (hown'.alloc _) rfl wo.heap.size #[.int .i64 q] rfl (heap_alloc_new wo _) rfl (by simp [Value.oneCell']) (by omega) (by omega) (by simp; omega) ?_; intro v3 w3 hown3 ht3 hat3 hne3)
          go_roundw
          case rel =>
            refine ⟨k + 1, by omega, by go_num, ?_, HCH1.out, ?_, ?_⟩
            · rw [HS1.out, HR.out]
              congr 1
              simp only [List.length_append, List.length_take, List.length_cons, List.length_nil]
              omega
            · rw [HR.out, icells_append]; exact hown3
            · exact (hbel'.alloc hzo _).trans (ht3.below (by simp; omega) (fun g hg h => by have := (hown'.lt g h).1; omega))
          case measure => simp [intOf]; omega
    · have hkl : k = f.length := by omega
      subst hkl
      obtain ⟨h1, hch, hown, hbel⟩ := hrel
      rw [List.take_of_length_le (Nat.le_refl _)] at h1 hch hown
      by_cases h0 : f.length = 0
      · have h0' : ((f.length : Int) == 0) = true := by simp [h0]
        have hwr : wrong f ≠ 0 := by rw [List.eq_nil_of_length_eq_zero h0]; decide
        have HW := Lib.hid hwr
        clear h0 hwr h1 hch hown
        go_wp2
        go_ret2
        exact beg_no HW.out hbel
      · have h0' : ((f.length : Int) == 0) = false := by simp; rintro rfl; simp at h0
        have hne : f ≠ [] := by rintro rfl; simp at h0
        obtain ⟨q, r, hr, hqn, hoq, hcr⟩ := chain_pos hch (by omega)
        obtain ⟨Ao, co, rfl, hso⟩ := own_sl hown
        obtain ⟨_, o1, rfl, _, hcell⟩ := hso.rd.at_ (j := f.length - 1) (u := .int .i64 q) (by simp [icells, hoq])
        have hW : wrong f = if 1 < (runs f).1.length then 5 else 0 := by rw [wrong_run hne, h1]; rfl
        have hlen := congrArg List.length hr
        simp only [List.length_reverse, List.length_cons] at hlen
        have h01 : (0 : Int) ≤ (f.length : Int) - 1 := by omega
        have h02 : (f.length : Int) - 1 < (f.length : Int) := by omega
        have HW := Lib.hid hW
        have HR := Lib.hid hlen
        clear h1 hr hW hoq hch hlen
        by_cases hq0 : q = 0
        · subst hq0
          have hr0 := chain_zero hcr
          have hw0 : wrong f = 0 := by rw [HW.out, HR.out, hr0]; rfl
          have HW0 := Lib.hid hw0
          clear hr0 hw0 hcr
          go_wp2
          go_ret2
          have hsp : spans f = (runs f).2 := by simp [spans, HW0.out]
          have hne2 : ¬ spans f = [] := by rw [spans_nil_iff]; simp [HW0.out]
          refine ⟨_, by rw [show (wrong f == 0) = true by simp [HW0.out]]; rfl, ?_, hbel, by simp [hne2]⟩
          rw [hsp, runs_len]; exact hown
        · have hr1 : r ≠ [] := by rintro rfl; simp only [Chain] at hcr; omega
          have hwn : wrong f ≠ 0 := by
            rw [HW.out, HR.out, if_pos (by have := List.length_pos_iff.2 hr1; omega)]; omega
          have HWN := Lib.hid hwn
          have hq' : ((q : Int) != 0) = true := by simp; omega
          clear hwn hr1 hcr hown
          go_wp2
          go_ret2
          exact beg_no HWN.out hbel
end Go.Proofs.Ytedohmcnjlhdnaa
