/- The walks of the reference of layer 23: Spans, Kids. -/
import Derived.Test.YtkikkplpalabhaaR23a
import Derived.Test.YtkikkplpalabhaaMd
namespace Go.Proofs.Ytkikkplpalabhaa
open Go.RowKit

/-- What holds at the head of the reference's loop: the stack, what is told, and that all below is as it was. -/
def RRel (f : List Nd) (w : World) (k : Nat) (vo vs : Value) (wr : World) : Prop :=
  wr.ownsRow w.heap.size 3 1 vs (runs (f.take k)).1.length (icells (runs (f.take k)).1) ∧ wr.ownsRow w.heap.size 3 1 vo k (icells (runs (f.take k)).2) ∧ Below w.heap.size w wr

theorem rrel_step {f : List Nd} {w wr w1 w2 w3 : World} {k cut : Nat} {vo v1 v2 v3 : Value} {x : Nd} {st outs : List Int} {b : Int} (hlt : k < f.length) (hx : f[k] = x) (hst : (runs (f.take k)).1 = st) (hout : (runs (f.take k)).2 = outs)
    (hcut : cut = st.length - (takes x.op).toNat) (hle : takes x.op ≤ (st.length : Int)) (hge : 0 ≤ takes x.op) (hlen : outs.length = k) (hfb : frm k (st.drop cut) = b)
    (hvo : wr.ownsRow w.heap.size 3 1 vo k (icells outs)) (hbel : Below w.heap.size w wr)
    (ht1 : Tch (fun g => (Value.slice (some ⟨wr.heap.size, 0, none⟩) 0 0).ownBlock = some g) (wr.alloc (.cells #[] 3)) w1) (hown1 : w1.ownsRow wr.heap.size 3 1 v1 (0 + cut) ([] ++ icells (st.take cut)))
    (ht2 : Tch (fun g => v1.ownBlock = some g) (w1.alloc (.cells #[.int .i64 b] 3)) w2) (hown2 : w2.ownsRow wr.heap.size 3 1 v2 (0 + cut + 1) ([] ++ icells (st.take cut) ++ [.int .i64 b]))
    (ht3 : Tch (fun g => vo.ownBlock = some g) (w2.alloc (.cells #[.int .i64 b] 3)) w3) (hown3 : w3.ownsRow w.heap.size 3 1 v3 (k + 1) (icells outs ++ [.int .i64 b])) : RRel f w (k + 1) v3 v2 w3 := by
  have hr : runs (f.take (k + 1)) = (st.take cut ++ [b], outs ++ [b]) := by
    rw [runs_snoc hlt, hx, stp_frm _ _ (by rw [hst]; exact hle) hge, hst, hout, hlen, ← hcut, hfb]
  have hl : (st.take cut ++ [b]).length = 0 + cut + 1 := by rw [List.length_append, List.length_take]; simp; omega
  have hz1 := ht1.size
  have hz2 := ht2.size
  simp only [World.size_alloc] at hz1 hz2
  refine ⟨?_, ?_, ?_⟩
  · rw [hr, hl, icells_append]
    have := own_tch (hown2.alloc (.cells #[.int .i64 b] 3)) ht3 (fun g hg h => by have := (hown2.lt g hg).1; have := (hvo.lt g h).2; omega)
    exact own_base (by simpa [icells] using this) hbel.size
  · rw [hr, icells_append]; exact hown3
  · have hb1 : Below w.heap.size wr w1 := ((Below.refl w.heap.size wr).alloc hbel.size _).trans (ht1.below (by have := hbel.size; simp; omega) (fun g hg h => by simp [Value.ownBlock] at h; have := hbel.size; omega))
    have hb2 : Below w.heap.size w1 w2 := ((Below.refl w.heap.size w1).alloc (by have := hbel.size; omega) _).trans (ht2.below (by have := hbel.size; simp; omega) (fun g hg h => by have := (hown1.lt g h).1; have := hbel.size; omega))
    have hb3 : Below w.heap.size w2 w3 := ((Below.refl w.heap.size w2).alloc (by have := hbel.size; omega) _).trans (ht3.below (by have := hbel.size; simp; omega) (fun g hg h => by have := (hvo.lt g h).1; omega))
    exact ((hbel.trans hb1).trans hb2).trans hb3

set_option maxHeartbeats 2000000 in
set_option maxRecDepth 100000 in
theorem SpansR_any (A : Option Addr) (c : Nat) (f : List Nd) (w : World) (B : Nat) (hf : Sl w B 2 A f.length c (ncells f)) (hB : B ≤ w.heap.size) (hl : f.length ≤ 1000000000) :
    Calls Try.prog 78 #[.slice A f.length c] w (NewRow w 3 1 (spans f).length (icells (spans f)) (spans f = [])) := by
  have hmb : ∀ w : World, (w.alloc (.cells #[] 3)).ownsRow w.heap.size 3 1 (.slice (some ⟨w.heap.size, 0, none⟩) 0 0) 0 [] :=
    fun w => World.ownsRow_made w #[] 0 (Nat.le_refl _) (by unfold maxLen; omega) (by simp)
  by_cases hw : wrong f = 0
  · have hw' : (wrong f == 0) = true := by simp [hw]
    have HW := Lib.hid hw
    clear hw
    have hR0 : RRel f w 0 (.slice none 0 0) (.slice none 0 0) w :=
      ⟨by simpa [runs, icells] using World.ownsRow_nil w w.heap.size 3 1, by simpa [runs, icells] using World.ownsRow_nil w w.heap.size 3 1, Below.refl _ _⟩
    go_enter Try.func78, Try.ntmps78
    go_wp2_with (go_at_call 62; refine (IsR23_any A c f w B hf hl).mono ?_; rintro e w' ⟨rfl, rfl⟩)
    go_loopw [3, 4, 5] (fun vo vs i wr => ∃ k : Nat, k ≤ f.length ∧ i = .int .i64 k ∧ RRel f w k vo vs wr) (fun _ _ i _ => f.length - (intOf i).toNat)
    case atStart => exact ⟨0, by omega, rfl, hR0⟩
    case round =>
      clear hR0
      obtain ⟨k, hk, rfl, hrel⟩ := hrel
      by_cases hlt : k < f.length
      · obtain ⟨hvs, hvo, hbel⟩ := hrel
        obtain ⟨b0, off, rfl, _, hc0, hc1⟩ := rd_nd (hf.rd.below hbel hB) hlt
        have hg := good_takes (good_at HW.out hlt).2
        generalize hst : (runs (f.take k)).1 = st at *
        generalize hout : (runs (f.take k)).2 = outs at *
        have hout_len : outs.length = k := by rw [← hout, runs_len, List.length_take]; omega
        have hst_len : st.length ≤ k := by rw [← hst]; have := runs1_le (f.take k); rw [List.length_take] at this; omega
        have Hst := Lib.hid hst
        have Hout := Lib.hid hout
        have Hlen := Lib.hid hout_len
        clear hst hout hout_len
        generalize hx : f[k] = x at *
        have Hx := Lib.hid hx
        clear hx
        obtain ⟨op, n⟩ := x
        dsimp only at *
        obtain ⟨hg1, hg2, _⟩ := hg
        obtain ⟨tk, htk⟩ : ∃ tk : Nat, takes op = tk := ⟨(takes op).toNat, by omega⟩
        have Htk := Lib.hid htk
        have htk1 : (tk : Int) ≤ (st.length : Int) := by omega
        clear htk hg1 hg2
        have hcut : st.length - tk ≤ st.length := by omega
        obtain ⟨Av, cv, rfl, hsl⟩ := own_sl hvs
        have hcv := hsl.cap
        have hsz := hbel.size
        have hslt := (hsl.take hcut).below ((Below.refl wr.heap.size wr).alloc (Nat.le_refl _) (.cells #[] 3)) (Nat.le_refl _)
        rw [← icells_take] at hslt
        by_cases h0 : 0 < tk
        · have hj : st.length - tk < st.length := by omega
          obtain ⟨b1, o1, rfl, _, hcs⟩ := rd_int hsl.rd hj
          have hfb := frm_pos (k := k) hj
          have Hfb := Lib.hid hfb
          clear hfb
          generalize hb : st[st.length - tk] = b at *
          have Hb := Lib.hid hb
          clear hb
          go_wp2_with (first | (go_at_call 77; refine (takes_ref _ _).mono ?_; rw [Htk.out]; rintro e w' ⟨rfl, rfl⟩) | (at_builtin; refine wpList_extend rfl (.tmp 34) (.tmp 40) 22 rfl wr.heap.size 3 1 8 sliceInt _ _ _ (hmb wr) rfl wr.heap.size _ _ _ _ rfl hslt (icells_one _) (by omega) (by omega) (by simp) ?_; intro v1 w1 hown1 ht1 hat1 _; have hvo1 := own_tch (hvo.alloc _) ht1 (fun g hg h => by simp [Value.ownBlock] at h; have := (hvo.lt g hg).2; omega); have hz1 := ht1.size; simp only [World.size_alloc] at hz1) | (at_builtin; refine wpList_push rfl (.tmp 41) (.tmp 43) 22 rfl wr.heap.size 3 1 8 sliceInt _ _ _ (hown1.alloc _) rfl w1.heap.size #[.int .i64 b] rfl (heap_alloc_new w1 _) rfl (by simp [Value.oneCell']) (by omega) (by omega) (by simp; omega) ?_; intro v2 w2 hown2 ht2 hat2 _; have hvo2 := own_tch (hvo1.alloc _) ht2 (fun g hg h => by have := (hown1.lt g h).1; have := (hvo.lt g hg).2; omega); have hz2 := ht2.size; simp only [World.size_alloc] at hz2) | (at_builtin; refine wpList_push rfl (.tmp 45) (.tmp 47) 22 rfl w.heap.size 3 1 8 sliceInt _ _ _ (hvo2.alloc _) rfl w2.heap.size #[.int .i64 b] rfl (heap_alloc_new w2 _) rfl (by simp [Value.oneCell']) (by omega) (by omega) (by simp; omega) ?_; intro v3 w3 hown3 ht3 hat3 _))
          go_roundw
          case rel =>
            exact ⟨k + 1, by omega, by go_num, rrel_step (cut := st.length - tk) (x := ⟨op, n⟩) (b := b) hlt Hx.out Hst.out Hout.out (by rw [show takes _ = (tk : Int) from Htk.out]; simp) (by rw [show takes _ = (tk : Int) from Htk.out]; omega) (by rw [show takes _ = (tk : Int) from Htk.out]; omega) Hlen.out Hfb.out hvo hbel ht1 hown1 ht2 hown2 ht3 hown3⟩
          case measure => simp [intOf]; omega
        · have hz : tk = 0 := by omega
          subst hz
          have hfb := frm_none (st := st) (k := k) (j := st.length - 0) (by omega)
          have Hfb := Lib.hid hfb
          clear hfb
          go_wp2_with (first | (go_at_call 77; refine (takes_ref _ _).mono ?_; rw [Htk.out]; rintro e w' ⟨rfl, rfl⟩) | (at_builtin; refine wpList_extend rfl (.tmp 34) (.tmp 40) 22 rfl wr.heap.size 3 1 8 sliceInt _ _ _ (hmb wr) rfl wr.heap.size _ _ _ _ rfl hslt (icells_one _) (by omega) (by omega) (by simp) ?_; intro v1 w1 hown1 ht1 hat1 _; have hvo1 := own_tch (hvo.alloc _) ht1 (fun g hg h => by simp [Value.ownBlock] at h; have := (hvo.lt g hg).2; omega); have hz1 := ht1.size; simp only [World.size_alloc] at hz1) | (at_builtin; refine wpList_push rfl (.tmp 41) (.tmp 43) 22 rfl wr.heap.size 3 1 8 sliceInt _ _ _ (hown1.alloc _) rfl w1.heap.size #[.int .i64 k] rfl (heap_alloc_new w1 _) rfl (by simp [Value.oneCell']) (by omega) (by omega) (by simp; omega) ?_; intro v2 w2 hown2 ht2 hat2 _; have hvo2 := own_tch (hvo1.alloc _) ht2 (fun g hg h => by have := (hown1.lt g h).1; have := (hvo.lt g hg).2; omega); have hz2 := ht2.size; simp only [World.size_alloc] at hz2) | (at_builtin; refine wpList_push rfl (.tmp 45) (.tmp 47) 22 rfl w.heap.size 3 1 8 sliceInt _ _ _ (hvo2.alloc _) rfl w2.heap.size #[.int .i64 k] rfl (heap_alloc_new w2 _) rfl (by simp [Value.oneCell']) (by omega) (by omega) (by simp; omega) ?_; intro v3 w3 hown3 ht3 hat3 _))
          go_roundw
          case rel =>
            exact ⟨k + 1, by omega, by go_num, rrel_step (cut := st.length - 0) (x := ⟨op, n⟩) (b := k) hlt Hx.out Hst.out Hout.out (by rw [show takes _ = ((0 : Nat) : Int) from Htk.out]; simp) (by rw [show takes _ = ((0 : Nat) : Int) from Htk.out]; omega) (by rw [show takes _ = ((0 : Nat) : Int) from Htk.out]; omega) Hlen.out Hfb.out hvo hbel ht1 hown1 ht2 hown2 ht3 hown3⟩
          case measure => simp [intOf]; omega
      · have : k = f.length := by omega
        subst this
        obtain ⟨hvs, hvo, hbel⟩ := hrel
        rw [List.take_of_length_le (Nat.le_refl _)] at hvo
        go_wp2
        go_ret
        have hsp : spans f = (runs f).2 := by simp [spans, HW.out]
        have hne : ¬ spans f = [] := by rw [spans_nil_iff]; simp [HW.out]
        have hl0 : 0 < f.length := by
          rcases Nat.eq_zero_or_pos f.length with h | h
          · rw [List.eq_nil_of_length_eq_zero h] at HW
            have := HW.out
            rw [wrong_nil] at this
            omega
          · exact h
        refine ⟨_, rfl, ?_, hbel, ?_⟩
        · rw [hsp, runs_len]; exact hvo
        · obtain ⟨g, cap, h, _⟩ := own_form hvo hl0
          simp [hne]; rw [h]; simp
  · have hw' : (wrong f == 0) = false := by simpa using hw
    have hs : spans f = [] := (spans_nil_iff f).2 hw
    have HS := Lib.hid hs
    clear hs hw
    go_enter Try.func78, Try.ntmps78
    go_wp2_with (go_at_call 62; refine (IsR23_any A c f w B hf hl).mono ?_; rintro e w' ⟨rfl, rfl⟩)
    go_ret
    exact ⟨_, rfl, by rw [HS.out]; exact World.ownsRow_nil _ _ _ _, Below.refl _ _, by simp [HS.out]⟩

set_option maxHeartbeats 1000000 in
theorem KidsR_any (A : Option Addr) (c : Nat) (f : List Nd) (at_ : Int) (w : World) (B : Nat) (hf : Sl w B 2 A f.length c (ncells f)) (hB : B ≤ w.heap.size) (hl : f.length ≤ 1000000000) (hat : -9223372036854775808 ≤ at_ ∧ at_ ≤ 9223372036854775807) :
    Calls Try.prog 47 #[.slice A f.length c, .int .i64 at_] w (Num2 w (kids f at_)) := by
  obtain ⟨hat1, hat2⟩ := hat
  by_cases hw : wrong f = 0
  · have hw' : (wrong f == 0) = true := by simp [hw]
    by_cases hin : 0 ≤ at_ ∧ at_ < f.length
    · obtain ⟨h0, h1⟩ := hin
      obtain ⟨k, rfl⟩ := Int.eq_ofNat_of_zero_le h0
      have hk : k < f.length := by omega
      have hsl := spans_len hw
      have hg := good_takes (good_at hw hk).2
      have hd := runs1_le (f.take k)
      rw [List.length_take, Nat.min_eq_left (by omega)] at hd
      have hkids := kids_at hw hk
      obtain ⟨b, o, rfl, _, hc0, hc1⟩ := rd_nd hf.rd hk
      have hT := takes_012 hg.1
      have hT2 := hg.2.1
      generalize hx : f[k] = x at *
      obtain ⟨op, n⟩ := x
      dsimp only at *
      have hpos := runs_pos f
      have hsr : spans f = (runs f).2 := by simp [spans, hw]
      rw [← hsr] at hpos
      have HX := Lib.hid hx
      have HK := Lib.hid hkids
      have HP := Lib.hid hpos
      have HL := Lib.hid hsl
      clear hx hkids hpos hsl hg hsr hw
      rcases hT with hT | hT | hT
      · have HT := Lib.hid hT
        clear hT
        go_enter Try.func47, Try.ntmps47
        go_wp2_with (first | (go_at_call 62; refine (IsR23_any _ c f w B hf hl).mono ?_; rintro e w' ⟨rfl, rfl⟩) | (go_at_call 77; refine (takes_ref _ _).mono ?_; rw [HT.out]; rintro e w' ⟨rfl, rfl⟩))
        go_ret2
        exact num2_of (by rw [HK.out, HT.out]; rfl) (Below.refl _ _)
      · have HT := Lib.hid hT
        clear hT
        go_enter Try.func47, Try.ntmps47
        go_wp2_with (first | (go_at_call 62; refine (IsR23_any _ c f w B hf hl).mono ?_; rintro e w' ⟨rfl, rfl⟩) | (go_at_call 77; refine (takes_ref _ _).mono ?_; rw [HT.out]; rintro e w' ⟨rfl, rfl⟩))
        go_ret2
        exact num2_of (by rw [HK.out, HT.out]; rfl) (Below.refl _ _)
      · have hk2 : 2 ≤ k := by omega
        have hk1 : k - 1 < (spans f).length := by rw [HL.out]; omega
        have hbd := HP.out _ (List.getElem_mem hk1)
        have he : (spans f)[k - 1]?.getD 0 = (spans f)[k - 1] := by simp [hk1]
        have hcs := fun (w1 : World) (A1 : Option Addr) (c1 : Nat) (h : Sl w1 w1.heap.size 1 A1 (spans f).length c1 (icells (spans f))) => rd_int (k := k - 1) h.rd hk1
        have HT := Lib.hid hT
        have HE := Lib.hid he
        clear hT he
        generalize hs : (spans f)[k - 1] = s at *
        have HS := Lib.hid hs
        have HC := Lib.hid hcs
        clear hs hcs
        go_enter Try.func47, Try.ntmps47
        go_wp2_with (first | (go_at_call 62; refine (IsR23_any _ c f w B hf hl).mono ?_; rintro e w' ⟨rfl, rfl⟩) | (go_at_call 77; refine (takes_ref _ _).mono ?_; rw [HT.out]; rintro e w' ⟨rfl, rfl⟩))
        refine (SpansR_any _ c f w B hf hB hl).mono ?_
        rintro e w1 ⟨v, rfl, hown, hb, _⟩
        obtain ⟨A1, c1, rfl, hsl1⟩ := own_sl hown
        obtain ⟨b1, o1, rfl, _, hcs⟩ := HC.out _ _ _ hsl1
        rw [HL.out] at hown hsl1 ⊢
        go_wp2
        go_ret2
        exact num2_of (by rw [HK.out, HT.out, HE.out]; rfl) hb
    · have hko := kids_out (f := f) (at_ := at_) (fun h => hin h.2)
      have HK := Lib.hid hko
      have hcase : at_ < 0 ∨ 0 ≤ at_ ∧ (f.length : Int) ≤ at_ := by omega
      clear hko hw hin
      rcases hcase with h | ⟨h, h'⟩
      all_goals
        go_enter Try.func47, Try.ntmps47
        go_wp2_with (first | (go_at_call 62; refine (IsR23_any _ c f w B hf hl).mono ?_; rintro e w' ⟨rfl, rfl⟩))
        go_ret2
        exact num2_of HK.out (Below.refl _ _)
  · have hw' : (wrong f == 0) = false := by simpa using hw
    have hko := kids_out (f := f) (at_ := at_) (fun h => hw h.1)
    have HK := Lib.hid hko
    clear hko hw
    go_enter Try.func47, Try.ntmps47
    go_wp2_with (first | (go_at_call 62; refine (IsR23_any _ c f w B hf hl).mono ?_; rintro e w' ⟨rfl, rfl⟩))
    go_ret2
    exact num2_of HK.out (Below.refl _ _)
end Go.Proofs.Ytkikkplpalabhaa
