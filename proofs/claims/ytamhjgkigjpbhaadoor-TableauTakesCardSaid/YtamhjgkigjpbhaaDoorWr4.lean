/- The walk of layer 27's reference: Truth. -/
import Derived.Test.YtamhjgkigjpbhaaDoorWr3
import Derived.Test.YtamhjgkigjpbhaaDoorZbv
namespace Go.Proofs.YtamhjgkigjpbhaaDoor
open Go.RowKit

theorem rleaf_any (op m : Int) (A1 A2 : Option Addr) (n1 c1 n2 c2 : Nat) (st lo : List Int) (w : World) (B : Nat) (h : WRd w B A1 A2 n1 c1 n2 c2 st lo) (hB : B ≤ w.heap.size) (hl : n1 + n2 ≤ 60000) (h2 : 0 < n2) (ht : takes op = 0) (h3 : op = 3 → 0 ≤ m ∧ m < 8) (hnn : ∀ k, 0 ≤ seqW st lo k) :
    Calls Tryd.prog 46 #[.agg #[.int .i64 op, .int .i64 m], .agg #[.slice A1 n1 c1, .slice A2 n2 c2]] w (NewRow w 4 1 (n1 + n2) (bcells (placesL (wbit st lo) (n1 + n2) n1 ⟨op, m⟩ [] [])) False) := by
  rcases takes_zero ht with rfl | rfl | rfl
  · exact rleaf1_any A1 A2 n1 c1 n2 c2 m _ w hl h2
  · exact rleaf2_any A1 A2 n1 c1 n2 c2 m _ w hl h2
  · exact rleaf3_any A1 A2 n1 c1 n2 c2 m st lo w B h hB hl h2 (h3 rfl) hnn
theorem rone_any (op : Int) (A1 A2 A : Option Addr) (n1 c1 n2 c2 n c : Nat) (m : Int) (bt : Int → Nat → Bool) (a : List Bool) (w : World) (B : Nat) (hl : n1 + n2 ≤ 60000) (h2 : 0 < n2) (hn : n = n1 + n2) (hal : a.length = n1 + n2) (hs : Sl w B 1 A n c (bcells a)) (hB : B ≤ w.heap.size) (ht : takes op = 1) :
    Calls Tryd.prog 47 #[.int .i64 op, .agg #[.slice A1 n1 c1, .slice A2 n2 c2], .slice A n c] w (NewRow w 4 1 (n1 + n2) (bcells (placesL bt (n1 + n2) n1 ⟨op, m⟩ a [])) False) := by
  rcases takes_one ht with rfl | rfl | rfl | rfl
  · exact rone4_any A1 A2 A n1 c1 n2 c2 n c m bt a w B hl h2 hn hal hs hB
  · exact rone8_any A1 A2 A n1 c1 n2 c2 n c m bt a w B hl h2 hn hal hs hB
  · exact rone11_any A1 A2 A n1 c1 n2 c2 n c m bt a w B hl h2 hn hal hs hB
  · exact rone12_any A1 A2 A n1 c1 n2 c2 n c m bt a w B hl h2 hn hal hs hB
theorem rtwo_any (op : Int) (A1 A2 A A' : Option Addr) (n1 c1 n2 c2 n c n' c' : Nat) (m : Int) (bt : Int → Nat → Bool) (a b : List Bool) (w : World) (B : Nat) (hl : n1 + n2 ≤ 60000) (h2 : 0 < n2) (hn : n = n1 + n2) (hal : a.length = n1 + n2) (hs : Sl w B 1 A n c (bcells a)) (hn' : n' = n1 + n2) (hbl : b.length = n1 + n2) (hs' : Sl w B 1 A' n' c' (bcells b)) (hB : B ≤ w.heap.size) (ht : takes op = 2) :
    Calls Tryd.prog 48 #[.int .i64 op, .agg #[.slice A1 n1 c1, .slice A2 n2 c2], .slice A n c, .slice A' n' c'] w (NewRow w 4 1 (n1 + n2) (bcells (placesL bt (n1 + n2) n1 ⟨op, m⟩ a b)) False) := by
  rcases takes_two ht with rfl | rfl | rfl | rfl | rfl
  · exact rtwo5_any A1 A2 A A' n1 c1 n2 c2 n c n' c' m bt a b w B hl h2 hn hal hs hn' hbl hs' hB
  · exact rtwo6_any A1 A2 A A' n1 c1 n2 c2 n c n' c' m bt a b w B hl h2 hn hal hs hn' hbl hs' hB
  · exact rtwo7_any A1 A2 A A' n1 c1 n2 c2 n c n' c' m bt a b w B hl h2 hn hal hs hn' hbl hs' hB
  · exact rtwo9_any A1 A2 A A' n1 c1 n2 c2 n c n' c' m bt a b w B hl h2 hn hal hs hn' hbl hs' hB
  · exact rtwo10_any A1 A2 A A' n1 c1 n2 c2 n c n' c' m bt a b w B hl h2 hn hal hs hn' hbl hs' hB

set_option maxHeartbeats 8000000 in
set_option maxRecDepth 100000 in
theorem truthR_any (A A1 A2 : Option Addr) (c n1 c1 n2 c2 : Nat) (f : List Nd) (st lo : List Int) (w : World) (hf : Sl w w.heap.size 2 A f.length c (ncells f)) (h : WRd w w.heap.size A1 A2 n1 c1 n2 c2 st lo) (hl : n1 + n2 ≤ 60000) (hlf : f.length ≤ 10000) (hnn : ∀ k, 0 ≤ seqW st lo k) :
    Calls Tryd.prog 31 #[.slice A f.length c, .agg #[.slice A1 n1 c1, .slice A2 n2 c2]] w (GridPost w (truthW (wbit st lo) f st lo)) := by
  obtain ⟨hb0, hx0, hx1⟩ := wbox w A1 A2 n1 c1 n2 c2
  have HX := Lib.hid (And.intro hx0 hx1)
  have HC := Lib.hid (fun (w' : World) => rCheck_any A1 A2 n1 c1 n2 c2 st lo w' h.l1 h.l2 hl)
  have HF := Lib.hid (fun (w' : World) (hb : Below w.heap.size w w') => long_any A c f w' w.heap.size (hf.below hb (Nat.le_refl _)) (by omega))
  by_cases h0 : n2 = 0
  · have ht : truthW (wbit st lo) f st lo = [] := by
      have : lo = [] := List.eq_nil_of_length_eq_zero (by have := h.l2; omega)
      simp [truthW, this]
    rw [ht]
    have hC := HC.out
    rw [if_pos h0] at hC
    have HC0 := Lib.hid hC
    clear ht h h0 hC
    go_enter Tryd.func31, Tryd.ntmps31
    go_wp2_with fail
    refine Calls.mono (HC0.out _) ?_
    rintro e w1 ⟨rfl, hb1⟩
    go_wp2
    go_ret
    exact ⟨_, rfl, (Grid.nil w1).base (hb0.trans (hb1.mono (by simp)))⟩
  have hC := HC.out
  rw [if_neg h0] at hC
  have HC0 := Lib.hid hC
  clear hC
  by_cases hw : wrong f = 0
  · have hwt : (wrong f == 0) = true := by simp [hw]
    have hF := HF.out
    rw [hwt] at hF
    have HF0 := Lib.hid hF
    have HW := Lib.hid hw
    clear hF hw hwt
    have hlo : lo ≠ [] := by intro e; have := h.l2; rw [e] at this; simp at this; omega
    have ht : truthW (wbit st lo) f st lo = rowsF (wbit st lo) (n1 + n2) n1 f := by rw [truthW, if_pos ⟨hlo, HW.out⟩, ← h.l1, ← h.l2]
    rw [ht]
    clear ht
    have HWR := Lib.hid h
    have h2 : 0 < n2 := by omega
    have HNN := Lib.hid hnn
    clear h h0 hlo hx0 hx1 hnn
    go_enter Tryd.func31, Tryd.ntmps31
    go_wp2_with fail
    refine Calls.mono (HC0.out _) ?_
    rintro e wc ⟨rfl, hb1⟩
    have hbF : Below w.heap.size w wc := hb0.trans (hb1.mono (by simp))
    have hw1z : w.heap.size < wc.heap.size := by have := hb1.size; simp at this; omega
    have i0 := (hb1.cell (p := ⟨w.heap.size, 0, none⟩) (by simp)).trans HX.out.1
    have i1 := (hb1.cell (p := ⟨w.heap.size, 1, none⟩) (by simp)).trans HX.out.2
    go_wp2_with fail
    refine Calls.mono (HF0.out _ hbF) ?_
    rintro e _ ⟨rfl, rfl⟩
    clear hb1 HX HC HC0 HF0
    have HLF := Lib.hid (fun (op m : Int) (ht : takes op = 0) (h3 : op = 3 → 0 ≤ m ∧ m < 8) (w' : World) (hb : Below w.heap.size w w') => rleaf_any op m A1 A2 n1 c1 n2 c2 st lo w' w.heap.size (HWR.out.below hb (Nat.le_refl _)) hb.size hl h2 ht h3 HNN.out)
    have HON := Lib.hid (fun (op m : Int) (ht : takes op = 1) (Aa : Option Addr) (ca : Nat) (a : List Bool) (hal : a.length = n1 + n2) (w' : World) (hs : Sl w' w'.heap.size 1 Aa (n1 + n2) ca (bcells a)) => rone_any op A1 A2 Aa n1 c1 n2 c2 (n1 + n2) ca m (wbit st lo) a w' w'.heap.size hl h2 rfl hal hs (Nat.le_refl _) ht)
    have HTW := Lib.hid (fun (op m : Int) (ht : takes op = 2) (Aa Ab : Option Addr) (ca cb : Nat) (a b : List Bool) (hal : a.length = n1 + n2) (hbl : b.length = n1 + n2) (w' : World) (hs : Sl w' w'.heap.size 1 Aa (n1 + n2) ca (bcells a)) (hs' : Sl w' w'.heap.size 1 Ab (n1 + n2) cb (bcells b)) => rtwo_any op A1 A2 Aa Ab n1 c1 n2 c2 (n1 + n2) ca (n1 + n2) cb m (wbit st lo) a b w' w'.heap.size hl h2 rfl hal hs rfl hbl hs' (Nat.le_refl _) ht)
    generalize hN : n1 + n2 = N at *
    clear hN
    go_wp2
    go_loopw [5, 6, 7] (fun vo vl i wr => ∃ k : Nat, k ≤ f.length ∧ i = .int .i64 k ∧ TRl wc N (tfold (wbit st lo) N n1 f k) vl vo wr) (fun _ _ i _ => f.length - (intOf i).toNat)
    case atStart => exact ⟨0, by omega, rfl, ⟨[], LSk.nil _ _ _, Grid.nil wc, by simp [Value.ownBlock]⟩⟩
    case round =>
      obtain ⟨k, hk, rfl, hrel⟩ := hrel
      have hbc : Below wc.heap.size wc wr := hrel.choose_spec.2.1.choose_spec.2.2
      by_cases hlt : k < f.length
      · have hbr : Below w.heap.size w wr := hbF.trans (hbc.mono hbF.size)
        have hzr := hbr.size
        have hzx : w.heap.size < wr.heap.size := Nat.lt_of_lt_of_le hw1z hbc.size
        have y0 := (hbc.cell (p := ⟨w.heap.size, 0, none⟩) hw1z).trans i0
        have y1 := (hbc.cell (p := ⟨w.heap.size, 1, none⟩) hw1z).trans i1
        obtain ⟨b, o, rfl, hbl0, hc0, hc1⟩ := rd_nd (hf.rd.below hbr (Nat.le_refl _)) hlt
        have hbl : b < wr.heap.size := Nat.lt_of_lt_of_le hbl0 hzr
        have hok := tfold_ok (bits := wbit st lo) (n := N) (lp := n1) HW.out k hk
        have htk := tfold_takes (bits := wbit st lo) (n := N) (lp := n1) HW.out hlt
        have hst := tfold_step (bits := wbit st lo) (n := N) (lp := n1) hlt
        have hle : (tfold (wbit st lo) N n1 f k).1.length ≤ k := by
          rw [hok.len]; have := runs1_le (f.take k); rw [List.length_take] at this; omega
        have HOK : Hid ((tfold (wbit st lo) N n1 f k).1.length ≤ k ∧ ∀ r ∈ (tfold (wbit st lo) N n1 f k).1, r.length = N) := Lib.hid ⟨hle, hok.row⟩
        have HALL := Lib.hid hok.all
        clear hok hle
        generalize f[k] = x at *
        generalize tfold (wbit st lo) N n1 f k = s at *
        obtain ⟨left, out⟩ := s
        obtain ⟨op, m⟩ := x
        dsimp only at *
        obtain ⟨lvs, hL, hG, hD⟩ := hrel
        obtain ⟨ht0, htd, hm3⟩ := htk
        have htb := takes_bd op
        obtain ⟨Al, cl, rfl, hsl⟩ := own_sl hL.1
        have hclm : cl ≤ 9223372036854775807 := by have := hsl.max; unfold maxLen at this; omega
        have hclc := hsl.cap
        dsimp only at hL hG hD hsl hclc
        rw [tstep] at hst
        dsimp only at hst
        have hcase : takes op = 0 ∨ takes op = 1 ∨ takes op = 2 := by omega
        rcases hcase with ht | ht | ht
        all_goals
          have HT := Lib.hid ht
          rw [ht] at hst htd
          simp only [show ¬ ((0 : Int) = 1) by decide, show ¬ ((0 : Int) = 2) by decide, show ¬ ((1 : Int) = 2) by decide, show ¬ ((2 : Int) = 1) by decide, if_true, if_false, show ((0 : Int)).toNat = 0 from rfl, show ((1 : Int)).toNat = 1 from rfl, show ((2 : Int)).toNat = 2 from rfl] at hst
          have HST' := hst
          clear hst
        -- the three ways
        · have hop := takes_zero ht
          have d3 : decide (op ≤ 3) = true := by simp; omega
          have HCALL := Lib.hid (HLF.out op m ht hm3 wr.drew (Below.drew hbr))
          generalize placesL (wbit st lo) N n1 ⟨op, m⟩ [] [] = r at *
          have HSTP := Lib.hid HST'
          clear HST' hop hm3 ht ht0
          go_wp2_with fail
          refine wp_region_held_drew (S := fun w' => w'.cell? ⟨b, o + k * 2, none⟩ = some (.int .i64 op) ∧ w'.cell? ⟨b, o + k * 2 + 1, none⟩ = some (.int .i64 m) ∧ w'.cell? ⟨w.heap.size, 0, none⟩ = some (.slice A1 n1 c1) ∧ w'.cell? ⟨w.heap.size, 1, none⟩ = some (.slice A2 n2 c2)) (by kernel_rfl) ⟨hc0, hc1, y0, y1⟩ (fun hS => ?_)
          refine wpAnyH_takeD (i := 0) (v := ?_) rfl (by kernel_rfl) (by kernel_rfl) (by kernel_rfl) (fun _ _ _ h => h) (Or.inl ⟨by kernel_rfl, ?_⟩) hS ?_
          rotate_left 1
          · (intro w' hSw; (try dsimp only at hSw); go_simp; try (with_reducible rfl))
          try simp only [Act.put, List.setIfInBounds_toArray, List.set_cons_zero, List.set_cons_succ]
          refine wpAnyH_takeD (i := 1) (v := ?_) rfl (by kernel_rfl) (by kernel_rfl) (by kernel_rfl) (fun _ _ _ h => h) (Or.inl ⟨by kernel_rfl, ?_⟩) hS ?_
          rotate_left 1
          · (intro w' hSw; (try dsimp only at hSw); go_simp; try (with_reducible rfl))
          try simp only [Act.put, List.setIfInBounds_toArray, List.set_cons_zero, List.set_cons_succ]
          refine wpAnyH_takeD (i := 2) (v := ?_) rfl (by kernel_rfl) (by kernel_rfl) (by kernel_rfl) (fun _ _ _ h => h) (Or.inl ⟨by kernel_rfl, ?_⟩) hS ?_
          rotate_left 1
          · (intro w' hSw; (try dsimp only at hSw); go_simp; try (with_reducible rfl))
          try simp only [Act.put, List.setIfInBounds_toArray, List.set_cons_zero, List.set_cons_succ]
          refine wpAnyH_takeD (i := 3) (v := ?_) rfl (by kernel_rfl) (by kernel_rfl) (by kernel_rfl) (fun _ _ _ h => h) (Or.inl ⟨by kernel_rfl, ?_⟩) hS ?_
          rotate_left 1
          · (intro w' hSw; (try dsimp only at hSw); go_simp; try (with_reducible rfl))
          try simp only [Act.put, List.setIfInBounds_toArray, List.set_cons_zero, List.set_cons_succ]
          refine wpAnyH_takeD (i := 4) (v := ?_) rfl (by kernel_rfl) (by kernel_rfl) (by kernel_rfl) (fun _ _ _ h => h) (Or.inl ⟨by kernel_rfl, ?_⟩) hS ?_
          rotate_left 1
          · (intro w' hSw; (try dsimp only at hSw); go_simp; try (with_reducible rfl))
          try simp only [Act.put, List.setIfInBounds_toArray, List.set_cons_zero, List.set_cons_succ]
          refine wpAnyH_oneD (i := 5) rfl (by kernel_rfl) (fun K hK => ?_)
          go_simp
          refine Calls.mono HCALL.out ?_
          rintro e w6 ⟨v6, rfl, hown6, hb6', _⟩
          have hb6 : Below wr.heap.size wr w6 := below_undrew hb6'
          obtain ⟨A6, c6, rfl, hs6⟩ := own_sl hown6
          have k2 := (hb6.cell (p := ⟨w.heap.size, 0, none⟩) hzx).trans y0
          have k3 := (hb6.cell (p := ⟨w.heap.size, 1, none⟩) hzx).trans y1
          have k0 := (hb6.cell (p := ⟨b, o + k * 2, none⟩) hbl).trans hc0
          have k1 := (hb6.cell (p := ⟨b, o + k * 2 + 1, none⟩) hbl).trans hc1
          go_wp2_with fail
          refine hK.out _ _ ⟨k0, k1, k2, k3⟩ (fun hS => ?_)
          clear hK
          try simp only [Act.put, List.setIfInBounds_toArray, List.set_cons_zero, List.set_cons_succ]
          refine wpAnyH_takeD (i := 6) (v := ?_) rfl (by kernel_rfl) (by kernel_rfl) (by kernel_rfl) (fun _ _ _ h => h) (Or.inl ⟨by kernel_rfl, ?_⟩) hS ?_
          rotate_left 1
          · (intro w' hSw; (try dsimp only at hSw); go_simp; try (with_reducible rfl))
          try simp only [Act.put, List.setIfInBounds_toArray, List.set_cons_zero, List.set_cons_succ]
          refine wpAnyH_done (by kernel_rfl) ?_ _
          have hL6 := hL.below hb6
          have hCo : w6.ownsRow wc.heap.size 73 1 (.slice Al (left.length - 0) cl) (left.length - 0) (lvs.take (left.length - 0)) := by
            have := (hL6.cut (k := (left.length - 0)) (by omega)).1
            rwa [show (left.take (left.length - 0)).length = (left.length - 0) by rw [List.length_take]; omega] at this
          simp only [Nat.sub_zero] at hCo
          have hsz6 : wc.heap.size ≤ w6.heap.size := Nat.le_trans hbc.size hb6.size
          have hwc5 : wc.heap.size ≤ wr.drew.heap.size := hbc.size
          have hol : out.length ≤ 10000 := by have := HALL.out; omega
          have hdl := HOK.out.1
          clear hb6' k2 k3 hS k0 k1
          go_wp2_with (first | (at_builtin; refine wpList_push rfl (.tmp 83) (.tmp 85) 75 rfl wc.heap.size 73 1 24 sliceRows _ _ _ (hCo.alloc _) rfl w6.heap.size #[.slice A6 N c6] rfl (heap_alloc_new w6 _) rfl (by simp [Value.oneCell']) (by omega) (by omega) (by simp; omega) ?_; intro v7 w7 hown7 ht7 hat7 _; have HM := Lib.hid (trl_left (t := 0) hL rfl hG hD hb6 hown6 hwc5 hown7 ht7 hat7); obtain ⟨ovs, ho1, ho2, ho3⟩ := HM.out.grid; have HO2 := Lib.hid ho2; clear ho2; have hsz7 : wc.heap.size ≤ w7.heap.size := ho3.size) | (at_builtin; refine wpList_push rfl (.tmp 87) (.tmp 89) 75 rfl wc.heap.size 73 1 24 sliceRows _ _ _ (ho1.alloc _) rfl w7.heap.size #[.slice A6 N c6] rfl (heap_alloc_new w7 _) rfl (by simp [Value.oneCell']) (by omega) (by omega) (by simp; omega) ?_; intro v8 w8 hown8 ht8 hat8 _; have HF8 := Lib.hid (trl_out HM.out ho1 HO2.out hown8 ht8 hat8)))
          go_roundw
          case rel => exact ⟨k + 1, by omega, by go_num, by rw [HSTP.out]; exact HF8.out⟩
          case measure => simp [intOf]; omega
        · have hop := takes_one ht
          have d3 : decide (op ≤ 3) = false := by simp; omega
          have hd1 : left.length - 1 < left.length := by omega
          obtain ⟨gl, capl, hvl, _, hgl, hcapl, hmaxl⟩ := own_form hL.1 (show 0 < left.length by omega)
          cases hvl
          obtain ⟨Aa, ca, hca, hsa⟩ := hL.at_ hd1
          have hra := HOK.out.2 _ (List.getElem_mem hd1)
          have hga : left.getD (left.length - 1) [] = left[left.length - 1] := by simp [List.getD, hd1]
          rw [hga] at HST'
          obtain ⟨e1, he1⟩ : ∃ e, e = left.length - 1 := ⟨_, rfl⟩
          have u2 : IntKind.i64.wrap ((left.length : Int) - 1) = (e1 : Int) := by rw [IntWalk.i64_in _ (by omega)]; omega
          have u4 : (e1 : Int) < (left.length : Int) := by omega
          generalize left[left.length - 1] = ra at *
          rw [← he1] at hca
          have HU2 := Lib.hid u2
          have HGA := Lib.hid hga
          have HCALL := Lib.hid (HON.out op m ht Aa ca ra hra wr.drew hsa.drew)
          generalize placesL (wbit st lo) N n1 ⟨op, m⟩ ra [] = r at *
          have HSTP := Lib.hid HST'
          clear HST' hm3 ht ht0 hga hra he1 u2
          rcases hop with rfl | rfl | rfl | rfl
          all_goals
            go_wp2_with fail
            have u2 := HU2.out
            refine wp_region_held_drew (S := fun w' => w'.cell? ⟨gl, e1, none⟩ = some (.slice Aa N ca) ∧ w'.cell? ⟨w.heap.size, 0, none⟩ = some (.slice A1 n1 c1) ∧ w'.cell? ⟨w.heap.size, 1, none⟩ = some (.slice A2 n2 c2)) (by kernel_rfl) ⟨hca, y0, y1⟩ (fun hS => ?_)
            refine wpAnyH_takeD (i := 0) (v := ?_) rfl (by kernel_rfl) (by kernel_rfl) (by kernel_rfl) (fun _ _ _ h => h) (Or.inl ⟨by kernel_rfl, ?_⟩) hS ?_
            rotate_left 1
            · (intro w' hSw; (try dsimp only at hSw); go_simp; try (with_reducible rfl))
            try simp only [Act.put, List.setIfInBounds_toArray, List.set_cons_zero, List.set_cons_succ]
            refine wpAnyH_takeD (i := 1) (v := ?_) rfl (by kernel_rfl) (by kernel_rfl) (by kernel_rfl) (fun _ _ _ h => h) (Or.inl ⟨by kernel_rfl, ?_⟩) hS ?_
            rotate_left 1
            · (intro w' hSw; (try dsimp only at hSw); go_simp; try (with_reducible rfl))
            try simp only [Act.put, List.setIfInBounds_toArray, List.set_cons_zero, List.set_cons_succ]
            refine wpAnyH_takeD (i := 2) (v := ?_) rfl (by kernel_rfl) (by kernel_rfl) (by kernel_rfl) (fun _ _ _ h => h) (Or.inl ⟨by kernel_rfl, ?_⟩) hS ?_
            rotate_left 1
            · (intro w' hSw; (try dsimp only at hSw); go_simp; try (with_reducible rfl))
            try simp only [Act.put, List.setIfInBounds_toArray, List.set_cons_zero, List.set_cons_succ]
            refine wpAnyH_takeD (i := 3) (v := ?_) rfl (by kernel_rfl) (by kernel_rfl) (by kernel_rfl) (fun _ _ _ h => h) (Or.inl ⟨by kernel_rfl, ?_⟩) hS ?_
            rotate_left 1
            · (intro w' hSw; (try dsimp only at hSw); go_simp; try (with_reducible rfl))
            try simp only [Act.put, List.setIfInBounds_toArray, List.set_cons_zero, List.set_cons_succ]
            refine wpAnyH_takeD (i := 4) (v := ?_) rfl (by kernel_rfl) (by kernel_rfl) (by kernel_rfl) (fun _ _ _ h => h) (Or.inl ⟨by kernel_rfl, ?_⟩) hS ?_
            rotate_left 1
            · (intro w' hSw; (try dsimp only at hSw); go_simp; try (with_reducible rfl))
            try simp only [Act.put, List.setIfInBounds_toArray, List.set_cons_zero, List.set_cons_succ]
            refine wpAnyH_takeD (i := 5) (v := ?_) rfl (by kernel_rfl) (by kernel_rfl) (by kernel_rfl) (fun _ _ _ h => h) (Or.inl ⟨by kernel_rfl, ?_⟩) hS ?_
            rotate_left 1
            · (intro w' hSw; (try dsimp only at hSw); go_simp; try (with_reducible rfl))
            try simp only [Act.put, List.setIfInBounds_toArray, List.set_cons_zero, List.set_cons_succ]
            refine wpAnyH_takeD (i := 6) (v := ?_) rfl (by kernel_rfl) (by kernel_rfl) (by kernel_rfl) (fun _ _ _ h => h) (Or.inl ⟨by kernel_rfl, ?_⟩) hS ?_
            rotate_left 1
            · (intro w' hSw; (try dsimp only at hSw); go_simp; try (with_reducible rfl))
            try simp only [Act.put, List.setIfInBounds_toArray, List.set_cons_zero, List.set_cons_succ]
            refine wpAnyH_oneD (i := 7) rfl (by kernel_rfl) (fun K hK => ?_)
            go_simp
            refine Calls.mono HCALL.out ?_
            rintro e w6 ⟨v6, rfl, hown6, hb6', _⟩
            have hb6 : Below wr.heap.size wr w6 := below_undrew hb6'
            obtain ⟨A6, c6, rfl, hs6⟩ := own_sl hown6
            have k2 := (hb6.cell (p := ⟨w.heap.size, 0, none⟩) hzx).trans y0
            have k3 := (hb6.cell (p := ⟨w.heap.size, 1, none⟩) hzx).trans y1
            have k0 := (hb6.cell (p := ⟨gl, e1, none⟩) hgl).trans hca
            go_wp2_with fail
            refine hK.out _ _ ⟨k0, k2, k3⟩ (fun hS => ?_)
            clear hK
            try simp only [Act.put, List.setIfInBounds_toArray, List.set_cons_zero, List.set_cons_succ]
            refine wpAnyH_takeD (i := 8) (v := ?_) rfl (by kernel_rfl) (by kernel_rfl) (by kernel_rfl) (fun _ _ _ h => h) (Or.inl ⟨by kernel_rfl, ?_⟩) hS ?_
            rotate_left 1
            · (intro w' hSw; (try dsimp only at hSw); go_simp; try (with_reducible rfl))
            try simp only [Act.put, List.setIfInBounds_toArray, List.set_cons_zero, List.set_cons_succ]
            refine wpAnyH_done (by kernel_rfl) ?_ _
            clear u2
            have hL6 := hL.below hb6
            have hCo : w6.ownsRow wc.heap.size 73 1 (.slice (some ⟨gl, 0, none⟩) (left.length - 1) cl) (left.length - 1) (lvs.take (left.length - 1)) := by
              have := (hL6.cut (k := (left.length - 1)) (by omega)).1
              rwa [show (left.take (left.length - 1)).length = (left.length - 1) by rw [List.length_take]; omega] at this
            have hsz6 : wc.heap.size ≤ w6.heap.size := Nat.le_trans hbc.size hb6.size
            have hwc5 : wc.heap.size ≤ wr.drew.heap.size := hbc.size
            have hol : out.length ≤ 10000 := by have := HALL.out; omega
            have hdl := HOK.out.1
            clear hb6' k2 k3 hS k0
            go_wp2_with (first | (at_builtin; refine wpList_push rfl (.tmp 83) (.tmp 85) 75 rfl wc.heap.size 73 1 24 sliceRows _ _ _ (hCo.alloc _) rfl w6.heap.size #[.slice A6 N c6] rfl (heap_alloc_new w6 _) rfl (by simp [Value.oneCell']) (by omega) (by omega) (by simp; omega) ?_; intro v7 w7 hown7 ht7 hat7 _; have HM := Lib.hid (trl_left (t := 1) hL rfl hG hD hb6 hown6 hwc5 hown7 ht7 hat7); obtain ⟨ovs, ho1, ho2, ho3⟩ := HM.out.grid; have HO2 := Lib.hid ho2; clear ho2; have hsz7 : wc.heap.size ≤ w7.heap.size := ho3.size) | (at_builtin; refine wpList_push rfl (.tmp 87) (.tmp 89) 75 rfl wc.heap.size 73 1 24 sliceRows _ _ _ (ho1.alloc _) rfl w7.heap.size #[.slice A6 N c6] rfl (heap_alloc_new w7 _) rfl (by simp [Value.oneCell']) (by omega) (by omega) (by simp; omega) ?_; intro v8 w8 hown8 ht8 hat8 _; have HF8 := Lib.hid (trl_out HM.out ho1 HO2.out hown8 ht8 hat8)))
            go_roundw
            case rel => exact ⟨k + 1, by omega, by go_num, by rw [HSTP.out]; exact HF8.out⟩
            case measure => simp [intOf]; omega
        · have hop := takes_two ht
          have d3 : decide (op ≤ 3) = false := by simp; omega
          have q4 : (op == 4) = false := by simp; omega
          have q8 : (op == 8) = false := by simp; omega
          have q11 : (op == 11) = false := by simp; omega
          have q12 : (op == 12) = false := by simp; omega
          have hd1 : left.length - 1 < left.length := by omega
          have hd2 : left.length - 2 < left.length := by omega
          obtain ⟨gl, capl, hvl, _, hgl, hcapl, hmaxl⟩ := own_form hL.1 (show 0 < left.length by omega)
          cases hvl
          obtain ⟨Aa, ca, hca, hsa⟩ := hL.at_ hd2
          obtain ⟨Ab, cb, hcb, hsb⟩ := hL.at_ hd1
          have hra := HOK.out.2 _ (List.getElem_mem hd2)
          have hrb := HOK.out.2 _ (List.getElem_mem hd1)
          have hga : left.getD (left.length - 2) [] = left[left.length - 2] := by simp [List.getD, hd2]
          have hgb : left.getD (left.length - 1) [] = left[left.length - 1] := by simp [List.getD, hd1]
          rw [hga, hgb] at HST'
          obtain ⟨e2, he2⟩ : ∃ e, e = left.length - 2 := ⟨_, rfl⟩
          obtain ⟨e1, he1⟩ : ∃ e, e = left.length - 1 := ⟨_, rfl⟩
          have u1 : IntKind.i64.wrap ((left.length : Int) - 2) = (e2 : Int) := by rw [IntWalk.i64_in _ (by omega)]; omega
          have u2 : IntKind.i64.wrap ((left.length : Int) - 1) = (e1 : Int) := by rw [IntWalk.i64_in _ (by omega)]; omega
          have u3 : (e2 : Int) < (left.length : Int) := by omega
          have u4 : (e1 : Int) < (left.length : Int) := by omega
          generalize left[left.length - 2] = ra at *
          generalize left[left.length - 1] = rb at *
          rw [← he2] at hca
          rw [← he1] at hcb
          have HGA := Lib.hid hga
          have HU1 := Lib.hid u1
          have HU2 := Lib.hid u2
          have HCALL := Lib.hid (HTW.out op m ht Aa Ab ca cb ra rb hra hrb wr.drew hsa.drew hsb.drew)
          generalize placesL (wbit st lo) N n1 ⟨op, m⟩ ra rb = r at *
          have HSTP := Lib.hid HST'
          clear hga hgb hra hrb he1 he2 u1 u2 HST' hm3 ht ht0 hop
          go_wp2_with fail
          have u1 := HU1.out
          have u2 := HU2.out
          refine wp_region_held_drew (S := fun w' => w'.cell? ⟨gl, e2, none⟩ = some (.slice Aa N ca) ∧ w'.cell? ⟨gl, e1, none⟩ = some (.slice Ab N cb) ∧ w'.cell? ⟨w.heap.size, 0, none⟩ = some (.slice A1 n1 c1) ∧ w'.cell? ⟨w.heap.size, 1, none⟩ = some (.slice A2 n2 c2)) (by kernel_rfl) ⟨hca, hcb, y0, y1⟩ (fun hS => ?_)
          refine wpAnyH_takeD (i := 0) (v := ?_) rfl (by kernel_rfl) (by kernel_rfl) (by kernel_rfl) (fun _ _ _ h => h) (Or.inl ⟨by kernel_rfl, ?_⟩) hS ?_
          rotate_left 1
          · (intro w' hSw; (try dsimp only at hSw); go_simp; try (with_reducible rfl))
          try simp only [Act.put, List.setIfInBounds_toArray, List.set_cons_zero, List.set_cons_succ]
          refine wpAnyH_takeD (i := 1) (v := ?_) rfl (by kernel_rfl) (by kernel_rfl) (by kernel_rfl) (fun _ _ _ h => h) (Or.inl ⟨by kernel_rfl, ?_⟩) hS ?_
          rotate_left 1
          · (intro w' hSw; (try dsimp only at hSw); go_simp; try (with_reducible rfl))
          try simp only [Act.put, List.setIfInBounds_toArray, List.set_cons_zero, List.set_cons_succ]
          refine wpAnyH_takeD (i := 2) (v := ?_) rfl (by kernel_rfl) (by kernel_rfl) (by kernel_rfl) (fun _ _ _ h => h) (Or.inl ⟨by kernel_rfl, ?_⟩) hS ?_
          rotate_left 1
          · (intro w' hSw; (try dsimp only at hSw); go_simp; try (with_reducible rfl))
          try simp only [Act.put, List.setIfInBounds_toArray, List.set_cons_zero, List.set_cons_succ]
          refine wpAnyH_takeD (i := 3) (v := ?_) rfl (by kernel_rfl) (by kernel_rfl) (by kernel_rfl) (fun _ _ _ h => h) (Or.inl ⟨by kernel_rfl, ?_⟩) hS ?_
          rotate_left 1
          · (intro w' hSw; (try dsimp only at hSw); go_simp; try (with_reducible rfl))
          try simp only [Act.put, List.setIfInBounds_toArray, List.set_cons_zero, List.set_cons_succ]
          refine wpAnyH_takeD (i := 4) (v := ?_) rfl (by kernel_rfl) (by kernel_rfl) (by kernel_rfl) (fun _ _ _ h => h) (Or.inl ⟨by kernel_rfl, ?_⟩) hS ?_
          rotate_left 1
          · (intro w' hSw; (try dsimp only at hSw); go_simp; try (with_reducible rfl))
          try simp only [Act.put, List.setIfInBounds_toArray, List.set_cons_zero, List.set_cons_succ]
          refine wpAnyH_takeD (i := 5) (v := ?_) rfl (by kernel_rfl) (by kernel_rfl) (by kernel_rfl) (fun _ _ _ h => h) (Or.inl ⟨by kernel_rfl, ?_⟩) hS ?_
          rotate_left 1
          · (intro w' hSw; (try dsimp only at hSw); go_simp; try (with_reducible rfl))
          try simp only [Act.put, List.setIfInBounds_toArray, List.set_cons_zero, List.set_cons_succ]
          refine wpAnyH_takeD (i := 6) (v := ?_) rfl (by kernel_rfl) (by kernel_rfl) (by kernel_rfl) (fun _ _ _ h => h) (Or.inl ⟨by kernel_rfl, ?_⟩) hS ?_
          rotate_left 1
          · (intro w' hSw; (try dsimp only at hSw); go_simp; try (with_reducible rfl))
          try simp only [Act.put, List.setIfInBounds_toArray, List.set_cons_zero, List.set_cons_succ]
          refine wpAnyH_takeD (i := 7) (v := ?_) rfl (by kernel_rfl) (by kernel_rfl) (by kernel_rfl) (fun _ _ _ h => h) (Or.inl ⟨by kernel_rfl, ?_⟩) hS ?_
          rotate_left 1
          · (intro w' hSw; (try dsimp only at hSw); go_simp; try (with_reducible rfl))
          try simp only [Act.put, List.setIfInBounds_toArray, List.set_cons_zero, List.set_cons_succ]
          refine wpAnyH_takeD (i := 8) (v := ?_) rfl (by kernel_rfl) (by kernel_rfl) (by kernel_rfl) (fun _ _ _ h => h) (Or.inl ⟨by kernel_rfl, ?_⟩) hS ?_
          rotate_left 1
          · (intro w' hSw; (try dsimp only at hSw); go_simp; try (with_reducible rfl))
          try simp only [Act.put, List.setIfInBounds_toArray, List.set_cons_zero, List.set_cons_succ]
          refine wpAnyH_takeD (i := 9) (v := ?_) rfl (by kernel_rfl) (by kernel_rfl) (by kernel_rfl) (fun _ _ _ h => h) (Or.inl ⟨by kernel_rfl, ?_⟩) hS ?_
          rotate_left 1
          · (intro w' hSw; (try dsimp only at hSw); go_simp; try (with_reducible rfl))
          try simp only [Act.put, List.setIfInBounds_toArray, List.set_cons_zero, List.set_cons_succ]
          refine wpAnyH_takeD (i := 10) (v := ?_) rfl (by kernel_rfl) (by kernel_rfl) (by kernel_rfl) (fun _ _ _ h => h) (Or.inl ⟨by kernel_rfl, ?_⟩) hS ?_
          rotate_left 1
          · (intro w' hSw; (try dsimp only at hSw); go_simp; try (with_reducible rfl))
          try simp only [Act.put, List.setIfInBounds_toArray, List.set_cons_zero, List.set_cons_succ]
          refine wpAnyH_takeD (i := 11) (v := ?_) rfl (by kernel_rfl) (by kernel_rfl) (by kernel_rfl) (fun _ _ _ h => h) (Or.inl ⟨by kernel_rfl, ?_⟩) hS ?_
          rotate_left 1
          · (intro w' hSw; (try dsimp only at hSw); go_simp; try (with_reducible rfl))
          try simp only [Act.put, List.setIfInBounds_toArray, List.set_cons_zero, List.set_cons_succ]
          refine wpAnyH_oneD (i := 12) rfl (by kernel_rfl) (fun K hK => ?_)
          go_simp
          refine Calls.mono HCALL.out ?_
          rintro e w6 ⟨v6, rfl, hown6, hb6', _⟩
          have hb6 : Below wr.heap.size wr w6 := below_undrew hb6'
          obtain ⟨A6, c6, rfl, hs6⟩ := own_sl hown6
          have k2 := (hb6.cell (p := ⟨w.heap.size, 0, none⟩) hzx).trans y0
          have k3 := (hb6.cell (p := ⟨w.heap.size, 1, none⟩) hzx).trans y1
          have k0 := (hb6.cell (p := ⟨gl, e2, none⟩) hgl).trans hca
          have k1 := (hb6.cell (p := ⟨gl, e1, none⟩) hgl).trans hcb
          go_wp2_with fail
          refine hK.out _ _ ⟨k0, k1, k2, k3⟩ (fun hS => ?_)
          clear hK
          try simp only [Act.put, List.setIfInBounds_toArray, List.set_cons_zero, List.set_cons_succ]
          refine wpAnyH_takeD (i := 13) (v := ?_) rfl (by kernel_rfl) (by kernel_rfl) (by kernel_rfl) (fun _ _ _ h => h) (Or.inl ⟨by kernel_rfl, ?_⟩) hS ?_
          rotate_left 1
          · (intro w' hSw; (try dsimp only at hSw); go_simp; try (with_reducible rfl))
          try simp only [Act.put, List.setIfInBounds_toArray, List.set_cons_zero, List.set_cons_succ]
          refine wpAnyH_done (by kernel_rfl) ?_ _
          clear u1 u2
          have hL6 := hL.below hb6
          have hCo : w6.ownsRow wc.heap.size 73 1 (.slice (some ⟨gl, 0, none⟩) (left.length - 2) cl) (left.length - 2) (lvs.take (left.length - 2)) := by
            have := (hL6.cut (k := (left.length - 2)) (by omega)).1
            rwa [show (left.take (left.length - 2)).length = (left.length - 2) by rw [List.length_take]; omega] at this
          have hsz6 : wc.heap.size ≤ w6.heap.size := Nat.le_trans hbc.size hb6.size
          have hwc5 : wc.heap.size ≤ wr.drew.heap.size := hbc.size
          have hol : out.length ≤ 10000 := by have := HALL.out; omega
          have hdl := HOK.out.1
          clear hb6' k2 k3 hS k0 k1
          go_wp2_with (first | (at_builtin; refine wpList_push rfl (.tmp 83) (.tmp 85) 75 rfl wc.heap.size 73 1 24 sliceRows _ _ _ (hCo.alloc _) rfl w6.heap.size #[.slice A6 N c6] rfl (heap_alloc_new w6 _) rfl (by simp [Value.oneCell']) (by omega) (by omega) (by simp; omega) ?_; intro v7 w7 hown7 ht7 hat7 _; have HM := Lib.hid (trl_left (t := 2) hL rfl hG hD hb6 hown6 hwc5 hown7 ht7 hat7); obtain ⟨ovs, ho1, ho2, ho3⟩ := HM.out.grid; have HO2 := Lib.hid ho2; clear ho2; have hsz7 : wc.heap.size ≤ w7.heap.size := ho3.size) | (at_builtin; refine wpList_push rfl (.tmp 87) (.tmp 89) 75 rfl wc.heap.size 73 1 24 sliceRows _ _ _ (ho1.alloc _) rfl w7.heap.size #[.slice A6 N c6] rfl (heap_alloc_new w7 _) rfl (by simp [Value.oneCell']) (by omega) (by omega) (by simp; omega) ?_; intro v8 w8 hown8 ht8 hat8 _; have HF8 := Lib.hid (trl_out HM.out ho1 HO2.out hown8 ht8 hat8)))
          go_roundw
          case rel => exact ⟨k + 1, by omega, by go_num, by rw [HSTP.out]; exact HF8.out⟩
          case measure => simp [intOf]; omega
      · have hkl : k = f.length := by omega
        subst hkl
        obtain ⟨lvs, hL, hG, hD⟩ := hrel
        rw [tfold_end] at hG
        go_wp2
        go_ret
        exact ⟨_, rfl, hG.base hbF⟩
  · have hwt : (wrong f == 0) = false := by simpa using hw
    have hF := HF.out
    rw [hwt] at hF
    have HF0 := Lib.hid hF
    have ht : truthW (wbit st lo) f st lo = [] := by simp [truthW, hw]
    rw [ht]
    clear ht hF hw hwt h
    go_enter Tryd.func31, Tryd.ntmps31
    go_wp2_with fail
    refine Calls.mono (HC0.out _) ?_
    rintro e w1 ⟨rfl, hb1⟩
    have hb01 : Below w.heap.size w w1 := hb0.trans (hb1.mono (by simp))
    go_wp2_with fail
    refine Calls.mono (HF0.out _ hb01) ?_
    rintro e _ ⟨rfl, rfl⟩
    go_wp2
    go_ret
    exact ⟨_, rfl, (Grid.nil w1).base hb01⟩
end Go.Proofs.YtamhjgkigjpbhaaDoor
