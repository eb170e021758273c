/- The walks of layer 6: flood, Reach. -/
import Derived.Test.YtiebpncpdbnelaaDoorZah
set_option maxHeartbeats 1000000
namespace Go.Proofs.YtiebpncpdbnelaaDoor
open Go.RowKit
theorem fs_below {Q qm B Bg : Nat} {w w' : World} (ht : Tch (FS Q qm B) w w') (h1 : Bg ≤ Q) (h2 : Bg ≤ qm) (h3 : Bg ≤ B) (hB : Bg ≤ w.1.size) : Below Bg w w' :=
 ht.below hB (fun k hk hS => by rcases hS with e | e | e <;> omega)
section
variable (ai ae al : Option Addr) (ni ci ne ce nl cl : Nat)
theorem reach1_any (G : Gph) (a bg Bg b3 b7 b8 Q qm B : Nat) (s : List Bool × List Int) (T : List Int) (w : World) (h : GrRd w Bg ai ni ci ae ne ce al nl cl G) (hg : w.cell? ⟨bg, 1, none⟩ = some (.slice ae ne ce)) (_hbg : bg < Bg) (ha : a < ne)
  (hN : FNum Bg b3 b7 b8 Q qm B) (hF : FRel b3 b7 b8 Q qm B ne s w) (hok : VOk ne (s.1, T ++ s.2)) (hne : ne ≤ 1000000000) (hr : ∀ l ∈ G.edges, l.length ≤ 1000000000) (hB : B ≤ w.1.size) (hBg : Bg ≤ w.1.size) :
  Calls Tryd.prog 88 #[.int .i64 (a : Int), .func (.func 109) #[] #[.pointer (some ⟨b3, 0, none⟩), .pointer (some ⟨b7, 0, none⟩), .pointer (some ⟨b8, 0, none⟩)], .pointer (some ⟨bg, 0, none⟩)] w
   (FPost b3 b7 b8 Q qm B ne ((tgts (G.edges.getD a [])).foldl (vis ne) s) w) := by
 obtain ⟨L1, L2, L3⟩ := h.lens
 have hal : a < G.edges.length := by omega
 obtain ⟨b, o, A', n', c', rfl, hbb, hc0, hrow⟩ := h.he.at_ (ed_take hal)
 have hlen := hr G.edges[a] (mM hal)
 have hnx : n' = G.edges[a].length := by have := hrow.len; rw [ncells_len] at this; omega
 have hxr : G.edges.getD a [] = G.edges[a] := by simp [List.getD, hal]
 rw [hxr]
 clear hxr
 generalize G.edges[a] = x at *
 subst hnx
 have hN' := hN
 obtain ⟨⟨g1, g2, g3⟩, n3, n7, n8, n1, n2, n4⟩ := hN'
 have i0 : (0 : Int) ≤ (a : Int) := by omega
 have i1 : (a : Int) < (ne : Int) := by omega
 have HF := dh hF
 clear hF L1 L2 L3
 go_enter Tryd.func88, Tryd.ntmps88
 go_wp2
 go_loopw [13] (fun i wr => ∃ m : Nat, m ≤ x.length ∧ i = .int .i64 m ∧ FRel b3 b7 b8 Q qm B ne (((tgts x).take m).foldl (vis ne) s) wr ∧ Tch (FS Q qm B) w wr) (fun i _ => x.length - (intOf i).toNat)
 case atStart => exact ⟨0, by omega, rfl, HF.out, Tch.refl _ _⟩
 case round =>
  obtain ⟨m, hm, rfl, hV, ht⟩ := hrel
  have hz := ht.size
  have hbr := fs_below ht g2 g1 g3 hBg
  have HT := dh ht
  have HV := dh hV
  clear ht hV
  by_cases hlt : m < x.length
  ·obtain ⟨bb, oo, rfl, hbbb, hd0, hd1⟩ := rd_nd (hrow.rd.below hbr lR) hlt
   have hsn := tF_snoc (n := ne) hlt s
   have hokm : VOk ne ((((tgts x).take m).foldl (vis ne) s).1, T ++ (((tgts x).take m).foldl (vis ne) s).2) := by
    have := fold_ok ((tgts x).take m) hok
    rw [visF_app] at this; exact this
   generalize ((tgts x).take m).foldl (vis ne) s = s' at *
   generalize x[m] = e at *
   obtain ⟨op, act⟩ := e
   dsimp only at *
   have HS := dh hsn
   have hFa := HV.out.below ((Below.refl wr.1.size wr).alloc lR (.cells #[.int .i64 op, .int .i64 act] 65))
   have hvis := visit_any Bg b3 b7 b8 Q qm B ne s' op (wr.alloc (.cells #[.int .i64 op, .int .i64 act] 65)) hN hFa hne (by simp; omega)
    (fun t ht hf => by have := hokm.lt ht (by simp only [List.getD, gE (show t < s'.1.length by rw [hokm.len]; exact ht), Option.getD_some] at hf ⊢; exact hf); simp only [lA] at this; omega) hokm.len
   have HVI := dh hvis
   have HO := dh hokm
   clear hsn hFa hvis hokm
   go_wp2_with fail
   refine Calls.mono HVI.out ?_
   rintro e w2 ⟨rfl, hF2, ht2⟩
   have HF2 := dh hF2
   have ht3 : Tch (FS Q qm B) w w2 := Tch.trans HT.out (Tch.trans ((Tch.refl (FS Q qm B) wr).alloc _) ht2 (fun _ _ h => h)) (fun _ _ h => h)
   clear hF2 ht2
   go_wp2
   go_roundw
   case rel => exact ⟨m + 1, by omega, by go_num, by rw [HS.out]; exact HF2.out, ht3⟩
   case measure => simp [intOf]; omega
  ·have hml : m = x.length := by omega
   have hV := HV.out
   rw [tL (by rw [tgts, List.length_map]; omega)] at hV
   have HV1 := dh hV
   clear hV HV hml
   go_wp2
   go_end0
   exact ⟨rfl, HV1.out, HT.out⟩
theorem qnew_any (w : World) (hne : ne ≤ 65536) : Calls Tryd.prog 108 #[.int .i64 (ne : Int)] w fun e w' => e = .returned (.pointer (some ⟨w.1.size, 0, none⟩)) ∧ w' = w.alloc (.cells #[.bool true, .int .i64 (ne : Int), .slice none 0 0] 134) := by
 have h1 : (if (ne : Int) ≤ 65536 then (ne : Int) else 65536) = ne := by rw [if_pos (by omega)]
 have h2 : min (ne : Int) 65536 = (ne : Int) := by omega
 go_enter Tryd.func108, Tryd.ntmps108
 go_wp2
 go_ret
 exact ⟨rfl, rfl⟩
theorem five_new (w : World) (o0 o1 o2 o3 o4 : Obj) : ∃ W, W = ((((w.alloc o0).alloc o1).alloc o2).alloc o3).alloc o4 ∧ W.1[w.1.size]? = some o0 ∧ W.1[w.1.size + 1]? = some o1 ∧ W.1[w.1.size + 2]? = some o2 ∧ W.1[w.1.size + 3]? = some o3 ∧ W.1[w.1.size + 4]? = some o4 ∧ W.1.size = w.1.size + 5 ∧ Below w.1.size w W := by
 refine ⟨_, rfl, ?_, ?_, ?_, ?_, ?_, by simp, ?_⟩
 ·exact heap_old (by simp; omega) (heap_old (by simp; omega) (heap_old (by simp; omega) (heap_old (by simp) (heap_alloc_new w o0))))
 ·exact heap_old (by simp) (heap_old (by simp) (heap_old (by simp) (heap_new (by simp))))
 ·exact heap_old (by simp) (heap_old (by simp) (heap_new (by simp)))
 ·exact heap_old (by simp) (heap_new (by simp))
 ·exact heap_new (by simp)
 ·exact ((((bR.alloc lR _).alloc (by simp) _).alloc (by simp; omega) _).alloc (by simp; omega) _).alloc (by simp; omega) _
theorem frel_start (w : World) (hne : ne ≤ 1000000000) : ∃ W, W = ((((w.alloc (.cells #[.int .i64 (ne : Int)] 3)).alloc (.cells (madeCells #[.bool false] ne) 4)).alloc (.cells #[.slice (some ⟨w.1.size + 1, 0, none⟩) ne ne] 54)).alloc (.cells #[.bool true, .int .i64 (ne : Int), .slice none 0 0] 134)).alloc (.cells #[.pointer (some ⟨w.1.size + 3, 0, none⟩)] 126) ∧
  FRel w.1.size (w.1.size + 2) (w.1.size + 4) (w.1.size + 3) (w.1.size + 1) (w.1.size + 5) ne (List.replicate ne false, []) W ∧ W.1.size = w.1.size + 5 ∧ Below w.1.size w W := by
 obtain ⟨W, hW, h0, h1, h2, h3, h4, h5, h6⟩ := five_new w (.cells #[.int .i64 (ne : Int)] 3) (.cells (madeCells #[.bool false] ne) 4) (.cells #[.slice (some ⟨w.1.size + 1, 0, none⟩) ne ne] 54) (.cells #[.bool true, .int .i64 (ne : Int), .slice none 0 0] 134) (.cells #[.pointer (some ⟨w.1.size + 3, 0, none⟩)] 126)
 refine ⟨W, hW, ⟨by rw [cell_of_row W _ 0 _ _ _ h0]; rfl, by rw [cell_of_row W _ 0 _ _ _ h2]; rfl, by rw [cell_of_row W _ 0 _ _ _ h4]; rfl, ⟨.slice none 0 0, h3, World.ownsRow_nil _ _ _ _, by omega⟩, ?_⟩, h5, h6⟩
 have hm : (madeCells #[Value.bool false] ne).toList = List.replicate ne (.bool false) := toList_madeCells_one _ _
 have hs : (madeCells #[Value.bool false] ne).size = ne := by have := congrArg List.length hm; simpa using this
 refine ⟨by simp, .inr ⟨w.1.size + 1, ne, _, rfl, Nat.zero_le _, h1, lR, by unfold maxLen; omega, by rw [hs, Nat.mul_one], ?_⟩⟩
 rw [tL (by rw [Array.length_toList, hs]; omega), List.map_replicate]
 exact hm
theorem flood_any (G : Gph) (from_ : List Int) (A : Option Addr) (n c bg Bg : Nat) (w : World) (h : GrRd w Bg ai ni ci ae ne ce al nl cl G) (hg : w.cell? ⟨bg, 1, none⟩ = some (.slice ae ne ce)) (hbg : bg < Bg) (hf : Sl w Bg 1 A n c (icells from_)) (hn : n = from_.length) (hBg : Bg ≤ w.1.size)
  (hne : ne ≤ 65536) (hl : n ≤ 1000000000) (hr : ∀ l ∈ G.edges, l.length ≤ 1000000000) :
  Calls Tryd.prog 87 #[.int .i64 (ne : Int), .slice A n c, .func (.func 88) #[] #[.pointer (some ⟨bg, 0, none⟩)]] w (NewRow w 4 1 ne ((reachG ne G.edges from_).map .bool) False) := by
 subst hn
 obtain ⟨W, hW, hF0, hzW, hbW⟩ := frel_start (ne := ne) w (by omega)
 have hmk := run_make_row' (P := Tryd.prog) 54 4 (.bool false) 1 Tryd.underlying54 infoBool rfl .i64 .i64 ne (by omega) (by omega)
 have HQN := dh (fun w => qnew_any ne w hne)
 have HW := dh hW
 have HF0 := dh hF0
 have hg' := (hbW.cell (show bg < w.1.size by omega)).trans hg
 have HZ := dh hzW
 clear hW hF0 hg hzW
 go_enter Tryd.func87, Tryd.ntmps87
 go_wp2_with fail
 refine Calls.mono (HQN.out _) ?_
 rintro e w1 ⟨rfl, rfl⟩
 go_wp2
 simp only [Nat.add_assoc, Nat.reduceAdd]
 rw [← HW.out]
 have hN : FNum w.1.size w.1.size (w.1.size + 2) (w.1.size + 4) (w.1.size + 3) (w.1.size + 1) (w.1.size + 5) := by unfold FNum; omega
 have h' := (h.up hBg).below hbW lR
 have hf' := (hf.up hBg).below hbW lR
 have hzW : w.1.size + 5 ≤ W.1.size := Nat.le_of_eq HZ.out.symm
 clear HW HQN hmk h hf HZ
 generalize w.1.size + 1 = qm at *
 generalize w.1.size + 2 = b7 at *
 generalize w.1.size + 3 = Q at *
 generalize w.1.size + 4 = b8 at *
 generalize w.1.size + 5 = B at *
 have hN2 := hN
 obtain ⟨⟨n1, n2, n3⟩, n4, n5, n6, n7, n8, n9⟩ := hN2
 have hF00 : FRel w.1.size b7 b8 Q qm B ne ((from_.take 0).foldl (vis ne) (List.replicate ne false, [])) W := HF0.out
 clear HF0
 go_loopw [21] (fun i wr => ∃ k : Nat, k ≤ from_.length ∧ i = .int .i64 k ∧ FRel w.1.size b7 b8 Q qm B ne ((from_.take k).foldl (vis ne) (List.replicate ne false, [])) wr ∧ Tch (FS Q qm B) W wr) (fun i _ => from_.length - (intOf i).toNat)
 case atStart => exact ⟨0, by omega, rfl, hF00, Tch.refl _ _⟩
 case round =>
  obtain ⟨k, hk, rfl, hF, ht⟩ := hrel
  clear hF00
  have hz := ht.size
  have hbr := fs_below ht n2 n1 n3 (show w.1.size ≤ W.1.size by omega)
  have HT := dh ht
  have HF := dh hF
  clear ht hF
  have hok : VOk ne ((from_.take k).foldl (vis ne) (List.replicate ne false, [])) := fold_ok _ (st0_ok ne)
  by_cases hlt : k < from_.length
  ·obtain ⟨b, o, rfl, hbb, hc0⟩ := rd_int (hf'.rd.below hbr lR) hlt
   have hsn := vF_snoc (n := ne) hlt (List.replicate ne false, [])
   generalize (from_.take k).foldl (vis ne) (List.replicate ne false, []) = s at *
   generalize from_[k] = x at *
   have hvis := visit_any w.1.size w.1.size b7 b8 Q qm B ne s x wr hN HF.out (by omega) (by omega)
    (fun t ht hf => hok.lt ht (by simp only [List.getD, gE (show t < s.1.length by rw [hok.len]; exact ht), Option.getD_some] at hf ⊢; exact hf)) hok.len
   have HVI := dh hvis
   have HS := dh hsn
   have HO := dh hok
   clear hvis hsn hok
   go_wp2_with fail
   refine Calls.mono HVI.out ?_
   rintro e w2 ⟨rfl, hF2, ht2⟩
   have HF2 := dh hF2
   have ht3 : Tch (FS Q qm B) W w2 := Tch.trans HT.out ht2 (fun _ _ h => h)
   clear hF2 ht2
   go_wp2
   go_roundw
   case rel => exact ⟨k + 1, by omega, by go_num, by rw [HS.out]; exact HF2.out, ht3⟩
   case measure => simp [intOf]; omega
  ·have hkl : k = from_.length := by omega
   have hF := HF.out
   rw [tL (by omega)] at hF
   have hF1 : FRel w.1.size b7 b8 Q qm B ne ((stN ne G.edges from_ 0).1, (stN ne G.edges from_ 0).2.drop 0) wr := hF
   have HF1 := dh hF1
   clear hF hF1 HF hkl hok
   go_wp2
   go_loopg [12] (ne + 1) (fun gk _ wr => ∃ k : Nat, k + gk = ne + 1 ∧ k ≤ (stN ne G.edges from_ k).2.length ∧ FRel w.1.size b7 b8 Q qm B ne ((stN ne G.edges from_ k).1, (stN ne G.edges from_ k).2.drop k) wr ∧ Tch (FS Q qm B) W wr)
   case atStart => exact ⟨0, by omega, by omega, HF1.out, HT.out⟩
   case round =>
    clear HF1 HT hbr hz
    obtain ⟨k, hkg, hk, hF, ht⟩ := hrel
    have hz := ht.size
    have hbr := fs_below ht n2 n1 n3 (show w.1.size ≤ W.1.size by omega)
    have HT := dh ht
    have hok := stN_ok ne G.edges from_ k
    have hle := hok.le
    by_cases hlt : k < (stN ne G.edges from_ k).2.length
    ·have hnd := hok.rng _ (mM hlt)
     have hnx := stN_next (n := ne) (E := G.edges) (from_ := from_) (k := k) (gE hlt)
     have hdr := List.drop_eq_getElem_cons hlt
     rw [hdr] at hF
     have hsp : stN ne G.edges from_ k = ((stN ne G.edges from_ k).1, (stN ne G.edges from_ k).2.take (k + 1) ++ (stN ne G.edges from_ k).2.drop (k + 1)) := by rw [List.take_append_drop]
     have htl : ((stN ne G.edges from_ k).2.take (k + 1)).length = k + 1 := by rw [List.length_take]; omega
     generalize (stN ne G.edges from_ k).2[k] = x at *
     obtain ⟨a, rfl, han⟩ := isNd_nat hnd
     generalize (stN ne G.edges from_ k).2.take (k + 1) = T at *
     generalize (stN ne G.edges from_ k).2.drop (k + 1) = L at *
     rw [hsp] at hok
     rw [hsp, tN] at hnx
     generalize (stN ne G.edges from_ k).1 = mk at *
     rw [visF_app] at hnx
     have HX := dh hnx
     have HTL := dh htl
     have HO := dh hok
     have HTK := dh (qtake_any Q B ne (a : Int) L wr hF.q)
     have c8 := hF.c8
     have HF := dh hF
     have HN := dh hN
     clear hnx htl hok hsp hdr hF ht hnd
     go_wp2_with fail
     refine Calls.mono HTK.out ?_
     rintro e w2 ⟨rfl, hq, ht2⟩
     have hF2 := FRel.put hN HF.out hq ht2
     have ht3 : Tch (FS Q qm B) W w2 := Tch.trans HT.out ht2 (fun i _ hi => by rcases hi with hi | hi; exact .inl hi; exact .inr (.inr hi))
     have hb2 := fs_below ht3 n2 n1 n3 (show w.1.size ≤ W.1.size by omega)
     have hz2 := ht3.size
     have hg2 := (hb2.cell (show bg < w.1.size by omega)).trans hg'
     have hre := reach1_any ai ae al ni ci ne ce nl cl G a bg w.1.size w.1.size b7 b8 Q qm B (mk, L) T w2 (h'.below hb2 lR) hg2 (by omega) han hN hF2 HO.out (by omega) hr (by omega) (by omega)
     have HR := dh hre
     clear hre hF2 hq ht2 hg2
     go_wp2_with fail
     refine Calls.mono HR.out ?_
     rintro e w3 ⟨rfl, hF3, ht4⟩
     have HF3 := dh hF3
     have ht5 : Tch (FS Q qm B) W w3 := Tch.trans ht3 ht4 (fun _ _ h => h)
     clear hF3 ht4
     go_wp2
     go_roundg (gk - 1)
     case rel =>
      refine ⟨k + 1, by omega, ?_, ?_, ht5⟩
      ·rw [HX.out, lA, HTL.out]; omega
      ·rw [HX.out]
       simp only
       rw [List.drop_left' HTL.out]
       exact HF3.out
     case measure => omega
    ·have hend := reachG_end (n := ne) (E := G.edges) (from_ := from_) (k := k) hk (by omega)
     have hnil : (stN ne G.edges from_ k).2.drop k = [] := List.drop_eq_nil_of_le (by omega)
     rw [hnil] at hF
     generalize (stN ne G.edges from_ k).1 = mk at *
     have HE := dh hend
     have HTK := dh (qtake0_any Q B ne wr hF.q)
     have c8 := hF.c8
     have HF := dh hF
     clear hend hnil hF ht hok
     go_wp2_with fail
     refine Calls.mono HTK.out ?_
     rintro e w2 ⟨rfl, hq, ht2⟩
     have hF2 := FRel.put hN HF.out hq ht2
     have ht3 : Tch (FS Q qm B) W w2 := Tch.trans HT.out ht2 (fun i _ hi => by rcases hi with hi | hi; exact .inl hi; exact .inr (.inr hi))
     have c7 := hF2.c7
     have HF2 := dh hF2
     clear hF2 hq ht2
     go_wp2
     go_ret
     exact ⟨_, rfl, by rw [HE.out]; exact own_at HF2.out.m n1, (hbW.trans ((fs_below ht3 n2 n1 n3 (show w.1.size ≤ W.1.size by omega)))), by simp⟩
theorem large_any (w : World) (hne : ne ≤ 65536) : Calls Tryd.prog 85 #[.agg #[.slice ai ni ci, .slice ae ne ce, .slice al nl cl]] w (Tru w false) := by
 have d1 : decide ((65536 : Int) < (ne : Int)) = false := by simp; omega
 go_enter Tryd.func85, Tryd.ntmps85
 go_wp2
 go_ret
 exact ⟨rfl, bR.alloc lR _⟩
theorem reachP_any (G : Gph) (from_ : List Int) (A : Option Addr) (n c : Nat) (w : World) (B : Nat) (h : GrRd w B ai ni ci ae ne ce al nl cl G) (hf : Sl w B 1 A n c (icells from_)) (hn : n = from_.length) (hB : B ≤ w.1.size) (he : ne ≤ 65536) (hl : n ≤ 1000000000) (hr : ∀ l ∈ G.edges, l.length ≤ 1000000000) :
  Calls Tryd.prog 59 #[.agg #[.slice ai ni ci, .slice ae ne ce, .slice al nl cl], .slice A n c] w (NewRow w 4 1 ne ((reachG ne G.edges from_).map .bool) False) := by
 subst hn
 obtain ⟨w0, hw0, hb0, hz0, hx0, hx1, hx2⟩ := boxed3 w (.slice ai ni ci) (.slice ae ne ce) (.slice al nl cl) 67
 have HW0 := dh hw0
 have h' := (h.below hb0 hB).up (show B ≤ w.1.size by omega)
 have hf' := (hf.below hb0 hB).up (show B ≤ w.1.size by omega)
 have hzw : w.1.size + 1 ≤ w0.1.size := by omega
 clear hw0 hz0
 go_enter Tryd.func59, Tryd.ntmps59
 go_wp2_with fail
 rw [← HW0.out]
 refine (large_any ai ae al ni ci ne ce nl cl w0 he).mono ?_
 rintro e w1 ⟨rfl, hb1⟩
 have hz1 := hb1.size
 have g1 := bC hb1 (by omega) hx1
 have hfl := flood_any ai ae al ni ci ne ce nl cl G from_ A _ c w.1.size (w.1.size + 1) w1 ((h'.below hb1 (by omega)).up (by omega)) g1 (by omega) ((hf'.below hb1 (by omega)).up (by omega)) rfl (by omega) he hl hr
 have HFL := dh hfl
 clear hfl HW0 h h' hf hf'
 go_wp2_with fail
 refine Calls.mono HFL.out ?_
 rintro e w2 ⟨v, rfl, hown, hb2, hnil⟩
 have HNI := dh hnil
 clear hnil
 go_wp2
 go_ret
 exact ⟨v, rfl, own_base hown (by omega), (hb0.trans (hb1.mono (by omega))).trans (hb2.mono (by omega)), HNI.out⟩
end
end Go.Proofs.YtiebpncpdbnelaaDoor
