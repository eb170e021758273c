/- Texts that stand one behind the other, in one file. -/
import Derived.Test.YtiebpncpdbnelaaDoorMk
import Derived.Test.YtiebpncpdbnelaaDoorZac
import Derived.Test.YtiebpncpdbnelaaDoorAt2
namespace Go.Proofs.YtiebpncpdbnelaaDoor
theorem cntB_mono : ∀ {y z : List Bool}, y.length = z.length → SubB y z → cntB y ≤ cntB z ∧ (cntB y = cntB z → y = z)
 | [], [], _, _ => ⟨Nat.le_refl _, fun _ => rfl⟩
 | [], _ :: _, h, _ => by simp at h
 | _ :: _, [], h, _ => by simp at h
 | a :: y, b :: z, h, hs => by
  obtain ⟨i1, i2⟩ := cntB_mono (y := y) (z := z) (by simpa using h) (fun i hi => by simpa [List.getD] using hs (i + 1) (by simpa [List.getD] using hi))
  have h0 : a = true → b = true := fun ha => by simpa using hs 0 (by simpa using ha)
  simp only [cntB, List.countP_cons] at i1 i2 ⊢
  cases a <;> cases b
  ·exact ⟨by simpa using i1, fun e => by rw [i2 (by simpa using e)]⟩
  ·refine ⟨?_, fun e => ?_⟩
   ·simp; omega
   ·simp at e; omega
  ·exact absurd (h0 rfl) (by decide)
  ·exact ⟨by simpa using i1, fun e => by rw [i2 (by simpa using e)]⟩
theorem cntB_round {E : List (List Nd)} {asks : List (Nat → Bool)} {z : List Bool} (hz : z.length = E.length) (h : roundZ E asks z ≠ z) : cntB (roundZ E asks z) < cntB z := by
 obtain ⟨h1, h2⟩ := cntB_mono (roundZ_len E asks z) (roundZ_sub asks hz)
 rcases Nat.lt_or_eq_of_le h1 with h3 | h3
 ·exact h3
 ·exact absurd (h2 h3) h
theorem stepZ_congr {E : List (List Nd)} {z : List Bool} {p q : Nat → Bool} (h : ∀ k, k < z.length → p k = q k) : stepZ E z p = stepZ E z q := by
 have : goalZ z p = goalZ z q := by
  unfold goalZ
  refine List.map_congr_left (fun i hi => ?_)
  rw [h i (List.mem_range.1 hi)]
 rw [stepZ, stepZ, this]
theorem cntB_all (n : Nat) : cntB (List.replicate n true) ≤ n := by have := cntB_le (List.replicate n true); simpa using this
theorem roundZ_snoc {E : List (List Nd)} {asks : List (Nat → Bool)} {z : List Bool} {k : Nat} (hk : k < asks.length) : roundZ E (asks.take (k + 1)) z = stepZ E (roundZ E (asks.take k) z) asks[k] := by
 rw [take_snoc asks k hk, roundZ, List.foldl_append]; rfl
theorem list_eqB {y z : List Bool} (hl : y.length = z.length) (h : (List.range y.length).any (fun i => y.getD i false != z.getD i false) = false) : y = z := by
 refine List.ext_getElem hl (fun i h1 h2 => ?_)
 rw [List.any_eq_false] at h
 have := h i (List.mem_range.2 h1)
 simpa [List.getD, h1, h2] using this
theorem list_neB {y z : List Bool} (h : (List.range y.length).any (fun i => y.getD i false != z.getD i false) = true) : z ≠ y := by
 rintro rfl
 rw [List.any_eq_true] at h
 obtain ⟨i, _, hi⟩ := h
 simp at hi
theorem fixd_congr {E : List (List Nd)} {as1 bs : List (Nat → Bool)} {z : List Bool} (hl : as1.length = bs.length) (h : ∀ (j : Nat) (p q : Nat → Bool), as1[j]? = some p → bs[j]? = some q → ∀ k, k < z.length → p k = q k) (hf : Fixd E as1 z) : Fixd E bs z := by
 intro q hq
 obtain ⟨j, hj, rfl⟩ := List.mem_iff_getElem.1 hq
 have hj' : j < as1.length := by omega
 have := hf as1[j] (List.getElem_mem hj')
 rwa [stepZ_congr (h j as1[j] bs[j] (List.getElem?_eq_getElem hj') (List.getElem?_eq_getElem hj))] at this
theorem gfp_congr {E : List (List Nd)} {as1 bs : List (Nat → Bool)} {z : List Bool} (hl : as1.length = bs.length) (h : ∀ (j : Nat) (p q : Nat → Bool), as1[j]? = some p → bs[j]? = some q → ∀ k, k < E.length → p k = q k) (hg : Gfp E as1 z) : Gfp E bs z :=
 ⟨hg.1, fixd_congr hl (fun j p q a b k hk => h j p q a b k (by rw [← hg.1]; exact hk)) hg.2.1, fun y hy hf => hg.2.2 y hy (fixd_congr hl.symm (fun j p q a b k hk => (h j q p b a k (by rw [← hy]; exact hk)).symm) hf)⟩
end Go.Proofs.YtiebpncpdbnelaaDoor
namespace Go.Proofs.YtiebpncpdbnelaaDoor
open Go.RowKit
def asksL (a : Aut) (l : List Nat) : List (Nat → Bool) := (List.range (a.sets.toNat + 1)).map (fun (j : Nat) => askL a l ((j : Int) - 1))
set_option maxHeartbeats 8000000 in
set_option maxRecDepth 100000 in
theorem all30_any (a : Aut) (Ai : Option Addr) (ni ci : Nat) (An : Option Addr) (nn cn : Nat) (E : List (List Nd)) (ai ae al : Option Addr) (gi di ne ce nl cl : Nat) (gI gL : List Int) (l : List Nat) (Ao : Option Addr) (co : Nat) (w : World) (B : Nat) (h : AutRd w B a Ai ni ci An nn cn)
  (hG : GrRd w B ai gi di ae ne ce al nl cl ⟨gI, E, gL⟩) (ho : Sl w B 1 Ao ne co (icells (natI l))) (hn : ne = l.length) (hB : B ≤ w.heap.size) (hl : ∀ x ∈ l, x < nn) (hin : ∀ r ∈ E, ∀ e ∈ r, isNd ne e.op = true) (hs0 : 0 ≤ a.sets) (hs : a.sets ≤ 16) (hne : ne ≤ 65536) (hnn : nn ≤ 1000000) (KB : Nat) (hr : ∀ r ∈ E, r.length ≤ KB) (hKB : ne * KB ≤ 1000000000) (hKB2 : KB ≤ 1000000000) :
  Calls Tryd.prog 48 #[.agg #[.int .i64 a.sets, .slice Ai ni ci, .slice An nn cn], .agg #[.slice ai gi di, .slice ae ne ce, .slice al nl cl], .slice Ao ne co] w (fun e w' => ∃ zg, Gfp E (asksL a l) zg ∧ NewRow w 4 1 ne (bcells zg) False e w') := by
 obtain ⟨T, hT⟩ : ∃ T : Nat, a.sets = (T : Int) := ⟨a.sets.toNat, by omega⟩
 have hasl : (asksL a l).length = T + 1 := by simp [asksL, hT]
 have hask : ∀ k (hk : k < (asksL a l).length), (asksL a l)[k] = askL a l ((k : Int) - 1) := fun k hk => by simp [asksL]
 have hT16 : T ≤ 16 := by omega
 have HLI := Lib.hid (fun (z : List Bool) (Az : Option Addr) (cz : Nat) (i : Int) (w' : World) (B' : Nat) (h' : AutRd w' B' a Ai ni ci An nn cn) (hz' : Sl w' B' 1 Az ne cz (z.map .bool)) (ho' : Sl w' B' 1 Ao ne co (icells (natI l))) (hz : ne = z.length) (hB' : B' ≤ w'.heap.size) (hi : i ≤ 63) (hi0 : -1 ≤ i) => lies30_any a Ai ni ci An nn cn z Az ne cz l Ao co i w' B' h' hz' ho' hz hn hB' hl hi hi0 (by omega) hnn)
 rw [hT] at HLI ⊢
 obtain ⟨hb0, x0, y0, z0⟩ := two_new w (.cells #[.int .i64 (T : Int), .slice Ai ni ci, .slice An nn cn] 25) (.cells #[.slice ai gi di, .slice ae ne ce, .slice al nl cl] 67)
 obtain ⟨W0, hW0⟩ : ∃ W0, (w.alloc (.cells #[.int .i64 (T : Int), .slice Ai ni ci, .slice An nn cn] 25)).alloc (.cells #[.slice ai gi di, .slice ae ne ce, .slice al nl cl] 67) = W0 := ⟨_, rfl⟩
 rw [hW0] at hb0 x0 y0 z0
 have HW0 := Lib.hid hW0
 have HLE : Hid (ne = E.length) := Lib.hid hG.lens.2.1
 have hmk := run_make_row' (P := Tryd.prog) 54 4 (.bool false) 1 Tryd.underlying54 infoBool rfl .i64 .i64 ne (by omega) (by omega)
 have HH := Lib.hid (h.below hb0 hB)
 have HG := Lib.hid (hG.below hb0 hB)
 have HO := Lib.hid (ho.below hb0 hB)
 have HIN := Lib.hid hin
 have HR := Lib.hid hr
 have HX0 := Lib.hid x0
 have HY0 := Lib.hid y0
 have HASL := Lib.hid hasl
 have HASK := Lib.hid hask
 have hBs : B ≤ W0.heap.size := by omega
 clear hW0 h hG ho hin hr x0 y0 hasl hask hn hl hT hs0 hs
 go_enter Tryd.func48, Tryd.ntmps48
 go_wp2_with fail
 obtain ⟨gq, hgq⟩ : ∃ q, q = w.heap.size + 1 + 1 := ⟨_, rfl⟩
 have hF0 : ∃ W, W = (W0.alloc (.cells (madeCells #[.bool false] ne) 4)) ∧ W.ownsRow gq 4 1 (.slice (some ⟨gq, 0, none⟩) ne ne) ne (bcells ((List.range 0).map (fun _ => true) ++ List.replicate (ne - 0) false)) ∧ Below gq W0 W := by
  refine ⟨_, rfl, ?_, (Below.refl _ _).alloc (by rw [hgq]; omega) _⟩
  have := own_made (w := W0) (base := gq) (e := 4) (n := ne) (v := .bool false) (by rw [hgq]; omega) (by unfold maxLen; omega)
  rw [z0, ← hgq] at this
  simpa [bcells] using this
 obtain ⟨W, hW, hown, hbW⟩ := hF0
 rw [HW0.out, ← hgq, ← hW]
 have hgq1 : w.heap.size + 2 ≤ gq := by omega
 have hgq2 : gq ≤ w.heap.size + 2 := by omega
 clear hW hmk hgq
 go_loopw [8] (fun v wr => ∃ k : Nat, k ≤ ne ∧ v = .int .i64 k ∧ wr.ownsRow gq 4 1 (.slice (some ⟨gq, 0, none⟩) ne ne) ne (bcells ((List.range k).map (fun _ => true) ++ List.replicate (ne - k) false)) ∧ Below gq W0 wr) (fun v _ => ne - (intOf v).toNat)
 case atStart => exact ⟨0, by omega, rfl, hown, hbW⟩
 case round =>
  obtain ⟨k, hk, rfl, hR, hbr⟩ := hrel
  clear hown
  by_cases hlt : k < ne
  ·have j0 : (0 : Int) ≤ (k : Int) := by omega
   have j1 : (k : Int) < (ne : Int) := by omega
   obtain ⟨q6, f6, g6, _⟩ := own_getB hR hlt
   have h1 := own_setB (t := k) (d := true) hR
   have hrs := row_setB hlt (fun _ => true) false
   rw [hrs] at h1
   have H1 := Lib.hid h1
   have hb1 := hbr.setCell (p := ⟨gq, k, none⟩) (Nat.le_refl _) (.bool true)
   have HB1 := Lib.hid hb1
   have wk : IntKind.i64.wrap ((k : Int) + 1) = k + 1 := by rw [IntKind.wrap_i64]; omega
   clear h1 hrs hb1 hR
   go_wp2_with fail
   go_roundw
   case rel => exact ⟨k + 1, by omega, by go_num, H1.out, HB1.out⟩
   case measure => simp [intOf]; omega
  ·have hkn : k = ne := by omega
   subst hkn
   have hfin : (List.range k).map (fun _ => true) ++ List.replicate (k - k) false = List.replicate k true := by
    rw [Nat.sub_self, List.replicate_zero, List.append_nil]
    refine List.ext_getElem (by simp) (fun i h1 h2 => by simp)
   rw [hfin] at hR
   obtain ⟨wf, hwf⟩ : ∃ wf : World, wf = wr := ⟨_, rfl⟩
   rw [← hwf] at hR hbr ⊢
   have HR0 := Lib.hid hR
   have HI0 : Hid (GInv E (asksL a l) (List.replicate k true)) := Lib.hid (by have := GInv.start E (asksL a l); rwa [← HLE.out] at this)
   have hzf : gq ≤ wf.heap.size := by have := hbr.size; omega
   clear hR hfin hwf
   go_wp2_with fail
   go_loopg [7] k (fun gk u wr => ∃ z : List Bool, wr.ownsRow gq 4 1 u k (bcells z) ∧ u ≠ .slice none 0 0 ∧ Hid (GInv E (asksL a l) z) ∧ Hid (cntB z ≤ gk) ∧ Below gq W0 wr)
   case atStart => exact ⟨List.replicate k true, HR0.out, by simp, HI0, Lib.hid (cntB_all k), hbr⟩
   case round =>
    clear HR0 HI0 hzf hbr
    obtain ⟨z, hO, hnn1, HI, HC, hbr⟩ := hrel
    obtain ⟨wp, hwp⟩ : ∃ wp : World, wp = wr := ⟨_, rfl⟩
    rw [← hwp] at hO hbr ⊢
    obtain ⟨Az, cz, rfl, hsz⟩ := own_sl hO
    have hzn : k = z.length := by have := hO.1; simpa [bcells] using this.symm
    have hszr : gq ≤ wp.heap.size := by have := hbr.size; omega
    have HZN := Lib.hid hzn
    have HOW := Lib.hid hO
    have HSZ := Lib.hid hsz
    clear hzn hO hsz hwp
    go_wp2_with fail
    go_loopw [9, 10] (fun u v wr => ∃ (j : Nat) (z1 : List Bool), j ≤ T + 1 ∧ v = .int .i64 ((j : Int) - 1) ∧ wr.ownsRow gq 4 1 u k (bcells z1) ∧ u ≠ .slice none 0 0 ∧ Hid (z1 = roundZ E ((asksL a l).take j) z) ∧ Below wp.heap.size wp wr) (fun _ v _ => T + 1 - (intOf v + 1).toNat)
    case atStart => exact ⟨0, z, by omega, rfl, HOW.out, hnn1, Lib.hid rfl, Below.refl _ _⟩
    case round =>
     obtain ⟨j, z1, hj, rfl, hO1, hnn2, HZ1, hbx⟩ := hrel
     obtain ⟨Al, cl1, rfl, hsl⟩ := own_sl hO1
     have hz1n : k = z1.length := by have := hO1.1; simpa [bcells] using this.symm
     have hb0x : Below gq W0 wr := hbr.trans (hbx.mono hszr)
     have hszx : gq ≤ wr.heap.size := by have := hbx.size; omega
     have x1 := (hb0x.block w.heap.size (by omega)).trans HX0.out
     have y1 := (hb0x.block (w.heap.size + 1) (by omega)).trans HY0.out
     obtain ⟨m0, m1, m2⟩ := box3A x1
     obtain ⟨n0, n1, n2⟩ := box3A y1
     have hwl : w.heap.size < wr.heap.size := by omega
     have hwl1 : w.heap.size + 1 < wr.heap.size := by omega
     by_cases hlt : j < T + 1
     ·have hlt' : ((j : Int) - 1) < (T : Int) := by omega
      have wj : IntKind.i64.wrap ((j : Int) - 1 + 1) = ((j + 1 : Nat) : Int) - 1 := by rw [IntKind.wrap_i64]; omega
      have hja : j < (asksL a l).length := by rw [HASL.out]; exact hlt
      have hrs : roundZ E ((asksL a l).take (j + 1)) z = stepZ E z1 (askL a l ((j : Int) - 1)) := by rw [roundZ_snoc hja, ← HZ1.out, HASK.out j hja]
      have HRS := Lib.hid hrs
      have hbd : Below wr.heap.size wr wr.drew := Below.drew (Below.refl _ _)
      obtain ⟨wd, hwd⟩ : ∃ wd, wr.drew = wd := ⟨_, rfl⟩
      rw [hwd] at hbd
      have HWD := Lib.hid hwd
      have hsd := hbd.size
      have hb0d : Below gq W0 wd := hb0x.trans (hbd.mono hszx)
      have HWI := Lib.hid (within30_any ai ae al gi di k ce nl cl ⟨gI, E, gL⟩ z1 Al cl1 wd wr.heap.size ((HG.out.below hb0d (by omega)).up (by omega)) (hsl.below hbd (Nat.le_refl _)) hz1n hsd (by omega) KB HIN.out HR.out (by omega))
      have HSL := Lib.hid hsl
      have HZ1N := Lib.hid hz1n
      have hwE : ∀ r ∈ withinE E z1, ∀ e ∈ r, isNd k e.op = true := fun r hr e he => by
       obtain ⟨i, hi, rfl⟩ := List.mem_map.1 hr
       split at he
       ·have hm := (List.mem_filter.1 he).1
        rw [List.mem_range] at hi
        simp only [List.getD, List.getElem?_eq_getElem hi, Option.getD_some] at hm
        exact HIN.out _ (List.getElem_mem hi) e hm
       ·cases he
      have hwK : ∀ r ∈ withinE E z1, r.length ≤ KB := fun r hr => by
       obtain ⟨i, hi, rfl⟩ := List.mem_map.1 hr
       split
       ·refine Nat.le_trans (List.length_filter_le _ _) ?_
        rw [List.mem_range] at hi
        simp only [List.getD, List.getElem?_eq_getElem hi, Option.getD_some]
        exact HR.out _ (List.getElem_mem hi)
       ·simp
      have HWE := Lib.hid hwE
      have HWK := Lib.hid hwK
      clear hwE hwK hwd hsl hO1 x1 y1 hrs hz1n
      go_wp2_with fail
      refine wp_region_held_drew (S := fun w' => w'.cell? ⟨w.heap.size, 0, none⟩ = some (.int .i64 (T : Int)) ∧ w'.cell? ⟨w.heap.size, 1, none⟩ = some (.slice Ai ni ci) ∧ w'.cell? ⟨w.heap.size, 2, none⟩ = some (.slice An nn cn) ∧ w'.cell? ⟨w.heap.size + 1, 0, none⟩ = some (.slice ai gi di) ∧ w'.cell? ⟨w.heap.size + 1, 1, none⟩ = some (.slice ae k ce) ∧ w'.cell? ⟨w.heap.size + 1, 2, none⟩ = some (.slice al nl cl)) (by kernel_rfl) ⟨m0, m1, m2, n0, n1, n2⟩ (fun hS => ?_)
      refine tkH 0 rfl hS ?_
      refine tkH 1 rfl hS ?_
      refine tkH 3 rfl hS ?_
      refine tkH 4 rfl hS ?_
      refine tkH 5 rfl hS ?_
      refine tkH 6 rfl hS ?_
      refine wpAnyH_oneD (i := 2) rfl (by kernel_rfl) (fun K hK => ?_)
      go_simp
      rw [HWD.out]
      refine HWI.out.mono ?_
      rintro e w5 ⟨ai1, ni1, ci1, ae1, ne1, ce1, al1, nl1, cl2, rfl, hG1, hb5', hO1⟩
      have hb5 : Below wr.heap.size wr w5 := hbd.trans (hb5'.mono hsd)
      obtain ⟨M1, M2, M3⟩ := hG1.lens
      have hne1 : ne1 = k := by rw [M2]; show (withinE E z1).length = k; rw [withinE_len, ← HLE.out]
      have hni1 : ni1 = 0 := M1
      have hnl1 : nl1 = 0 := M3
      subst hni1 hnl1 hne1
      clear hb5' M1 M2 M3 hO1
      dsimp only
      refine hK.out _ _ ⟨(hb5.cell (p := ⟨w.heap.size, 0, none⟩) hwl).trans m0, (hb5.cell (p := ⟨w.heap.size, 1, none⟩) hwl).trans m1, (hb5.cell (p := ⟨w.heap.size, 2, none⟩) hwl).trans m2, (hb5.cell (p := ⟨w.heap.size + 1, 0, none⟩) hwl1).trans n0, (hb5.cell (p := ⟨w.heap.size + 1, 1, none⟩) hwl1).trans n1, (hb5.cell (p := ⟨w.heap.size + 1, 2, none⟩) hwl1).trans n2⟩ (fun hS => ?_)
      clear hK
      try simp only [Act.put, List.setIfInBounds_toArray, List.set_cons_zero, List.set_cons_succ]
      refine wpAnyH_oneD (i := 7) rfl (by kernel_rfl) (fun K hK => ?_)
      go_simp
      have hz5 := hb5.size
      refine (HLI.out z1 Al cl1 ((j : Int) - 1) w5 w5.heap.size ((HH.out.below (hb0x.trans (hb5.mono hszx)) (by omega)).up (by omega)) ((HSL.out.below hb5 (Nat.le_refl _)).up hz5) ((HO.out.below (hb0x.trans (hb5.mono hszx)) (by omega)).up (by omega)) HZ1N.out (Nat.le_refl _) (by omega) (by omega)).mono ?_
      rintro e w6 ⟨v6, rfl, hO6, hb6', -⟩
      obtain ⟨A6, c6, rfl, hs6⟩ := own_sl hO6
      have hb6 : Below wr.heap.size wr w6 := hb5.trans (hb6'.mono hz5)
      have hG6 := (hG1.below hb6' (Nat.le_refl _)).up hb6'.size
      clear hb6' hO6
      dsimp only
      refine hK.out _ _ ⟨(hb6.cell (p := ⟨w.heap.size, 0, none⟩) hwl).trans m0, (hb6.cell (p := ⟨w.heap.size, 1, none⟩) hwl).trans m1, (hb6.cell (p := ⟨w.heap.size, 2, none⟩) hwl).trans m2, (hb6.cell (p := ⟨w.heap.size + 1, 0, none⟩) hwl1).trans n0, (hb6.cell (p := ⟨w.heap.size + 1, 1, none⟩) hwl1).trans n1, (hb6.cell (p := ⟨w.heap.size + 1, 2, none⟩) hwl1).trans n2⟩ (fun hS => ?_)
      clear hK
      try simp only [Act.put, List.setIfInBounds_toArray, List.set_cons_zero, List.set_cons_succ]
      refine wpAnyH_oneD (i := 8) rfl (by kernel_rfl) (fun K hK => ?_)
      go_simp
      refine (behind30_any ai1 ae1 al1 0 ci1 ne1 ce1 0 cl2 ⟨[], withinE E z1, []⟩ (goalZ z1 (askL a l ((j : Int) - 1))) A6 c6 w6 w6.heap.size hG6 hs6 (by rw [goalZ_len]; exact HZ1N.out) HWE.out (Nat.le_refl _) (by omega) (by omega) hne KB HWK.out hKB hKB2).mono ?_
      rintro e w7 ⟨v7, rfl, hO7, hb7', hnn7'⟩
      have hnn7 : v7 ≠ .slice none 0 0 := fun h => hnn7'.1 h
      have hb7 : Below wr.heap.size wr w7 := hb6.trans (hb7'.mono hb6.size)
      clear hb7' hnn7' hG6 hs6 hG1
      dsimp only
      refine hK.out _ _ ⟨(hb7.cell (p := ⟨w.heap.size, 0, none⟩) hwl).trans m0, (hb7.cell (p := ⟨w.heap.size, 1, none⟩) hwl).trans m1, (hb7.cell (p := ⟨w.heap.size, 2, none⟩) hwl).trans m2, (hb7.cell (p := ⟨w.heap.size + 1, 0, none⟩) hwl1).trans n0, (hb7.cell (p := ⟨w.heap.size + 1, 1, none⟩) hwl1).trans n1, (hb7.cell (p := ⟨w.heap.size + 1, 2, none⟩) hwl1).trans n2⟩ (fun hS => ?_)
      clear hK
      try simp only [Act.put, List.setIfInBounds_toArray, List.set_cons_zero, List.set_cons_succ]
      refine tkH 9 rfl hS ?_
      refine wpAnyH_done (by kernel_rfl) ?_ _
      have HO4 := Lib.hid (own_base hO7 (show gq ≤ w6.heap.size by have := hb6.size; omega))
      have HB4 := Lib.hid (hbx.trans (hb7.mono hbx.size))
      clear hO7 hb5 hb6 hb7 m0 m1 m2 n0 n1 n2
      go_wp2_with fail
      go_roundw
      case rel => exact ⟨j + 1, _, by omega, (by congr 1; omega), HO4.out, hnn7, Lib.hid (by rw [HRS.out, HZ1N.out, ← behE_step]), HB4.out⟩
      case measure => simp [intOf]; omega
     ·have hjT : j = T + 1 := by omega
      subst hjT
      have hlt' : ¬ (((T + 1 : Nat) : Int) - 1) < (T : Int) := by omega
      have hz1e : z1 = roundZ E (asksL a l) z := by
       have := HZ1.out
       rwa [List.take_of_length_le (by rw [HASL.out]; exact Nat.le_refl _)] at this
      have HZR := Lib.hid hz1e
      obtain ⟨wx, hwx⟩ : ∃ wx : World, wx = wr := ⟨_, rfl⟩
      rw [← hwx] at hO1 hsl hbx hb0x hszx m0 m1 m2 n0 n1 n2 ⊢
      have HO1 := Lib.hid hO1
      have HSL := Lib.hid hsl
      have HSX := Lib.hid (HSZ.out.below hbx (Nat.le_refl _))
      have HOX := Lib.hid (own_tch HOW.out (Tch.of_below hbx) (fun g hg => by have := (HOW.out.lt g hg).2; omega))
      have hpx := hbx.size
      have HZ1N := Lib.hid hz1n
      clear hO1 hsl x1 y1 hz1e hwx hwl hwl1 hlt hz1n
      go_wp2_with fail
      go_loopw [11, 12] (fun u v wr => ∃ i m : Nat, i ≤ k ∧ u = .bool ((List.range i).any (fun i => z.getD i false != z1.getD i false)) ∧ v = .int .i64 i ∧ wr = wx.drewN m) (fun _ v _ => k - (intOf v).toNat)
      case atStart => exact ⟨0, 0, by omega, rfl, rfl, rfl⟩
      case round =>
       obtain ⟨i, m, hi, rfl, rfl, rfl⟩ := hrel
       by_cases hik : i < k
       ·have hik' : (i : Int) < (k : Int) := by omega
        have hi0 : (0 : Int) ≤ (i : Int) := by omega
        obtain ⟨ba, oa, rfl, hba, hca⟩ := HSX.out.rd.at_ (bcells'_at (l := z) (i := i) (by rw [← HZN.out]; exact hik))
        obtain ⟨bb, ob, rfl, hbb, hcb⟩ := HSL.out.rd.at_ (bcells'_at (l := z1) (i := i) (by rw [← HZ1N.out]; exact hik))
        have hsn : (List.range (i + 1)).any (fun i => z.getD i false != z1.getD i false) = ((List.range i).any (fun i => z.getD i false != z1.getD i false) || (z.getD i false != z1.getD i false)) := by
         rw [List.range_succ, List.any_append]; simp
        have HSN := Lib.hid hsn
        have wi : IntKind.i64.wrap ((i : Int) + 1) = i + 1 := by rw [IntKind.wrap_i64]; omega
        clear hsn
        generalize (List.range i).any (fun i => z.getD i false != z1.getD i false) = b0 at *
        generalize z.getD i false = v1 at *
        generalize z1.getD i false = v2 at *
        cases b0
        ·go_wp2_with fail
         go_quiet (fail)
         go_wp2
         go_roundw
         case rel => exact ⟨i + 1, _, by omega, by rw [HSN.out, Bool.false_or]; cases v1 <;> cases v2 <;> rfl, by go_num, by first | rfl | rw [World.drewN_drewN]⟩
         case measure => simp [intOf]; omega
        ·go_wp2_with fail
         go_quiet (fail)
         go_wp2
         go_roundw
         case rel => exact ⟨i + 1, _, by omega, by rw [HSN.out, Bool.true_or], by go_num, by first | rfl | rw [World.drewN_drewN]⟩
         case measure => simp [intOf]; omega
       ·have hik2 : i = k := by omega
        subst hik2
        cases hls : (List.range i).any (fun i => z.getD i false != z1.getD i false)
        ·have hzz : z = z1 := list_eqB (by rw [← HZN.out, ← HZ1N.out]) (by rw [← HZN.out]; exact hls)
         have HGF : Hid (Gfp E (asksL a l) z) := Lib.hid (HI.out.done (by rw [← HZR.out, ← hzz]; exact SubB.refl z))
         clear hls hzz
         go_wp2_with fail
         go_ret
         exact ⟨z, HGF.out, _, rfl, own_base HOX.out (by omega), hb0.trans ((below_dd hb0x m 0).mono (by omega)), ⟨fun h => absurd h hnn1, False.elim⟩⟩
        ·have hcl : cntB z1 < gk := Nat.lt_of_lt_of_le (by rw [HZR.out]; exact cntB_round HI.out.1 (by rw [← HZR.out]; exact list_neB (by rw [← HZN.out]; exact hls))) HC.out
         have HI1 := Lib.hid (HI.out.round)
         rw [← HZR.out] at HI1
         clear hls
         go_wp2_with fail
         go_roundg (cntB z1)
         case measure => exact hcl
         case rel => exact ⟨z1, HO1.out, hnn2, HI1, Lib.hid (Nat.le_refl _), below_dd hb0x m 0⟩
end Go.Proofs.YtiebpncpdbnelaaDoor
