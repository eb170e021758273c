/- Texts that stand one behind the other, in one file. -/
import Derived.Test.YtiebpncpdbnelaaGreatDoorAt2
set_option maxHeartbeats 8000000
set_option maxRecDepth 100000
namespace Go.Proofs.YtiebpncpdbnelaaGreatDoor
theorem cntB_mono : ∀ {y z : List Bool}, y.length = z.length → SubB y z → cntB y ≤ cntB z ∧ (cntB y = cntB z → y = z)
 | [], [], _, _ => ⟨lR, fun _ => rfl⟩
 | [], _ :: _, h, _ => by simp at h
 | _ :: _, [], h, _ => by simp at h
 | a :: y, b :: z, h, hs => by
  obtain ⟨i1, i2⟩ := cntB_mono (y := y) (z := z) (by simpa using h) (fun i hi => by simpa [List.getD] using hs (i + 1) (by simpa [List.getD] using hi))
  have h0 : a = true → b = true := fun ha => by simpa using hs 0 (by simpa using ha)
  simp only [cntB, List.countP_cons] at i1 i2 ⊢
  cases a <;> cases b
  ·exact ⟨by simpa using i1, fun e => by rw [i2 (by simpa using e)]⟩
  ·refine ⟨?_, fun e => ?_⟩
   ·simp; omega
   ·simp at e; omega
  ·exact absurd (h0 rfl) (by decide)
  ·exact ⟨by simpa using i1, fun e => by rw [i2 (by simpa using e)]⟩
theorem cntB_round {E : List (List Nd)} {asks : List (Nat → Bool)} {z : List Bool} (hz : z.length = E.length) (h : roundZ E asks z ≠ z) : cntB (roundZ E asks z) < cntB z := by
 obtain ⟨h1, h2⟩ := cntB_mono (roundZ_len E asks z) (roundZ_sub asks hz)
 rcases Nat.lt_or_eq_of_le h1 with h3 | h3
 ·exact h3
 ·exact absurd (h2 h3) h
theorem cntB_all (n : Nat) : cntB (List.replicate n true) ≤ n := by have := cntB_le (List.replicate n true); simpa using this
theorem roundZ_snoc {E : List (List Nd)} {asks : List (Nat → Bool)} {z : List Bool} {k : Nat} (hk : k < asks.length) : roundZ E (asks.take (k + 1)) z = stepZ E (roundZ E (asks.take k) z) asks[k] := by
 rw [take_snoc asks k hk, roundZ, List.foldl_append]; rfl
theorem list_eqB {y z : List Bool} (hl : y.length = z.length) (h : (List.range y.length).any (fun i => y.getD i false != z.getD i false) = false) : y = z := by
 refine List.ext_getElem hl (fun i h1 h2 => ?_)
 rw [List.any_eq_false] at h
 have := h i (List.mem_range.2 h1)
 simpa [List.getD, h1, h2] using this
theorem list_neB {y z : List Bool} (h : (List.range y.length).any (fun i => y.getD i false != z.getD i false) = true) : z ≠ y := by
 rintro rfl
 rw [List.any_eq_true] at h
 obtain ⟨i, _, hi⟩ := h
 simp at hi
end Go.Proofs.YtiebpncpdbnelaaGreatDoor
namespace Go.Proofs.YtiebpncpdbnelaaGreatDoor
open Go.RowKit
def asksL (a : Aut) (l : List Nat) : List (Nat → Bool) := (List.range (a.sets.toNat + 1)).map (fun (j : Nat) => askL a l ((j : Int) - 1))
theorem all30_any (a : Aut) (Ai : Option Addr) (ni ci : Nat) (An : Option Addr) (nn cn : Nat) (E : List (List Nd)) (ai ae al : Option Addr) (gi di ne ce nl cl : Nat) (gI gL : List Int) (l : List Nat) (Ao : Option Addr) (co : Nat) (w : World) (B : Nat) (h : AutRd w B a Ai ni ci An nn cn)
  (hG : GrRd w B ai gi di ae ne ce al nl cl ⟨gI, E, gL⟩) (ho : Sl w B 1 Ao ne co (icells (natI l))) (hn : ne = l.length) (hB : B ≤ w.1.size) (hl : ∀ x ∈ l, x < nn) (hin : ∀ r ∈ E, ∀ e ∈ r, isNd ne e.op = true) (hs0 : 0 ≤ a.sets) (hs : a.sets ≤ 16) (hne : ne ≤ 65536) (hnn : nn ≤ 1000000) (KB : Nat) (hr : ∀ r ∈ E, r.length ≤ KB) (hKB : ne * KB ≤ 1000000000) (hKB2 : KB ≤ 1000000000) :
  Calls Tryz.prog 60 #[.agg #[.int .i64 a.sets, .slice Ai ni ci, .slice An nn cn], .agg #[.slice ai gi di, .slice ae ne ce, .slice al nl cl], .slice Ao ne co] w (fun e w' => ∃ zg, Gfp E (asksL a l) zg ∧ NewRow w 4 1 ne (bcells zg) False e w') := by
 obtain ⟨T, hT⟩ : ∃ T : Nat, a.sets = (T : Int) := ⟨a.sets.toNat, by omega⟩
 have hasl : (asksL a l).length = T + 1 := by simp [asksL, hT]
 have hask : ∀ k (hk : k < (asksL a l).length), (asksL a l)[k] = askL a l ((k : Int) - 1) := fun k hk => by simp [asksL]
 have hT16 : T ≤ 16 := by omega
 have HLI := dh (fun (z : List Bool) (Az : Option Addr) (cz : Nat) (i : Int) (w' : World) (B' : Nat) (h' : AutRd w' B' a Ai ni ci An nn cn) (hz' : Sl w' B' 1 Az ne cz (z.map .bool)) (ho' : Sl w' B' 1 Ao ne co (icells (natI l))) (hz : ne = z.length) (hB' : B' ≤ w'.1.size) (hi : i ≤ 63) (hi0 : -1 ≤ i) => lies30_any a Ai ni ci An nn cn z Az ne cz l Ao co i w' B' h' hz' ho' hz hn hB' hl hi hi0 (by omega) hnn)
 rw [hT] at HLI ⊢
 obtain ⟨hb0, x0, y0, z0⟩ := two_new w (.cells #[.int .i64 (T : Int), .slice Ai ni ci, .slice An nn cn] 25) (.cells #[.slice ai gi di, .slice ae ne ce, .slice al nl cl] 55)
 obtain ⟨W0, hW0⟩ := xQ ((w.alloc (.cells #[.int .i64 (T : Int), .slice Ai ni ci, .slice An nn cn] 25)).alloc (.cells #[.slice ai gi di, .slice ae ne ce, .slice al nl cl] 55))
 rw [hW0] at hb0 x0 y0 z0
 have HW0 := dh hW0
 have HLE : Hid (ne = E.length) := dh hG.lens.2.1
 have hmk := run_make_row' (P := Tryz.prog) 48 4 (.bool false) 1 Tryz.underlying48 infoBool rfl .i64 .i64 ne (by omega) (by omega)
 have HH := dh (h.below hb0 hB)
 have HG := dh (hG.below hb0 hB)
 have HO := dh (ho.below hb0 hB)
 have HIN := dh hin
 have HR := dh hr
 have HX0 := dh x0
 have HY0 := dh y0
 have HASL := dh hasl
 have HASK := dh hask
 have hBs : B ≤ W0.1.size := by omega
 clear hW0 h hG ho hin hr x0 y0 hasl hask hn hl hT hs0 hs
 go_enter Tryz.func60, Tryz.ntmps60
 go_wp2_with fail
 obtain ⟨gq, hgq⟩ := xR (w.1.size + 1 + 1)
 have hF0 : ∃ W, W = (W0.alloc (.cells (madeCells #[.bool false] ne) 4)) ∧ W.ownsRow gq 4 1 (.slice (some ⟨gq, 0, none⟩) ne ne) ne (bcells ((List.range 0).map (fun _ => true) ++ List.replicate (ne - 0) false)) ∧ Below gq W0 W := by
  refine ⟨_, rfl, ?_, bR.alloc (by rw [hgq]; omega) _⟩
  have := own_made (w := W0) (base := gq) (e := 4) (n := ne) (v := .bool false) (by rw [hgq]; omega) (by unfold maxLen; omega)
  rw [z0, ← hgq] at this
  simpa [bcells] using this
 obtain ⟨W, hW, hown, hbW⟩ := hF0
 rw [HW0.out, ← hgq, ← hW]
 have hgq1 : w.1.size + 2 ≤ gq := by omega
 have hgq2 : gq ≤ w.1.size + 2 := by omega
 clear hW hmk hgq
 go_loopw [8] (fun v wr => ∃ k : Nat, k ≤ ne ∧ v = .int .i64 k ∧ wr.ownsRow gq 4 1 (.slice (some ⟨gq, 0, none⟩) ne ne) ne (bcells ((List.range k).map (fun _ => true) ++ List.replicate (ne - k) false)) ∧ Below gq W0 wr) (fun v _ => ne - (intOf v).toNat)
 case atStart => exact ⟨0, by omega, rfl, hown, hbW⟩
 case round =>
  obtain ⟨k, hk, rfl, hR, hbr⟩ := hrel
  clear hown
  by_cases hlt : k < ne
  ·have j0 : (0 : Int) ≤ (k : Int) := by omega
   have j1 : (k : Int) < (ne : Int) := by omega
   obtain ⟨q6, f6, g6, _⟩ := own_getB hR hlt
   have h1 := own_setB (t := k) (d := true) hR
   have hrs := row_setB hlt (fun _ => true) false
   rw [hrs] at h1
   have H1 := dh h1
   have hb1 := hbr.setCell (p := ⟨gq, k, none⟩) lR (.bool true)
   have HB1 := dh hb1
   have wk : IntKind.i64.wrap ((k : Int) + 1) = k + 1 := by rw [wI]; omega
   clear h1 hrs hb1 hR
   go_wp2_with fail
   go_roundw
   case rel => exact ⟨k + 1, by omega, by go_num, H1.out, HB1.out⟩
   case measure => simp [intOf]; omega
  ·have hkn : k = ne := by omega
   subst hkn
   have hfin : (List.range k).map (fun _ => true) ++ List.replicate (k - k) false = List.replicate k true := by
    rw [Nat.sub_self, List.replicate_zero, List.append_nil]
    refine List.ext_getElem (by simp) (fun i h1 h2 => by simp)
   rw [hfin] at hR
   obtain ⟨wf, hwf⟩ : ∃ wf : World, wf = wr := ⟨_, rfl⟩
   rw [← hwf] at hR hbr ⊢
   have HR0 := dh hR
   have HI0 : Hid (GInv E (asksL a l) (List.replicate k true)) := dh (by have := GInv.start E (asksL a l); rwa [← HLE.out] at this)
   have hzf : gq ≤ wf.1.size := by have := hbr.size; omega
   clear hR hfin hwf
   go_wp2_with fail
   go_loopg [7] k (fun gk u wr => ∃ z : List Bool, wr.ownsRow gq 4 1 u k (bcells z) ∧ u ≠ .slice none 0 0 ∧ Hid (GInv E (asksL a l) z) ∧ Hid (cntB z ≤ gk) ∧ Below gq W0 wr)
   case atStart => exact ⟨List.replicate k true, HR0.out, by simp, HI0, dh (cntB_all k), hbr⟩
   case round =>
    clear HR0 HI0 hzf hbr
    obtain ⟨z, hO, hnn1, HI, HC, hbr⟩ := hrel
    obtain ⟨wp, hwp⟩ : ∃ wp : World, wp = wr := ⟨_, rfl⟩
    rw [← hwp] at hO hbr ⊢
    obtain ⟨Az, cz, rfl, hsz⟩ := own_sl hO
    have hzn : k = z.length := by have := hO.1; simpa [bcells] using this.symm
    have hszr : gq ≤ wp.1.size := by have := hbr.size; omega
    have HZN := dh hzn
    have HOW := dh hO
    have HSZ := dh hsz
    clear hzn hO hsz hwp
    go_wp2_with fail
    go_loopw [9, 10] (fun u v wr => ∃ (j : Nat) (z1 : List Bool), j ≤ T + 1 ∧ v = .int .i64 ((j : Int) - 1) ∧ wr.ownsRow gq 4 1 u k (bcells z1) ∧ u ≠ .slice none 0 0 ∧ Hid (z1 = roundZ E ((asksL a l).take j) z) ∧ Below wp.1.size wp wr) (fun _ v _ => T + 1 - (intOf v + 1).toNat)
    case atStart => exact ⟨0, z, by omega, rfl, HOW.out, hnn1, dh rfl, bR⟩
    case round =>
     obtain ⟨j, z1, hj, rfl, hO1, hnn2, HZ1, hbx⟩ := hrel
     obtain ⟨Al, cl1, rfl, hsl⟩ := own_sl hO1
     have hz1n : k = z1.length := by have := hO1.1; simpa [bcells] using this.symm
     have hb0x : Below gq W0 wr := hbr.trans (hbx.mono hszr)
     have hszx : gq ≤ wr.1.size := by have := hbx.size; omega
     have x1 := (hb0x.block w.1.size (by omega)).trans HX0.out
     have y1 := (hb0x.block (w.1.size + 1) (by omega)).trans HY0.out
     obtain ⟨m0, m1, m2⟩ := box3A x1
     obtain ⟨n0, n1, n2⟩ := box3A y1
     have hwl : w.1.size < wr.1.size := by omega
     have hwl1 : w.1.size + 1 < wr.1.size := by omega
     by_cases hlt : j < T + 1
     ·have hlt' : ((j : Int) - 1) < (T : Int) := by omega
      have wj : IntKind.i64.wrap ((j : Int) - 1 + 1) = ((j + 1 : Nat) : Int) - 1 := by rw [wI]; omega
      have hja : j < (asksL a l).length := by rw [HASL.out]; exact hlt
      have hrs : roundZ E ((asksL a l).take (j + 1)) z = stepZ E z1 (askL a l ((j : Int) - 1)) := by rw [roundZ_snoc hja, ← HZ1.out, HASK.out j hja]
      have HRS := dh hrs
      have hbd : Below wr.1.size wr wr.drew := Below.drew bR
      obtain ⟨wd, hwd⟩ := xQ wr.drew
      rw [hwd] at hbd
      have HWD := dh hwd
      have hsd := hbd.size
      have hb0d : Below gq W0 wd := hb0x.trans (hbd.mono hszx)
      have HWI := dh (within30_any ai ae al gi di k ce nl cl ⟨gI, E, gL⟩ z1 Al cl1 wd wr.1.size ((HG.out.below hb0d (by omega)).up (by omega)) (hsl.below hbd lR) hz1n hsd (by omega) KB HIN.out HR.out (by omega))
      have HSL := dh hsl
      have HZ1N := dh hz1n
      have hwE : ∀ r ∈ withinE E z1, ∀ e ∈ r, isNd k e.op = true := fun r hr e he => by
       obtain ⟨i, hi, rfl⟩ := List.mem_map.1 hr
       split at he
       ·have hm := (List.mem_filter.1 he).1
        rw [List.mem_range] at hi
        simp only [List.getD, gE hi, Option.getD_some] at hm
        exact HIN.out _ (mM hi) e hm
       ·cases he
      have hwK : ∀ r ∈ withinE E z1, r.length ≤ KB := fun r hr => by
       obtain ⟨i, hi, rfl⟩ := List.mem_map.1 hr
       split
       ·refine Nat.le_trans (List.length_filter_le _ _) ?_
        rw [List.mem_range] at hi
        simp only [List.getD, gE hi, Option.getD_some]
        exact HR.out _ (mM hi)
       ·simp
      have HWE := dh hwE
      have HWK := dh hwK
      clear hwE hwK hwd hsl hO1 x1 y1 hrs hz1n
      go_wp2_with fail
      refine wp_region_held_drew (S := fun w' => w'.cell? ⟨w.1.size, 0, none⟩ = some (.int .i64 (T : Int)) ∧ w'.cell? ⟨w.1.size, 1, none⟩ = some (.slice Ai ni ci) ∧ w'.cell? ⟨w.1.size, 2, none⟩ = some (.slice An nn cn) ∧ w'.cell? ⟨w.1.size + 1, 0, none⟩ = some (.slice ai gi di) ∧ w'.cell? ⟨w.1.size + 1, 1, none⟩ = some (.slice ae k ce) ∧ w'.cell? ⟨w.1.size + 1, 2, none⟩ = some (.slice al nl cl)) (by kernel_rfl) ⟨m0, m1, m2, n0, n1, n2⟩ (fun hS => ?_)
      refine tkH 0 ?_
      refine tkH 1 ?_
      refine tkH 3 ?_
      refine tkH 4 ?_
      refine tkH 5 ?_
      refine tkH 6 ?_
      refine oneH 2 (fun K hK => ?_)
      go_simp
      rw [HWD.out]
      refine HWI.out.mono ?_
      rintro e w5 ⟨ai1, ni1, ci1, ae1, ne1, ce1, al1, nl1, cl2, rfl, hG1, hb5', hO1⟩
      have hb5 : Below wr.1.size wr w5 := hbd.trans (hb5'.mono hsd)
      obtain ⟨M1, M2, M3⟩ := hG1.lens
      have hne1 : ne1 = k := by rw [M2]; show (withinE E z1).length = k; rw [withinE_len, ← HLE.out]
      have hni1 : ni1 = 0 := M1
      have hnl1 : nl1 = 0 := M3
      subst hni1 hnl1 hne1
      clear hb5' M1 M2 M3 hO1
      dsimp only
      refine hK.out _ _ ⟨bC hb5 hwl m0, bC hb5 hwl m1, bC hb5 hwl m2, bC hb5 hwl1 n0, bC hb5 hwl1 n1, bC hb5 hwl1 n2⟩ (fun hS => ?_)
      clear hK
      refine oneH 7 (fun K hK => ?_)
      go_simp
      have hz5 := hb5.size
      refine (HLI.out z1 Al cl1 ((j : Int) - 1) w5 w5.1.size ((HH.out.below (hb0x.trans (hb5.mono hszx)) (by omega)).up (by omega)) ((HSL.out.below hb5 lR).up hz5) ((HO.out.below (hb0x.trans (hb5.mono hszx)) (by omega)).up (by omega)) HZ1N.out lR (by omega) (by omega)).mono ?_
      rintro e w6 ⟨v6, rfl, hO6, hb6', -⟩
      obtain ⟨A6, c6, rfl, hs6⟩ := own_sl hO6
      have hb6 : Below wr.1.size wr w6 := hb5.trans (hb6'.mono hz5)
      have hG6 := (hG1.below hb6' lR).up hb6'.size
      clear hb6' hO6
      dsimp only
      refine hK.out _ _ ⟨bC hb6 hwl m0, bC hb6 hwl m1, bC hb6 hwl m2, bC hb6 hwl1 n0, bC hb6 hwl1 n1, bC hb6 hwl1 n2⟩ (fun hS => ?_)
      clear hK
      refine oneH 8 (fun K hK => ?_)
      go_simp
      refine (behind30_any ai1 ae1 al1 0 ci1 ne1 ce1 0 cl2 ⟨[], withinE E z1, []⟩ (goalZ z1 (askL a l ((j : Int) - 1))) A6 c6 w6 w6.1.size hG6 hs6 (by rw [goalZ_len]; exact HZ1N.out) HWE.out lR (by omega) (by omega) hne KB HWK.out hKB hKB2).mono ?_
      rintro e w7 ⟨v7, rfl, hO7, hb7', hnn7'⟩
      have hnn7 : v7 ≠ .slice none 0 0 := fun h => hnn7'.1 h
      have hb7 : Below wr.1.size wr w7 := hb6.trans (hb7'.mono hb6.size)
      clear hb7' hnn7' hG6 hs6 hG1
      dsimp only
      refine hK.out _ _ ⟨bC hb7 hwl m0, bC hb7 hwl m1, bC hb7 hwl m2, bC hb7 hwl1 n0, bC hb7 hwl1 n1, bC hb7 hwl1 n2⟩ (fun hS => ?_)
      clear hK
      refine tkH 9 ?_
      refine wpAnyH_done (by kernel_rfl) ?_ _
      have HO4 := dh (own_base hO7 (show gq ≤ w6.1.size by have := hb6.size; omega))
      have HB4 := dh (hbx.trans (hb7.mono hbx.size))
      clear hO7 hb5 hb6 hb7 m0 m1 m2 n0 n1 n2
      go_wp2_with fail
      go_roundw
      case rel => exact ⟨j + 1, _, by omega, (by congr 1; omega), HO4.out, hnn7, dh (by rw [HRS.out, HZ1N.out, ← behE_step]), HB4.out⟩
      case measure => simp [intOf]; omega
     ·have hjT : j = T + 1 := by omega
      subst hjT
      have hlt' : ¬ (((T + 1 : Nat) : Int) - 1) < (T : Int) := by omega
      have hz1e : z1 = roundZ E (asksL a l) z := by
       have := HZ1.out
       rwa [tL (by rw [HASL.out]; exact lR)] at this
      have HZR := dh hz1e
      obtain ⟨wx, hwx⟩ : ∃ wx : World, wx = wr := ⟨_, rfl⟩
      rw [← hwx] at hO1 hsl hbx hb0x hszx m0 m1 m2 n0 n1 n2 ⊢
      have HO1 := dh hO1
      have HSL := dh hsl
      have HSX := dh (HSZ.out.below hbx lR)
      have HOX := dh (own_tch HOW.out (Tch.of_below hbx) (fun g hg => by have := (HOW.out.lt g hg).2; omega))
      have hpx := hbx.size
      have HZ1N := dh hz1n
      clear hO1 hsl x1 y1 hz1e hwx hwl hwl1 hlt hz1n
      go_wp2_with fail
      go_loopw [11, 12] (fun u v wr => ∃ i m : Nat, i ≤ k ∧ u = .bool ((List.range i).any (fun i => z.getD i false != z1.getD i false)) ∧ v = .int .i64 i ∧ wr = wx.drewN m) (fun _ v _ => k - (intOf v).toNat)
      case atStart => exact ⟨0, 0, by omega, rfl, rfl, rfl⟩
      case round =>
       obtain ⟨i, m, hi, rfl, rfl, rfl⟩ := hrel
       by_cases hik : i < k
       ·have hik' : (i : Int) < (k : Int) := by omega
        have hi0 : (0 : Int) ≤ (i : Int) := by omega
        obtain ⟨ba, oa, rfl, hba, hca⟩ := HSX.out.rd.at_ (bcells'_at (l := z) (i := i) (by rw [← HZN.out]; exact hik))
        obtain ⟨bb, ob, rfl, hbb, hcb⟩ := HSL.out.rd.at_ (bcells'_at (l := z1) (i := i) (by rw [← HZ1N.out]; exact hik))
        have hsn : (List.range (i + 1)).any (fun i => z.getD i false != z1.getD i false) = ((List.range i).any (fun i => z.getD i false != z1.getD i false) || (z.getD i false != z1.getD i false)) := by
         rw [List.range_succ, List.any_append]; simp
        have HSN := dh hsn
        have wi : IntKind.i64.wrap ((i : Int) + 1) = i + 1 := by rw [wI]; omega
        clear hsn
        generalize (List.range i).any (fun i => z.getD i false != z1.getD i false) = b0 at *
        generalize z.getD i false = v1 at *
        generalize z1.getD i false = v2 at *
        cases b0
        ·go_wp2_with fail
         go_quiet (fail)
         go_wp2
         go_roundw
         case rel => exact ⟨i + 1, _, by omega, by rw [HSN.out, Bool.false_or]; cases v1 <;> cases v2 <;> rfl, by go_num, by first | rfl | rw [World.drewN_drewN]⟩
         case measure => simp [intOf]; omega
        ·go_wp2_with fail
         go_quiet (fail)
         go_wp2
         go_roundw
         case rel => exact ⟨i + 1, _, by omega, by rw [HSN.out, Bool.true_or], by go_num, by first | rfl | rw [World.drewN_drewN]⟩
         case measure => simp [intOf]; omega
       ·have hik2 : i = k := by omega
        subst hik2
        cases hls : (List.range i).any (fun i => z.getD i false != z1.getD i false)
        ·have hzz : z = z1 := list_eqB (by rw [← HZN.out, ← HZ1N.out]) (by rw [← HZN.out]; exact hls)
         have HGF : Hid (Gfp E (asksL a l) z) := dh (HI.out.done (by rw [← HZR.out, ← hzz]; exact SubB.refl z))
         clear hls hzz
         go_wp2_with fail
         go_ret
         exact ⟨z, HGF.out, _, rfl, own_base HOX.out (by omega), hb0.trans ((below_dd hb0x m 0).mono (by omega)), ⟨fun h => absurd h hnn1, False.elim⟩⟩
        ·have hcl : cntB z1 < gk := Nat.lt_of_lt_of_le (by rw [HZR.out]; exact cntB_round HI.out.1 (by rw [← HZR.out]; exact list_neB (by rw [← HZN.out]; exact hls))) HC.out
         have HI1 := dh (HI.out.round)
         rw [← HZR.out] at HI1
         clear hls
         go_wp2_with fail
         go_roundg (cntB z1)
         case measure => exact hcl
         case rel => exact ⟨z1, HO1.out, hnn2, HI1, dh lR, below_dd hb0x m 0⟩
end Go.Proofs.YtiebpncpdbnelaaGreatDoor
namespace Go.Proofs.YtiebpncpdbnelaaGreatDoor
open Go.RowKit
def upT {α : Type} (n : Nat) (f : Nat → α) (d : α) (m : Nat) : List α := (List.range n).map fun i => if i < m then f i else d
section
variable {α : Type} {n m : Nat} {f : Nat → α} {d : α}
theorem upT_len : (upT n f d m).length = n := by simp [upT]
theorem upT_zero : upT n f d 0 = List.replicate n d := by
 refine List.ext_getElem (by simp [upT]) (fun i h1 h2 => by simp [upT])
theorem upT_set : (upT n f d m).set m (f m) = upT n f d (m + 1) := by
 refine List.ext_getElem (by simp [upT]) (fun i h1 h2 => ?_)
 rw [List.getElem_set]
 simp only [upT, List.getElem_map, List.getElem_range]
 by_cases e : m = i
 ·subst e; simp
 ·rw [if_neg e]
  by_cases e2 : i < m
  ·rw [if_pos e2, if_pos (by omega)]
  ·rw [if_neg e2, if_neg (by omega)]
theorem upT_at : (upT n f d m).set m d = upT n f d m := by
 refine List.ext_getElem (by simp) (fun i h1 h2 => ?_)
 rw [List.getElem_set]
 split
 ·rename_i e; subst e; simp [upT]
 ·rfl
theorem upT_full : upT n f d n = (List.range n).map f := by
 refine List.map_congr_left (fun i hi => ?_)
 rw [if_pos (List.mem_range.1 hi)]
end
section
variable {a : Aut} {W : List Nat} {lp : Nat}
end
end Go.Proofs.YtiebpncpdbnelaaGreatDoor
