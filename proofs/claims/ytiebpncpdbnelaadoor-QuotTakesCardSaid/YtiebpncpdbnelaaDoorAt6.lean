/- The walk of layer 30's reference: Takes. -/
import Derived.Test.YtiebpncpdbnelaaDoorTkP
import Derived.Test.YtiebpncpdbnelaaDoorZbk
set_option maxHeartbeats 16000000
set_option maxRecDepth 100000
namespace Go.Proofs.YtiebpncpdbnelaaDoor
open Go.RowKit
theorem takes30L_any (a : Aut) (Ai : Option Addr) (ni ci : Nat) (An : Option Addr) (nn cn : Nat) (A1 A2 : Option Addr) (n1 c1 n2 c2 : Nat) (st lo : List Int) (W : List Nat) (w : World) (B : Nat) (h : AutRd w B a Ai ni ci An nn cn) (hw : WRd w B A1 A2 n1 c1 n2 c2 st lo) (hB : B ≤ w.1.size)
  (hck : chkA a = 0) (h2 : 0 < n2) (hl : n1 + n2 ≤ 2000) (hNE : nn * (n1 + n2) ≤ 65536) (hW : n1 + n2 = W.length) (hat : ∀ k, k < W.length → atW st lo (k : Int) = ((W.getD k 0 : Nat) : Int)) (h64 : ∀ k, W.getD k 0 < 2 ^ 64) (hnd : ∀ x ∈ a.nodes, x.need < 2 ^ 64 ∧ x.ban < 2 ^ 64) (KB : Nat) (hr : ∀ x ∈ a.nodes, x.to.length ≤ KB) (hri : a.init.length ≤ KB) (hKB : nn * (n1 + n2) * KB ≤ 1000000000) (hKB2 : KB ≤ 1000000000) :
  Calls Tryd.prog 20 #[.agg #[.int .i64 a.sets, .slice Ai ni ci, .slice An nn cn], .agg #[.slice A1 n1 c1, .slice A2 n2 c2]] w (fun e w' => ∃ z, Gfp (prodE a W n1) (asksA a W.length) z ∧ Tru w (takesB a W z) e w') := by
 obtain ⟨hn256, hs0, hs16, hA⟩ := chkA_of hck
 have hnn := h.enn
 rw [← hnn] at hn256
 obtain ⟨L, hL⟩ := xR (n1 + n2)
 obtain ⟨ne, hne⟩ := xR (nn * L)
 have hne1 : ne ≤ 65536 := by rw [hne, hL]; exact hNE
 have hmul : IntKind.i64.wrap ((nn : Int) * (L : Int)) = (ne : Int) := by rw [hne]; exact mulI (by omega) (by omega)
 have HCK := dh (fun (w' : World) (h' : AutRd w' B a Ai ni ci An nn cn) (hB' : B ≤ w'.1.size) => hck ▸ chkR_any a Ai ni ci An nn cn w' B h' hB')
 have HWC : Hid (∀ w' : World, Calls Tryd.prog 34 #[.agg #[.slice A1 n1 c1, .slice A2 n2 c2]] w' (Num w' 0)) := dh (fun w' => by have := rCheck_any A1 A2 n1 c1 n2 c2 st lo w' hw.l1 hw.l2 (by omega); rwa [if_neg (by omega)] at this)
 have HWL : Hid (∀ w' : World, Calls Tryd.prog 35 #[.agg #[.slice A1 n1 c1, .slice A2 n2 c2]] w' (Num w' (L : Int))) := dh (fun w' => by have := rLen_any A1 A2 n1 c1 n2 c2 w' (by omega); rwa [← hL] at this)
 have HWA : Hid (∀ (k : Nat) (w' : World) (_ : WRd w' B A1 A2 n1 c1 n2 c2 st lo) (_ : B ≤ w'.1.size) (_ : k < L), Calls Tryd.prog 47 #[.agg #[.slice A1 n1 c1, .slice A2 n2 c2], .int .i64 (k : Int)] w' (NumU w' ((W.getD k 0 : Nat) : Int))) :=
  dh (fun k w' h' hB' hk => by have := rAt_any A1 A2 n1 c1 n2 c2 st lo (k : Int) w' B h' hB' (by omega) (by omega); rwa [hat k (by omega)] at this)
 have HRE := dh (fun (x : ANd) (hx : x ∈ a.nodes) (A : Option Addr) (n c k : Nat) (w' : World) => reads30_any x A n c (W.getD k 0) w' (hnd x hx).1 (hnd x hx).2 (h64 k))
 have HALL := dh (fun (ai ae al : Option Addr) (di ce nl cl : Nat) (gI gL : List Int) (Ao : Option Addr) (co : Nat) (w' : World) (B' : Nat) (h' : AutRd w' B' a Ai ni ci An nn cn) (hG : GrRd w' B' ai 0 di ae ne ce al nl cl ⟨gI, prodE a W n1, gL⟩) (ho : Sl w' B' 1 Ao ne co (icells (natI (ofN nn L)))) (hB' : B' ≤ w'.1.size) =>
  all30_any a Ai ni ci An nn cn (prodE a W n1) ai ae al 0 di ne ce nl cl gI gL (ofN nn L) Ao co w' B' h' hG ho (by simp [ofN, hne]) hB' ofN_lt (by rw [hne, hnn, hL, hW]; exact prodE_in hA (by omega)) hs0 hs16 (by omega) (by omega) KB (prodE_row hr) (by rw [hne, hL]; exact hKB) hKB2)
 have HGA : Hid (∀ z, Gfp (prodE a W n1) (asksL a (ofN nn L)) z → Gfp (prodE a W n1) (asksA a W.length) z) := dh (fun z hz => by rw [hnn, hL, hW] at hz; exact gfp_asks hz)
 have HNX : Hid (∀ q k, k < L → prodF a W n1 (q * L + k) = prodR a W n1 q k) := dh (fun q k hk => by rw [hL, hW] at hk ⊢; exact prodF_at hk)
 obtain ⟨RR, hRR⟩ : ∃ RR : Nat → List (List Nd), RR = fun m => upT ne (prodF a W n1) [] m := ⟨_, rfl⟩
 obtain ⟨FF, hFF⟩ : ∃ FF : Nat → List Int, FF = fun m => upT ne (fun m => ((m / L : Nat) : Int)) 0 m := ⟨_, rfl⟩
 have HR0 : Hid (List.replicate ne ([] : List Nd) = RR 0) := dh (by rw [hRR]; exact upT_zero.symm)
 have HF0 : Hid (List.replicate ne (0 : Int) = FF 0) := dh (by rw [hFF]; exact upT_zero.symm)
 have HRS : Hid (∀ m, (RR m).set m (prodF a W n1 m) = RR (m + 1)) := dh (fun m => by rw [hRR]; exact upT_set)
 have HRA : Hid (∀ m, (RR m).set m [] = RR m) := dh (fun m => by rw [hRR]; exact upT_at)
 have HRL : Hid (∀ m, (RR m).length = ne) := dh (fun m => by rw [hRR]; exact upT_len)
 have HRF : Hid (RR ne = prodE a W n1) := dh (by rw [hRR, hne, hnn, hL, hW]; exact prodE_up a W n1)
 have HFS : Hid (∀ N k, k < L → (FF (N * L + k)).set (N * L + k) (N : Int) = FF (N * L + k + 1)) := dh (fun N k hk => by
  have e := upT_set (n := ne) (m := N * L + k) (f := fun m => ((m / L : Nat) : Int)) (d := 0)
  rw [(idx_div (q := N) hk).1] at e
  rw [hFF]; exact e)
 have HFF : Hid (FF ne = natI (ofN nn L)) := dh (by rw [hFF, hne]; exact ofN_up nn L)
 clear hRR hFF
 obtain ⟨s, hs⟩ := xQ a.sets
 rw [hs] at HCK HALL ⊢
 obtain ⟨hb0, x0, y0, z0⟩ := two_new w (.cells #[.int .i64 s, .slice Ai ni ci, .slice An nn cn] 25) (.cells #[.slice A1 n1 c1, .slice A2 n2 c2] 29)
 obtain ⟨W0, hW0⟩ := xQ ((w.alloc (.cells #[.int .i64 s, .slice Ai ni ci, .slice An nn cn] 25)).alloc (.cells #[.slice A1 n1 c1, .slice A2 n2 c2] 29))
 rw [hW0] at hb0 x0 y0 z0
 have HW0 := dh hW0
 have HH := dh (h.below hb0 hB)
 have HW := dh (hw.below hb0 hB)
 have HAO := dh hA
 have HNN := dh hnn
 have HL := dh hL
 have HLW := dh hW
 have HNE := dh hne
 have HX0 := dh x0
 have HY0 := dh y0
 have hmk := run_make_row' (P := Tryd.prog) 60 63 (.slice none 0 0) 24 Tryd.underlying60 infoRowE rfl .i64 .i64 ne (by omega) (by omega)
 have hmk2 := run_make_row' (P := Tryd.prog) 22 3 (.int .i64 0) 8 Tryd.underlying22 infoInt rfl .i64 .i64 ne (by omega) (by omega)
 have hni := h.eni
 have hic := h.init.cap
 have hnk : ni ≤ KB := by rw [hni]; exact hri
 have HNI := dh hni
 have HKR := dh hr
 have hBs : B ≤ W0.1.size := by omega
 have hzw : W0.1.size = w.1.size + 2 := z0
 have hL0 : 0 < L := by omega
 have hL64 : L ≤ 2000 := by omega
 have HBX : Hid (∀ wr : World, Below W0.1.size W0 wr → (wr.cell? ⟨w.1.size, 0, none⟩ = some (.int .i64 s) ∧ wr.cell? ⟨w.1.size, 1, none⟩ = some (.slice Ai ni ci) ∧ wr.cell? ⟨w.1.size, 2, none⟩ = some (.slice An nn cn)) ∧ (wr.cell? ⟨w.1.size + 1, 0, none⟩ = some (.slice A1 n1 c1) ∧ wr.cell? ⟨w.1.size + 1, 1, none⟩ = some (.slice A2 n2 c2))) :=
  dh (fun wr hb => ⟨box3A ((hb.block w.1.size (by omega)).trans HX0.out), box2A ((hb.block (w.1.size + 1) (by omega)).trans HY0.out)⟩)
 have HSZ := dh hzw
 clear hNE hW0 h hw hck hat h64 hnd hr hri hic hKB x0 y0 z0 hs hW hL hne hA hnn hni hs0 hs16 hzw
 go_enter Tryd.func20, Tryd.ntmps20
 go_wp2_with fail
 rw [HW0.out]
 obtain ⟨⟨m0, m1, m2⟩, ⟨p0, p1⟩⟩ := HBX.out W0 bR
 go_wp2_with fail
 refine (HCK.out W0 HH.out hBs).mono ?_
 rintro e w1 ⟨rfl, hb1⟩
 clear m0 m1 m2 p0 p1
 obtain ⟨⟨m0, m1, m2⟩, ⟨p0, p1⟩⟩ := HBX.out w1 hb1
 go_wp2_with fail
 refine (HWC.out w1).mono ?_
 rintro e w2 ⟨rfl, hb2'⟩
 have hb2 : Below W0.1.size W0 w2 := hb1.trans (hb2'.mono hb1.size)
 clear m0 m1 m2 p0 p1 hb2' hb1
 obtain ⟨⟨m0, m1, m2⟩, ⟨p0, p1⟩⟩ := HBX.out w2 hb2
 go_wp2_with fail
 refine (HWL.out w2).mono ?_
 rintro e w3 ⟨rfl, hb3'⟩
 have hb3 : Below W0.1.size W0 w3 := hb2.trans (hb3'.mono hb2.size)
 clear m0 m1 m2 p0 p1 hb3' hb2
 obtain ⟨⟨m0, m1, m2⟩, ⟨p0, p1⟩⟩ := HBX.out w3 hb3
 go_wp2_with fail
 clear m0 m1 m2 p0 p1 hmk hmk2 HCK HWC HWL
 have hT := TW.start (w0 := w3) (ne := ne) (by omega)
 obtain ⟨wq, hwq⟩ := xR ((w3.alloc (.cells (madeCells #[.slice none 0 0] ne) 63)).alloc (.cells (madeCells #[.int .i64 0] ne) 3))
 rw [← hwq] at hT ⊢
 have hz3 := hb3.size
 obtain ⟨q, hqe⟩ := xR (w3.1.size + 1)
 obtain ⟨r, hre⟩ := xR w3.1.size
 rw [← hqe, ← hre, HR0.out, HF0.out] at hT
 rw [← hqe, ← hre]
 have hr1 : w3.1.size ≤ r := by omega
 clear hwq hre hqe HR0 HF0
 go_loopw [8] (fun v wr => ∃ N : Nat, N ≤ nn ∧ v = .int .i64 N ∧ TW w3 r q ne (RR (N * L)) (FF (N * L)) wr) (fun v _ => nn - (intOf v).toNat)
 case atStart => exact ⟨0, by omega, rfl, by rw [Nat.zero_mul]; exact hT⟩
 case round =>
  clear hT
  obtain ⟨N, hN, rfl, hT⟩ := hrel
  have hbr := hT.bel
  obtain ⟨⟨m0, m1, m2⟩, ⟨p0, p1⟩⟩ := HBX.out wr (hb3.trans (hbr.mono hz3))
  by_cases hlt : N < nn
  ·have hlt' : (N : Int) < (nn : Int) := by omega
   have hN0 : (0 : Int) ≤ (N : Int) := by omega
   obtain ⟨p, hp⟩ := xR (N * L)
   have wm : IntKind.i64.wrap ((N : Int) * (L : Int)) = (p : Int) := by rw [hp]; exact mulI (by omega) (by omega)
   have HP := dh hp
   rw [← hp] at hT
   clear hp
   go_wp2_with fail
   clear m0 m1 m2 p0 p1
   go_loopw [9] (fun v wr => ∃ k : Nat, k ≤ L ∧ v = .int .i64 k ∧ TW w3 r q ne (RR (p + k)) (FF (p + k)) wr) (fun v _ => L - (intOf v).toNat)
   case atStart => exact ⟨0, by omega, rfl, hT⟩
   case round =>
    clear hT hbr
    obtain ⟨k, hk, rfl, hT⟩ := hrel
    by_cases hkl : k < L
    ·have hkl' : (k : Int) < (L : Int) := by omega
     obtain ⟨m, hm⟩ := xR (p + k)
     have hmn : m < ne := by rw [hm, HP.out, HNE.out]; exact idx_lt hlt hkl
     have wm2 : IntKind.i64.wrap ((p : Int) + (k : Int)) = (m : Int) := by rw [wI]; omega
     have wk : IntKind.i64.wrap ((k : Int) + 1) = k + 1 := by rw [wI]; omega
     have hm0 : (0 : Int) ≤ (m : Int) := by omega
     have hmn' : (m : Int) < (ne : Int) := by omega
     have hfs := HFS.out N k hkl
     rw [← HP.out, ← hm] at hfs
     rw [← hm] at hT
     obtain ⟨⟨y, cq1⟩, cq2, cq3, hT1⟩ := hT.put (x := (N : Int)) hmn
     rw [hfs] at hT1
     have hbr := hT.bel
     have hb0r := hb3.trans (hbr.mono hz3)
     obtain ⟨⟨m0, m1, m2⟩, ⟨p0, p1⟩⟩ := HBX.out wr hb0r
     obtain ⟨nxt, hnx⟩ := xR (nx n1 W.length k)
     have hnxl : nxt < L := by rw [hnx, HL.out, HLW.out]; exact nx_lt (by rw [← HLW.out]; omega)
     have hnxe : nxt = if k + 1 = L then n1 else k + 1 := by
      rw [hnx, nx, ← HLW.out, ← HL.out]
      by_cases e : k + 1 = L
      ·rw [if_neg (by omega), if_pos e]
      ·rw [if_pos (by omega), if_neg e]
     have HPK := dh hm
     have HNXT := dh hnx
     have HNXE := dh hnxe
     have HT1 := dh hT1
     clear hm hfs hT hT1 hnx hnxe hbr
     go_upto_if 53 with (fail)
     go_cut [10] (fun v wF => v = .int .i64 (nxt : Int) ∧ wF = wr)
     case first =>
      by_cases e : k + 1 = L
      ·have d : ((k : Int) + 1 == (L : Int)) = true := by simp; omega
       have he : nxt = n1 := by rw [HNXE.out, if_pos e]
       have HE := dh he
       clear e he
       go_wp2_with fail
       go_meet
       case rel => exact ⟨by rw [HE.out], rfl⟩
      ·have d : ((k : Int) + 1 == (L : Int)) = false := beq_eq_false_iff_ne.2 (by omega)
       have he : nxt = k + 1 := by rw [HNXE.out, if_neg e]
       have HE := dh he
       clear e he
       go_wp2_with fail
       go_meet
       case rel => exact ⟨by rw [HE.out]; go_num, rfl⟩
     case rest =>
      obtain ⟨rfl, hwc⟩ := hcut
      subst hwc
      go_wp2_with fail
      obtain ⟨w5, hw5⟩ := xR (wc.setCell ⟨q, m, none⟩ (.int .i64 (N : Int)))
      rw [← hw5] at HT1 ⊢
      clear m0 m1 m2 p0 p1 cq1 cq2 cq3 hw5
      have hbr := HT1.out.bel
      have hb05 := hb3.trans (hbr.mono hz3)
      have hz5 := hb05.size
      obtain ⟨⟨m0, m1, m2⟩, ⟨p0, p1⟩⟩ := HBX.out w5 hb05
      obtain ⟨b, o, x, Ax, cx, hAn, hbb, hxa, g0, g1, g2, g3, hst⟩ := rd_aut (HH.out.below hb05 hBs) hlt
      subst hAn
      have hxm : x ∈ a.nodes := List.mem_of_getElem? hxa
      have hax : a.at N = x := by unfold Aut.at; rw [gD, hxa]; rfl
      have hwx := HW.out.below hb05 hBs
      have HA5 := HWA.out k
      have HR5 := HRE.out x hxm Ax x.to.length cx k
      have hpf : prodF a W n1 m = prodR a W n1 N k := by rw [HPK.out, HP.out]; exact HNX.out N k hkl
      obtain ⟨u, hu⟩ := xR (W.getD k 0)
      rw [← hu] at HA5 HR5
      obtain ⟨v, hv⟩ := xR (rdsB x u)
      rw [← hv] at HR5
      have HPF : Hid (v = false → prodF a W n1 m = []) := dh (fun e => by rw [hpf]; exact prodR_no (by rw [hax, ← hu, ← hv]; exact e))
      have HPT : Hid (v = true → prodF a W n1 m = prodI a W nxt x.to) := dh (fun e => by rw [hpf, prodR_yes (by rw [hax, ← hu, ← hv]; exact e), HNXT.out, hax])
      have HA6 := dh HA5
      have HR6 := dh HR5
      have HWX := dh hwx
      have HST := dh hst
      have hbd : Below w5.1.size w5 w5.drew := Below.drew bR
      have hzd := hbd.size
      have HBD := dh hbd
      have hbw5 : b < w5.1.size := by omega
      have hw5l : w.1.size < w5.1.size := by have := HSZ.out; omega
      have hw5m : w.1.size + 1 < w5.1.size := by have := HSZ.out; omega
      have HXA := dh hxa
      have HXM := dh hxm
      clear hu hv hpf HA5 HR5 hwx hst hax hxm hxa hbr hbd
      refine wp_region_held_drew (S := fun w' => w'.cell? ⟨w.1.size, 2, none⟩ = some (.slice (some ⟨b, o, none⟩) nn cn) ∧ w'.cell? ⟨w.1.size + 1, 0, none⟩ = some (.slice A1 n1 c1) ∧ w'.cell? ⟨w.1.size + 1, 1, none⟩ = some (.slice A2 n2 c2) ∧ w'.cell? ⟨b, o + N * 4, none⟩ = some (.int .u64 (x.need : Int)) ∧ w'.cell? ⟨b, o + N * 4 + 1, none⟩ = some (.int .u64 (x.ban : Int)) ∧ w'.cell? ⟨b, o + N * 4 + 2, none⟩ = some (.int .u64 (x.inn : Int)) ∧ w'.cell? ⟨b, o + N * 4 + 3, none⟩ = some (.slice Ax x.to.length cx)) (by kernel_rfl) ⟨m2, p0, p1, g0, g1, g2, g3⟩ (fun hS => ?_)
      refine tkH 0 ?_
      refine tkH 1 ?_
      refine tkH 2 ?_
      refine tkH 3 ?_
      refine tkH 4 ?_
      refine tkH 5 ?_
      refine tkH 6 ?_
      refine oneH 7 (fun K hK => ?_)
      go_simp
      refine (HA6.out w5.drew (HWX.out.below HBD.out (by omega)) (by omega) hkl).mono ?_
      rintro e w6 ⟨rfl, hb6'⟩
      have hb6 : Below w5.1.size w5 w6 := HBD.out.trans (hb6'.mono hzd)
      have hz6 := hb6.size
      clear hb6'
      dsimp only
      refine hK.out _ _ ⟨bC hb6 hw5l m2, bC hb6 hw5m p0, bC hb6 hw5m p1, bC hb6 hbw5 g0, bC hb6 hbw5 g1, bC hb6 hbw5 g2, bC hb6 hbw5 g3⟩ (fun hS => ?_)
      clear hK
      refine oneH 8 (fun K hK => ?_)
      go_simp
      refine (HR6.out w6).mono ?_
      rintro e w7 ⟨rfl, hb7'⟩
      have hb7 : Below w5.1.size w5 w7 := hb6.trans (hb7'.mono hz6)
      clear hb7' hb6
      dsimp only
      refine hK.out _ _ ⟨bC hb7 hw5l m2, bC hb7 hw5m p0, bC hb7 hw5m p1, bC hb7 hbw5 g0, bC hb7 hbw5 g1, bC hb7 hbw5 g2, bC hb7 hbw5 g3⟩ (fun hS => ?_)
      clear hK
      refine tkH 9 ?_
      refine wpAnyH_done (by kernel_rfl) ?_ _
      have hz7 := hb7.size
      have hb07 := hb05.trans (hb7.mono hz5)
      have HT7 := dh (HT1.out.below hb7)
      have HB07 := dh hb07
      clear hb7 hb05 hb07 g0 g1 g2 g3 m0 m1 m2 p0 p1 HT1 HA6 HR6 HWX HBD
      cases v
      ·have HPF2 := dh (HPF.out rfl)
       go_wp2_with fail
       go_roundw
       case rel => exact ⟨k + 1, by omega, by go_num, by have e := HT7.out; rw [← HRA.out m, ← HPF2.out, HRS.out m, HPK.out] at e; exact e⟩
       case measure => simp [intOf]; omega
      ·have HPT2 := dh (HPT.out rfl)
       have HT8 : Hid (TW w3 r q ne ((RR m).set m (prodI a W nxt (x.to.take 0))) (FF (m + 1)) w7) := dh (by
        show TW w3 r q ne ((RR m).set m []) (FF (m + 1)) w7
        rw [HRA.out m]; exact HT7.out)
       have hxKB := HKR.out x HXM.out
       clear HPF HPT hbb hbw5 HST hz5 hz7 hzd hw5l hw5m HT7 HB07
       go_wp2_with fail
       simp only [Bool.not_true]
       go_loopw [11] (fun v wr => ∃ i : Nat, i ≤ x.to.length ∧ v = .int .i64 i ∧ Hid (TW w3 r q ne ((RR m).set m (prodI a W nxt (x.to.take i))) (FF (m + 1)) wr)) (fun v _ => x.to.length - (intOf v).toNat)
       case atStart => exact ⟨0, by omega, rfl, HT8⟩
       case round =>
        clear HT8
        obtain ⟨i, hi, rfl, HT8⟩ := hrel
        have hbr := HT8.out.bel
        have hb08 := hb3.trans (hbr.mono hz3)
        have hz8 := hb08.size
        obtain ⟨⟨m0, m1, m2⟩, ⟨p0, p1⟩⟩ := HBX.out wr hb08
        obtain ⟨b', o', x', Ax', cx', hAn', hbb', hxa', g0, g1, g2, g3, hst⟩ := rd_aut (HH.out.below hb08 hBs) hlt
        cases hAn'
        have hxx := hxa'.symm.trans HXA.out
        cases hxx
        have hw5l : w.1.size < wr.1.size := by have := HSZ.out; omega
        have hw5m : w.1.size + 1 < wr.1.size := by have := HSZ.out; omega
        have hbw8 : b < wr.1.size := by omega
        by_cases hil : i < x.to.length
        ·have hil' : (i : Int) < (x.to.length : Int) := by omega
         have hi0 : (0 : Int) ≤ (i : Int) := by omega
         have wi : IntKind.i64.wrap ((i : Int) + 1) = i + 1 := by rw [wI]; omega
         obtain ⟨bt, ot, rfl, hbt, ct⟩ := rd_intS hst hil
         have hsn := prodI_snoc (a := a) (W := W) (nxt := nxt) hil
         obtain ⟨j, hj, hjn⟩ := isNd_nat (HAO.out.2 x HXM.out x.to[i] (mM hil))
         rw [hj, tN, ← HLW.out, ← HL.out] at hsn
         rw [hj] at ct
         rw [← HNN.out] at hjn
         obtain ⟨b2, o2, x2, Ax2, cx2, hAn2, -, hx2a, d0, d1, d2, d3, -⟩ := rd_aut (HH.out.below hb08 hBs) hjn
         cases hAn2
         have hax2 : a.at j = x2 := by unfold Aut.at; rw [gD, hx2a]; rfl
         rw [hax2] at hsn
         have HA5 := HWA.out nxt
         have HR5 := HRE.out x2 (List.mem_of_getElem? hx2a) Ax2 x2.to.length cx2 nxt
         obtain ⟨u2, hu2⟩ := xR (W.getD nxt 0)
         rw [← hu2] at HA5 HR5 hsn
         obtain ⟨v2, hv2⟩ := xR (rdsB x2 u2)
         rw [← hv2] at HR5 hsn
         obtain ⟨p2, hp2⟩ := xR (j * L)
         obtain ⟨m2', hm2⟩ := xR (p2 + nxt)
         have hm2n : m2' < ne := by rw [hm2, hp2, HNE.out]; exact idx_lt hjn hnxl
         have wj : IntKind.i64.wrap ((j : Int) * (L : Int)) = (p2 : Int) := by rw [hp2]; exact mulI (by omega) (by omega)
         have wj2 : IntKind.i64.wrap ((p2 : Int) + (nxt : Int)) = (m2' : Int) := by rw [wI]; omega
         have hee : (j : Int) * (L : Int) + (nxt : Int) = (m2' : Int) := by rw [hm2, hp2]; simp
         rw [hee] at hsn
         have j0 : (0 : Int) ≤ (j : Int) := by omega
         have j1 : (j : Int) < (nn : Int) := by omega
         have HA6 := dh HA5
         have HR6 := dh HR5
         have HSN := dh hsn
         have HWX := dh (HW.out.below hb08 hBs)
         have hbd : Below wr.1.size wr wr.drew := Below.drew bR
         have hzd := hbd.size
         have HBD := dh hbd
         have HB08 := dh hb08
         obtain ⟨wv, hwv⟩ : ∃ wv : World, wv = wr := ⟨_, rfl⟩
         rw [← hwv] at HT8 hz8 m0 m1 m2 p0 p1 g0 g1 g2 g3 hw5l hw5m hbw8 ct d0 d1 d2 d3 HWX hzd HBD HB08 ⊢
         clear hsn hj hax2 hx2a HA5 HR5 hu2 hv2 hp2 hm2 hee hbr hb08 hst hxa' hbd hwv
         go_wp2_with fail
         refine wp_region_held_drew (S := fun w' => w'.cell? ⟨w.1.size, 2, none⟩ = some (.slice (some ⟨b, o, none⟩) nn cn) ∧ w'.cell? ⟨w.1.size + 1, 0, none⟩ = some (.slice A1 n1 c1) ∧ w'.cell? ⟨w.1.size + 1, 1, none⟩ = some (.slice A2 n2 c2) ∧ w'.cell? ⟨b, o + j * 4, none⟩ = some (.int .u64 (x2.need : Int)) ∧ w'.cell? ⟨b, o + j * 4 + 1, none⟩ = some (.int .u64 (x2.ban : Int)) ∧ w'.cell? ⟨b, o + j * 4 + 2, none⟩ = some (.int .u64 (x2.inn : Int)) ∧ w'.cell? ⟨b, o + j * 4 + 3, none⟩ = some (.slice Ax2 x2.to.length cx2)) (by kernel_rfl) ⟨m2, p0, p1, d0, d1, d2, d3⟩ (fun hS => ?_)
         refine tkH 0 ?_
         refine tkH 1 ?_
         refine tkH 2 ?_
         refine tkH 3 ?_
         refine tkH 4 ?_
         refine tkH 5 ?_
         refine tkH 6 ?_
         refine oneH 7 (fun K hK => ?_)
         go_simp
         refine (HA6.out wv.drew (HWX.out.below HBD.out (by omega)) (by omega) hnxl).mono ?_
         rintro e w8 ⟨rfl, hb8'⟩
         have hb8 : Below wv.1.size wv w8 := HBD.out.trans (hb8'.mono hzd)
         have hz88 := hb8.size
         clear hb8'
         dsimp only
         refine hK.out _ _ ⟨bC hb8 hw5l m2, bC hb8 hw5m p0, bC hb8 hw5m p1, bC hb8 hbw8 d0, bC hb8 hbw8 d1, bC hb8 hbw8 d2, bC hb8 hbw8 d3⟩ (fun hS => ?_)
         clear hK
         refine oneH 8 (fun K hK => ?_)
         go_simp
         refine (HR6.out w8).mono ?_
         rintro e w9 ⟨rfl, hb9'⟩
         have hb9 : Below wv.1.size wv w9 := hb8.trans (hb9'.mono hz88)
         clear hb9' hb8
         dsimp only
         refine hK.out _ _ ⟨bC hb9 hw5l m2, bC hb9 hw5m p0, bC hb9 hw5m p1, bC hb9 hbw8 d0, bC hb9 hbw8 d1, bC hb9 hbw8 d2, bC hb9 hbw8 d3⟩ (fun hS => ?_)
         clear hK
         refine wpAnyH_done (by kernel_rfl) ?_ _
         have hz9 := hb9.size
         have hb09 := HB08.out.trans (hb9.mono hz8)
         have HT9 := dh (HT8.out.below hb9)
         have hz09 := hb09.size
         clear hb9 hb09 g0 g1 g2 g3 m0 m1 m2 p0 p1 d0 d1 d2 d3 ct HT8 HA6 HR6 HWX HBD HB08
         cases v2
         ·have HS2 : Hid (prodI a W nxt (x.to.take (i + 1)) = prodI a W nxt (x.to.take i)) := dh (by rw [HSN.out, if_neg (by decide), List.append_nil])
          clear HSN
          go_wp2_with fail
          go_roundw
          case rel => exact ⟨i + 1, by omega, by go_num, dh (by rw [HS2.out]; exact HT9.out)⟩
          case measure => simp [intOf]; omega
         ·have HS2 : Hid (prodI a W nxt (x.to.take (i + 1)) = prodI a W nxt (x.to.take i) ++ [⟨(m2' : Int), 0⟩]) := dh (by rw [HSN.out, if_pos rfl])
          have HBD2 : Hid ((prodI a W nxt (x.to.take i)).length ≤ i) := dh (Nat.le_trans prodI_le (by rw [List.length_take]; omega))
          clear HSN
          generalize prodI a W nxt (x.to.take i) = Y at *
          obtain ⟨vs, t2, t5, t6⟩ := HT9.out
          have hrlt := fun (j : Nat) (v : Value) (hv : vs[j]? = some v) => t2.rowlt hv
          obtain ⟨u, n0, hu, ho⟩ := t2.row m (ncells Y) (by simp [HRL.out m, hmn])
          have hn0 : n0 = Y.length := by have := ho.1; rw [ncells_len] at this; omega
          have hnb : n0 ≤ i := by have := HBD2.out; omega
          obtain ⟨Au, cu, rfl, hsu⟩ := own_sl ho
          have d0 := t2.cell hu
          have d1 := t2.frozen m
          have hrl : r < w9.1.size := (t2.main.lt r rfl).2
          have hune : ∀ g', (Value.slice Au n0 cu).ownBlock = some g' → w3.1.size ≤ g' := fun g' hg' => (hrlt m _ hu g' hg').1
          clear hrlt
          have HU := dh hu
          have HN0 := dh hn0
          have hnw := dh (heap_alloc_new w9 (.cells #[.int .i64 (m2' : Int), .int .i64 0] 65))
          have HO9 := dh ho
          have HT69 := dh t6
          clear hu hn0 t6 hsu ho
          go_wp2_with (at_builtin; refine wpList_push rfl (.tmp 117) (.tmp 124) 63 rfl w3.1.size 65 2 16 sliceEd _ _ _ (HO9.out.alloc _) rfl w9.1.size #[.int .i64 (m2' : Int), .int .i64 0] rfl hnw.out rfl (by simp [Value.oneCell']) (by omega) (by omega) (by simp; omega) ?_; intro u' wA hown3 ht3 hat3 hne3; obtain ⟨g', cap', rfl, _⟩ := own_form hown3 (by omega); have HRW := dh (TW.grow (ys := Y ++ [⟨(m2' : Int), 0⟩]) t2 t5 HT69.out rfl HU.out HO9.out (by rw [ncells_append]; simpa [ncells] using hown3) ht3 hat3); have r1 := HRW.out.1; have r2 := HRW.out.2.1; have r3 : r < wA.1.size := by have := ht3.size; simp at this; omega)
          have r5 := HRW.out.2.2.2
          go_roundw
          case rel => exact ⟨i + 1, by omega, by go_num, dh (by rw [HS2.out]; rw [List.set_set] at r5; exact r5)⟩
          case measure => simp [intOf]; omega
        ·have hml : i = x.to.length := by omega
         have HTE := HT8.out
         rw [tL (by omega), ← HPT2.out, HRS.out m, HPK.out] at HTE
         have HTF := dh HTE
         clear HT8 HTE hml
         go_wp2_with fail
         go_roundw
         case rel => exact ⟨k + 1, by omega, by go_num, HTF.out⟩
         case measure => simp [intOf]; omega
    ·have hke : k = L := by omega
     have e : p + k = (N + 1) * L := by rw [hke, HP.out, Nat.succ_mul]
     rw [e] at hT
     have HTF := dh hT
     clear e hT hke
     go_wp2_with fail
     go_roundw
     case rel => exact ⟨N + 1, by omega, by go_num, HTF.out⟩
     case measure => simp [intOf]; omega
  ·have hNe : N = nn := by omega
   rw [hNe, ← HNE.out, HRF.out, HFF.out] at hT
   have HTF := dh hT
   clear hNe hT HRS HRA HRL HRF HFS HFF HNX
   go_wp2_with fail
   have hbg : Below wr.1.size wr (wr.alloc (.cells #[.slice none 0 0, .slice (some ⟨r, 0, none⟩) ne ne, .slice none 0 0] 67)) := bR.alloc lR _
   have hgn := heap_alloc_new wr (.cells #[.slice none 0 0, .slice (some ⟨r, 0, none⟩) ne ne, .slice none 0 0] 67)
   have hzg : (wr.alloc (.cells #[.slice none 0 0, .slice (some ⟨r, 0, none⟩) ne ne, .slice none 0 0] 67)).1.size = wr.1.size + 1 := by simp
   obtain ⟨wg, hwg⟩ := xR (wr.alloc (.cells #[.slice none 0 0, .slice (some ⟨r, 0, none⟩) ne ne, .slice none 0 0] 67))
   rw [← hwg] at hbg hgn hzg ⊢
   have HTG := dh (HTF.out.below hbg)
   have hb0g : Below W0.1.size W0 wg := (hb3.trans (hbr.mono hz3)).trans (hbg.mono (hb3.trans (hbr.mono hz3)).size)
   obtain ⟨g, hg⟩ := xR wr.1.size
   rw [← hg] at hgn ⊢
   have hgl : g < wg.1.size := by omega
   have HGN := dh hgn
   have HB0G := dh hb0g
   have hzg0 := hb0g.size
   clear hwg hbg hzg hg hgn hb0g m0 m1 m2 p0 p1 hbr HTF
   go_loopw [14, 15] (fun fr i wr => ∃ k : Nat, k ≤ ni ∧ i = .int .i64 k ∧ wr.ownsRow wg.1.size 3 1 fr (fromT a W (a.init.take k)).length (icells (fromT a W (a.init.take k))) ∧ Below wg.1.size wg wr) (fun _ i _ => ni - (intOf i).toNat)
   case atStart => exact ⟨0, by omega, rfl, World.ownsRow_nil wg _ _ _, bR⟩
   case round =>
    obtain ⟨k, hk, rfl, hO, hbr⟩ := hrel
    obtain ⟨Af, cf, rfl, hsf⟩ := own_sl hO
    have hb08 := HB0G.out.trans (hbr.mono hzg0)
    have hz8 := hb08.size
    obtain ⟨⟨m0, m1, m2⟩, ⟨p0, p1⟩⟩ := HBX.out wr hb08
    have hzr := hbr.size
    by_cases hki : k < ni
    ·have hki' : (k : Int) < (ni : Int) := by omega
     have hk0 : (0 : Int) ≤ (k : Int) := by omega
     have hkl : k < a.init.length := by rw [← HNI.out]; exact hki
     have wi : IntKind.i64.wrap ((k : Int) + 1) = k + 1 := by rw [wI]; omega
     have hw5l : w.1.size < wr.1.size := by have := HSZ.out; omega
     have hw5m : w.1.size + 1 < wr.1.size := by have := HSZ.out; omega
     obtain ⟨bi, oi, rfl, hbi, ct⟩ := rd_intS (HH.out.below hb08 hBs).init hkl
     have hbiw : bi < wr.1.size := by omega
     have hsn := fromT_snoc (a := a) (W := W) hkl
     obtain ⟨j, hj, hjn⟩ := isNd_nat (HAO.out.1 a.init[k] (mM hkl))
     rw [hj, tN, ← HLW.out, ← HL.out] at hsn
     rw [hj] at ct
     rw [← HNN.out] at hjn
     obtain ⟨b2, o2, x2, Ax2, cx2, rfl, hbb2, hx2a, d0, d1, d2, d3, -⟩ := rd_aut (HH.out.below hb08 hBs) hjn
     have hbw8 : b2 < wr.1.size := by omega
     have hax2 : a.at j = x2 := by unfold Aut.at; rw [gD, hx2a]; rfl
     rw [hax2] at hsn
     have HA5 := HWA.out 0
     rw [show ((0 : Nat) : Int) = 0 from rfl] at HA5
     have HR5 := HRE.out x2 (List.mem_of_getElem? hx2a) Ax2 x2.to.length cx2 0
     obtain ⟨u2, hu2⟩ := xR (W.getD 0 0)
     rw [← hu2] at HA5 HR5 hsn
     obtain ⟨v2, hv2⟩ := xR (rdsB x2 u2)
     rw [← hv2] at HR5 hsn
     obtain ⟨p2, hp2⟩ := xR (j * L)
     have wj : IntKind.i64.wrap ((j : Int) * (L : Int)) = (p2 : Int) := by rw [hp2]; exact mulI (by omega) (by omega)
     have hee : (j : Int) * (L : Int) = (p2 : Int) := by rw [hp2]; simp
     rw [hee] at hsn
     have j0 : (0 : Int) ≤ (j : Int) := by omega
     have j1 : (j : Int) < (nn : Int) := by omega
     have HA6 := dh HA5
     have HR6 := dh HR5
     have HSN := dh hsn
     have HWX := dh (HW.out.below hb08 hBs)
     have hbd : Below wr.1.size wr wr.drew := Below.drew bR
     have hzd := hbd.size
     have HBD := dh hbd
     have HBR := dh hbr
     have HOF := dh hO
     have hfl : (fromT a W (a.init.take k)).length ≤ k := Nat.le_trans fromT_le (by rw [List.length_take]; omega)
     obtain ⟨wv, hwv⟩ : ∃ wv : World, wv = wr := ⟨_, rfl⟩
     rw [← hwv] at hz8 hzr m0 m1 m2 p0 p1 hw5l hw5m hbw8 hbiw ct d0 d1 d2 d3 HWX hzd HBD HBR HOF ⊢
     clear hsn hj hax2 hx2a HA5 HR5 hu2 hv2 hp2 hee hbr hb08 hbd hwv hO hsf
     generalize fromT a W (a.init.take k) = Y at *
     go_wp2_with fail
     refine wp_region_held_drew (S := fun w' => w'.cell? ⟨w.1.size, 1, none⟩ = some (.slice (some ⟨bi, oi, none⟩) ni ci) ∧ w'.cell? ⟨w.1.size, 2, none⟩ = some (.slice (some ⟨b2, o2, none⟩) nn cn) ∧ w'.cell? ⟨w.1.size + 1, 0, none⟩ = some (.slice A1 n1 c1) ∧ w'.cell? ⟨w.1.size + 1, 1, none⟩ = some (.slice A2 n2 c2) ∧ w'.cell? ⟨bi, oi + k, none⟩ = some (.int .i64 (j : Int)) ∧ w'.cell? ⟨b2, o2 + j * 4, none⟩ = some (.int .u64 (x2.need : Int)) ∧ w'.cell? ⟨b2, o2 + j * 4 + 1, none⟩ = some (.int .u64 (x2.ban : Int)) ∧ w'.cell? ⟨b2, o2 + j * 4 + 2, none⟩ = some (.int .u64 (x2.inn : Int)) ∧ w'.cell? ⟨b2, o2 + j * 4 + 3, none⟩ = some (.slice Ax2 x2.to.length cx2)) (by kernel_rfl) ⟨m1, m2, p0, p1, ct, d0, d1, d2, d3⟩ (fun hS => ?_)
     refine tkH 0 ?_
     refine tkH 1 ?_
     refine tkH 2 ?_
     refine tkH 3 ?_
     refine tkH 4 ?_
     refine tkH 5 ?_
     refine tkH 6 ?_
     refine tkH 7 ?_
     refine tkH 8 ?_
     refine tkH 9 ?_
     refine oneH 10 (fun K hK => ?_)
     go_simp
     refine (HA6.out wv.drew (HWX.out.below HBD.out (by omega)) (by omega) hL0).mono ?_
     rintro e w8 ⟨rfl, hb8'⟩
     have hb8 : Below wv.1.size wv w8 := HBD.out.trans (hb8'.mono hzd)
     have hz88 := hb8.size
     clear hb8'
     dsimp only
     refine hK.out _ _ ⟨bC hb8 hw5l m1, bC hb8 hw5l m2, bC hb8 hw5m p0, bC hb8 hw5m p1, bC hb8 hbiw ct, bC hb8 hbw8 d0, bC hb8 hbw8 d1, bC hb8 hbw8 d2, bC hb8 hbw8 d3⟩ (fun hS => ?_)
     clear hK
     refine oneH 11 (fun K hK => ?_)
     go_simp
     refine (HR6.out w8).mono ?_
     rintro e w9 ⟨rfl, hb9'⟩
     have hb9 : Below wv.1.size wv w9 := hb8.trans (hb9'.mono hz88)
     clear hb9' hb8
     dsimp only
     refine hK.out _ _ ⟨bC hb9 hw5l m1, bC hb9 hw5l m2, bC hb9 hw5m p0, bC hb9 hw5m p1, bC hb9 hbiw ct, bC hb9 hbw8 d0, bC hb9 hbw8 d1, bC hb9 hbw8 d2, bC hb9 hbw8 d3⟩ (fun hS => ?_)
     clear hK
     refine wpAnyH_done (by kernel_rfl) ?_ _
     have hz9 := hb9.size
     have HB9 := dh (HBR.out.trans (hb9.mono hzr))
     have HO9 := dh (own_below HOF.out hb9)
     clear d0 d1 d2 d3 HA6 HR6 HWX HBD HBR HOF hzd
     cases v2
     ·have HS2 : Hid (fromT a W (a.init.take (k + 1)) = Y) := dh (by rw [HSN.out, if_neg (by decide), List.append_nil])
      clear HSN m0 m1 m2 p0 p1 ct hb9
      go_wp2_with fail
      go_roundw
      case rel => exact ⟨k + 1, by omega, by go_num, by rw [HS2.out]; exact HO9.out, HB9.out⟩
      case measure => simp [intOf]; omega
     ·have HS2 : Hid (fromT a W (a.init.take (k + 1)) = Y ++ [(p2 : Int)]) := dh (by rw [HSN.out, if_pos rfl])
      have e1 := bC hb9 hw5l m1
      have e2 := bC hb9 hbiw ct
      have hnw := dh (heap_alloc_new w9 (.cells #[.int .i64 (p2 : Int)] 3))
      clear HSN m0 m1 m2 p0 p1 ct hb9
      go_wp2_with (at_builtin; refine wpList_push rfl (.tmp 148) (.tmp 156) 22 rfl wg.1.size 3 1 8 sliceInt _ _ _ (HO9.out.alloc _) rfl w9.1.size #[.int .i64 (p2 : Int)] rfl hnw.out rfl (by simp [Value.oneCell']) (by omega) (by omega) (by simp; omega) ?_; intro v3 wA hown3 ht3 hat3 hne3; have HOA := dh hown3; have HTA := dh ht3; clear hown3 ht3 hat3)
      have HBA := dh (below_tchE HB9.out HO9.out (Tch.trans ((Tch.refl _ w9).alloc _) HTA.out (fun _ _ e => e)) lR)
      go_roundw
      case rel => exact ⟨k + 1, by omega, by go_num, by rw [HS2.out, icells_append, lA]; exact HOA.out, HBA.out⟩
      case measure => simp [intOf]; omega
    ·have hke : k = ni := by omega
     have hG : fromT a W (a.init.take k) = fromT a W a.init := by rw [tL (by rw [← HNI.out]; omega)]
     rw [hG] at hO hsf ⊢
     have hfl : (fromT a W a.init).length ≤ ni := by rw [HNI.out]; exact fromT_le
     have HTK : Hid (∀ z, takesB a W z = (fromT a W a.init).any (fun x => z.getD x.toNat false)) := dh (fun z => rfl)
     have HIN : Hid (∀ x ∈ fromT a W a.init, ∃ m : Nat, x = (m : Int) ∧ m < ne) := dh (fun x hx => by
      rw [HNE.out, HNN.out, HL.out, HLW.out]; exact fromT_in HAO.out (by rw [← HLW.out, ← HL.out]; exact hL0) x hx)
     generalize fromT a W a.init = Y at *
     obtain ⟨x0, x1, x2⟩ := box3A ((hbr.block g hgl).trans HGN.out)
     obtain ⟨vs, t2, t5, t6⟩ := HTG.out.below hbr
     obtain ⟨A3, c3, e3, s3⟩ := t2.sl2
     have hl3 : ne = ((prodE a W n1).map ncells).length := by rw [List.length_map, prodE_len, ← HLW.out, ← HL.out, ← HNN.out, ← HNE.out]
     rw [← hl3] at e3 s3
     cases e3
     obtain ⟨A4, c4, e4, s4⟩ := own_sl t6
     cases e4
     have HC := dh (HALL.out none (some ⟨r, 0, none⟩) none 0 ne 0 0 [] [] (some ⟨q, 0, none⟩) ne wr wr.1.size ((HH.out.below hb08 hBs).up (by omega)) ⟨Sl.none_ _ _ _, s3, Sl.none_ _ _ _⟩ s4 lR)
     have HO8 := dh hO
     have HBR := dh hbr
     clear hke hG hO hsf s3 s4 t2 t5 t6 hl3 hb08 hbr HTG HALL
     go_wp2_with fail
     refine HC.out.mono ?_
     rintro e w10 ⟨zg, hgf, vg, rfl, hOg, hb10, -⟩
     obtain ⟨Ag, cg, rfl, hsg⟩ := own_sl hOg
     have hzl : zg.length = ne := by have := hOg.1; simpa [bcells] using this
     obtain ⟨A5, c5, e5, hsf⟩ := own_sl (own_below HO8.out hb10)
     cases e5
     have HB10 := dh (hb0.trans (((HB0G.out.trans (HBR.out.mono hzg0)).trans (hb10.mono hz8)).mono (by have := HSZ.out; omega)))
     have HGF := dh (HGA.out zg hgf)
     have HSG := dh hsg
     have HSF := dh hsf
     have HZL := dh hzl
     clear hgf hOg hb10 hsg hsf hzl m0 m1 m2 p0 p1 x0 x1 x2 HC HO8
     go_wp2_with fail
     go_loopw [17] (fun v wr => ∃ k : Nat, k ≤ Y.length ∧ v = .int .i64 k ∧ wr = w10 ∧ Hid (∀ x ∈ Y.take k, zg.getD x.toNat false = false)) (fun v _ => Y.length - (intOf v).toNat)
     case atStart => exact ⟨0, by omega, rfl, rfl, dh (fun x hx => by simp at hx)⟩
     case round =>
      obtain ⟨i, hi, rfl, rfl, HQ⟩ := hrel
      by_cases hil : i < Y.length
      ·have hil' : (i : Int) < (Y.length : Int) := by omega
       have hi0 : (0 : Int) ≤ (i : Int) := by omega
       have wi : IntKind.i64.wrap ((i : Int) + 1) = i + 1 := by rw [wI]; omega
       obtain ⟨j, hj, hjn⟩ := HIN.out Y[i] (mM hil)
       obtain ⟨bf, of_, rfl, hbf, ct⟩ := rd_intS HSF.out hil
       rw [hj] at ct
       obtain ⟨bz, oz, rfl, hbz, cz⟩ := HSG.out.rd.at_ (bcells'_at (l := zg) (i := j) (by rw [HZL.out]; exact hjn))
       have j0 : (0 : Int) ≤ (j : Int) := by omega
       have j1 : (j : Int) < (ne : Int) := by omega
       have hq2 := all_takeS (P := fun x : Int => zg.getD x.toNat false = false) hil HQ.out
       rw [hj, tN] at hq2
       have HQ2 := dh hq2
       have HMJ : Hid ((j : Int) ∈ Y) := dh (by rw [← hj]; exact mM hil)
       clear hq2 hj
       cases hzv : zg.getD j false
       ·rw [hzv] at cz
        have HQ3 := dh (HQ2.out hzv)
        clear hzv
        go_wp2_with fail
        go_roundw
        case rel => exact ⟨i + 1, by omega, by go_num, by trivial, HQ3⟩
        case measure => simp [intOf]; omega
       ·rw [hzv] at cz
        have HTR : Hid (takesB a W zg = true) := dh (by rw [HTK.out, List.any_eq_true]; exact ⟨(j : Int), HMJ.out, by rw [tN]; exact hzv⟩)
        clear hzv
        go_wp2_with fail
        go_ret
        exact ⟨zg, HGF.out, by rw [HTR.out]; rfl, HB10.out⟩
      ·have HTR : Hid (takesB a W zg = false) := dh (by
        rw [HTK.out, List.any_eq_false]
        intro x hx
        rw [HQ.out x (by rw [tL (by omega)]; exact hx)]; decide)
       go_wp2_with fail
       go_ret
       exact ⟨zg, HGF.out, by rw [HTR.out]; rfl, HB10.out⟩
end Go.Proofs.YtiebpncpdbnelaaDoor
