/- The walks of layer 33 (quot): Merge. -/
import Derived.Test.YtiebpncpdbnelaaGreatDoorZbs
set_option maxHeartbeats 16000000
set_option maxRecDepth 100000
namespace Go.Proofs.YtiebpncpdbnelaaGreatDoor
open Go.RowKit Go.Maps
theorem mergeP_any (a : Aut) (Ai : Option Addr) (ni ci : Nat) (An : Option Addr) (nn cn : Nat) (w : World) (B : Nat) (h : AutRd w B a Ai ni ci An nn cn) (hB : B ≤ w.1.size) (hck : chkA a = 0) (hnd : ∀ x ∈ a.nodes, x.need < 2 ^ 64 ∧ x.ban < 2 ^ 64) (hinn : ∀ x ∈ a.nodes, x.inn < 2 ^ 64) (KE : Nat) (hr : ∀ x ∈ a.nodes, x.to.length ≤ KE) (hri : a.init.length ≤ 1000000) (hKE : KE ≤ 1000000) :
  Calls Tryz.prog 11 #[.agg #[.int .i64 a.sets, .slice Ai ni ci, .slice An nn cn]] w (AutOneS w (mergeA a)) := by
 obtain ⟨hb0, x0, y0, z0⟩ := two_new w (.cells #[.int .i64 a.sets, .slice Ai ni ci, .slice An nn cn] 25) (.cells #[.int .i64 0, .slice none 0 0, .slice none 0 0] 25)
 obtain ⟨W0, hW0⟩ := xQ ((w.alloc (.cells #[.int .i64 a.sets, .slice Ai ni ci, .slice An nn cn] 25)).alloc (.cells #[.int .i64 0, .slice none 0 0, .slice none 0 0] 25))
 rw [hW0] at hb0 x0 y0 z0
 have HR0 := dh (h.below hb0 hB)
 have HC0 := dh (autoCheck_any a Ai ni ci An nn cn W0 B HR0.out (by omega) (by omega) (fun x hx => by have := hr x hx; omega))
 have HGA := dh (chk_iff.1 hck)
 obtain ⟨hn256, -, hA, -⟩ := chk_iff.1 hck
 have HNN := dh h.enn
 have hnn : nn ≤ 256 := by rw [HNN.out]; exact hn256
 have HW0 := dh hW0
 have HB0 := dh hb0
 have HOK := dh hA
 have HX0 := dh x0
 have HY0 := dh y0
 have hBw : B ≤ W0.1.size := by omega
 have hww : w.1.size + 1 < W0.1.size := by omega
 have HCL : Hid (∀ W', Below W0.1.size W0 W' → W'.cell? ⟨w.1.size, 0, none⟩ = some (.int .i64 a.sets) ∧ W'.cell? ⟨w.1.size, 1, none⟩ = some (.slice Ai ni ci) ∧ W'.cell? ⟨w.1.size, 2, none⟩ = some (.slice An nn cn)) := dh (fun W' hb => box3A ((hb.block w.1.size (by omega)).trans HX0.out))
 have HHR := dh hr
 have HND0 := dh hnd
 have HINN := dh hinn
 have HCK := dh hck
 clear hW0 hb0 x0 y0 z0 h hnd hinn hr hA hck
 go_enter Tryz.func11, Tryz.ntmps11
 go_upto_region 1 with fail
 rw [HW0.out]
 obtain ⟨q0, q1, q2⟩ := HCL.out W0 bR
 go_wp2_with fail
 refine HC0.out.mono ?_
 rintro e w1 ⟨rfl, hb1⟩
 rw [HCK.out]
 have HB1 := dh hb1
 have hz1 := hb1.size
 clear q0 q1 q2 hb1
 obtain ⟨q0, q1, q2⟩ := HCL.out w1 HB1.out
 have HDI := dh (direct_any a Ai ni ci An nn cn w1 B (HR0.out.below HB1.out hBw) (Nat.le_trans hBw hz1) HCK.out HND0.out HINN.out KE HHR.out (by omega) hKE)
 go_wp2_with fail
 refine HDI.out.mono ?_
 rintro e D ⟨v, rfl, hG⟩
 obtain ⟨Ar, cr, rfl, hR2⟩ := hG.sl2
 have hbD := hG.choose_spec.2.2
 have HBD := dh (HB1.out.trans (hbD.mono hz1))
 have hzD := HBD.out.size
 have hsl : (simL a).length = nn := by rw [simL_len, HNN.out]
 have HSL := dh hsl
 obtain ⟨W4, hW4⟩ := xQ ((D.alloc (.map #[] 0)).alloc (.cells #[.map (some D.1.size)] 44))
 obtain ⟨hb4, m4, n4, z4⟩ := two_new D (.map #[] 0) (.cells #[.map (some D.1.size)] 44)
 rw [hW4] at hb4 m4 n4 z4
 have HB4 := dh (HBD.out.trans (hb4.mono hzD))
 have HN4 : Hid (W4.1[D.1.size + 1]? = some (.cells #[.map (some D.1.size)] 44 (0, 0))) := dh n4
 have HG4 : Hid (GMap W4 3 D.1.size 0 (fun _ => none)) := dh (GMap.of_blk m4)
 have HR4 : Hid (Sl2 W4 D.1.size 1 Ar nn cr ((simL a).map bcells)) := dh (by rw [hsl] at hR2; exact hR2.below hb4 lR)
 have HW4 := dh hW4
 have hDs : D.1.size + 1 < W4.1.size := by omega
 have hDW : W0.1.size ≤ D.1.size := hzD
 have hmk := run_makeMap (P := Tryz.prog) 44
 rw [hsl]
 clear hG hR2 hbD q0 q1 q2 hsl hW4 hb4 m4 n4 z4
 obtain ⟨q0, q1, q2⟩ := HCL.out D HBD.out
 go_upto_region 5 with fail
 show Code.wp _ _ _ _ ((D.alloc (.map #[] 0)).alloc (.cells #[.map (some D.1.size)] 44))
 rw [HW4.out]
 clear hmk q0 q1 q2
 obtain ⟨q0, q1, q2⟩ := HCL.out W4 HB4.out
 go_wp2_with fail
 clear q0 q1 q2
 go_loopw [5, 24] (fun v j wr => ∃ (i m : Nat) (g : Lit → Option Value), i ≤ nn ∧ m ≤ i ∧ j = .int .i64 (i : Int) ∧ Hid (wr.ownsRow W4.1.size 3 1 v (leadU a i).length (icells (natI (leadU a i)))) ∧ Hid (GMap wr 3 D.1.size m g) ∧ Hid (NumG a i g) ∧ Hid (Tch (fun x => x = D.1.size) W4 wr)) (fun _ j _ => nn - (intOf j).toNat)
 case atStart => exact ⟨0, 0, _, by omega, lR, rfl, dh (World.ownsRow_nil _ _ _ _), HG4, dh (fun q hq => absurd hq (Nat.not_lt_zero _)), dh (Tch.refl _ _)⟩
 case round =>
  obtain ⟨i, m, g, hi, hmi, rfl, HKO, HMP, HNU, HTC⟩ := hrel
  have hzr := HTC.out.size
  have HB5 : Hid (Below W0.1.size W0 wr) := dh (HB4.out.trans (HTC.out.below HB4.out.size (fun x hx e => by have e : x = D.1.size := e; omega)))
  by_cases hlt : i < nn
  ·have wi : IntKind.i64.wrap ((i : Int) + 1) = (i : Int) + 1 := by rw [wI]; omega
   have hi0 : (0 : Int) ≤ (i : Int) := by omega
   have hi1 : (i : Int) < (nn : Int) := by omega
   have HIA : Hid (i < a.nodes.length) := dh (by rw [← HNN.out]; exact hlt)
   obtain ⟨Kv, kcv, rfl, -⟩ := own_sl HKO.out
   rename World => U
   have HDX : Hid (∀ W', Below U.1.size U W' → W'.cell? ⟨D.1.size + 1, 0, none⟩ = some (.map (some D.1.size))) := dh (fun W' hb => by
    have h := (hb.block (D.1.size + 1) (Nat.lt_of_lt_of_le hDs hzr)).trans ((HTC.out.block (D.1.size + 1) hDs (fun e => by have e : D.1.size + 1 = D.1.size := e; omega)).trans HN4.out)
    rw [cell_of_row _ _ _ _ _ (0, 0) h]; rfl)
   go_wp2_with fail
   go_loopw [7, 29] (fun v j wr' => ∃ (k : Nat), k ≤ i ∧ v = .int .i64 (i : Int) ∧ j = .int .i64 (k : Int) ∧ Hid (NoneB a i k) ∧ Hid (Below U.1.size U wr')) (fun _ j _ => i - (intOf j).toNat)
   case atStart => exact ⟨0, Nat.zero_le _, rfl, rfl, dh (fun q hq => absurd hq (Nat.not_lt_zero _)), dh bR⟩
   case round =>
    obtain ⟨k, hk, rfl, rfl, HNO, HBr⟩ := hrel
    have hzU := HBr.out.size
    by_cases hlk : k < i
    ·have wk : IntKind.i64.wrap ((k : Int) + 1) = (k : Int) + 1 := by rw [wI]; omega
     have hk0 : (0 : Int) ≤ (k : Int) := by omega
     have hk1 : (k : Int) < (nn : Int) := by omega
     have hk2 : (k : Int) < (i : Int) := by omega
     have hkn : k < nn := by omega
     obtain ⟨bx, ox, x, Ax, cx, hAn, hbx, hx, c0, c1, c2, c3, -⟩ := rd_aut HR0.out hkn
     obtain ⟨by_, oy, y, Ay, cy, hA2, -, hy, d0, d1, d2, d3, -⟩ := rd_aut HR0.out hlt
     rw [hAn] at hA2
     cases hA2
     have hxi : a.at k = x := by unfold Aut.at; rw [gD, hx]; rfl
     have hyi : a.at i = y := by unfold Aut.at; rw [gD, hy]; rfl
     have hcn := (Exists.choose_spec HR0.out.nodes).1.cap
     have hmn := (Exists.choose_spec HR0.out.nodes).1.max
     unfold maxLen at hmn
     have HQX := dh (fun W' => quotOf_any x Ax x.to.length cx W')
     have HQY := dh (fun W' => quotOf_any y Ay y.to.length cy W')
     have heq := fun W' => plain_eql x y W'
     have hbxW : bx < W0.1.size := by omega
     obtain ⟨br, or, Ai', di, hAr, r0, hd1, hd2, hbr1, bi, oi, hAi, hbr2, r1⟩ := rd_relB HR4.out (simL_row a) (i := i) (by rw [HSL.out]; exact hlt)
     obtain ⟨br2, or2, Ak', dk, hAr2, r2, hd3, hd4, -, bk, ok, hAk, hbr3, r3⟩ := rd_relB HR4.out (simL_row a) (i := k) (by rw [HSL.out]; exact hkn)
     rw [hAr] at hAr2
     cases hAr2
     subst hAi hAk
     rw [HSL.out] at r0 r2 hd1 hd3
     obtain ⟨q1, hq1⟩ := xQ (relL (simL a) i k)
     obtain ⟨q2, hq2⟩ := xQ (relL (simL a) k i)
     have r1k := r1 k (by rw [HSL.out]; exact hkn)
     have r3i := r3 i (by rw [HSL.out]; exact hlt)
     rw [hq1] at r1k
     rw [hq2] at r3i
     have HPL : Hid (q1 = true → q2 = true → plainB x y = true) := dh (fun h1 h2 => by rw [← hxi, ← hyi]; exact like_plain HGA.out (hq1.trans h1) (hq2.trans h2))
     have HQ1 := dh hq1
     have HQ2 := dh hq2
     have HDT : Hid (∀ W', Below U.1.size U W' → ∀ (p : Addr), p.block < W4.1.size → p.block ≠ D.1.size → W'.cell? p = W4.cell? p) := dh (fun W' hb p hp hne => (hb.cell (p := p) (Nat.lt_of_lt_of_le hp hzr)).trans (HTC.out.cell (p := p) hp hne))
     have hbr : br < W4.1.size ∧ br ≠ D.1.size ∧ bi < W4.1.size ∧ bi ≠ D.1.size ∧ bk < W4.1.size ∧ bk ≠ D.1.size := by omega
     have HSC : Hid (∀ W', Below W0.1.size W0 W' → Below U.1.size U W' → W'.cell? ⟨w.1.size, 2, none⟩ = some (.slice (some ⟨bx, ox, none⟩) nn cn) ∧ W'.cell? ⟨bx, ox + k * 4, none⟩ = some (.int .u64 (x.need : Int)) ∧ W'.cell? ⟨bx, ox + k * 4 + 1, none⟩ = some (.int .u64 (x.ban : Int)) ∧ W'.cell? ⟨bx, ox + k * 4 + 2, none⟩ = some (.int .u64 (x.inn : Int)) ∧ W'.cell? ⟨bx, ox + k * 4 + 3, none⟩ = some (.slice Ax x.to.length cx) ∧ W'.cell? ⟨bx, ox + i * 4, none⟩ = some (.int .u64 (y.need : Int)) ∧ W'.cell? ⟨bx, ox + i * 4 + 1, none⟩ = some (.int .u64 (y.ban : Int)) ∧ W'.cell? ⟨bx, ox + i * 4 + 2, none⟩ = some (.int .u64 (y.inn : Int)) ∧ W'.cell? ⟨bx, ox + i * 4 + 3, none⟩ = some (.slice Ay y.to.length cy) ∧ W'.cell? ⟨br, or + i, none⟩ = some (.slice (some ⟨bi, oi, none⟩) nn di) ∧ W'.cell? ⟨bi, oi + k, none⟩ = some (.bool q1) ∧ W'.cell? ⟨br, or + k, none⟩ = some (.slice (some ⟨bk, ok, none⟩) nn dk) ∧ W'.cell? ⟨bk, ok + i, none⟩ = some (.bool q2)) := dh (fun W' hb hu => by
      obtain ⟨-, -, e2⟩ := HCL.out W' hb
      rw [hAn] at e2
      obtain ⟨b1, b2, b3, b4, b5, b6⟩ := hbr
      exact ⟨e2, bC hb hbxW c0, bC hb hbxW c1, bC hb hbxW c2, bC hb hbxW c3,
       bC hb hbxW d0, bC hb hbxW d1, bC hb hbxW d2, bC hb hbxW d3,
       (HDT.out W' hu ⟨br, or + i, none⟩ b1 b2).trans r0, (HDT.out W' hu ⟨bi, oi + k, none⟩ b3 b4).trans r1k, (HDT.out W' hu ⟨br, or + k, none⟩ b1 b2).trans r2, (HDT.out W' hu ⟨bk, ok + i, none⟩ b5 b6).trans r3i⟩)
     have HBW : Hid (Below W0.1.size W0 wr) := dh (HB5.out.trans (HBr.out.mono HB5.out.size))
     subst hAr
     obtain ⟨t0, t1, t2, t3, t4, t5, t6, t7, t8, t9, t10, t11, t12⟩ := HSC.out wr HBW.out HBr.out
     obtain ⟨pe, hpe⟩ := xQ (plainB x y)
     rw [hpe] at HPL heq
     clear hbr1 hbr2 hbr3 hxi hyi hx hy c0 c1 c2 c3 d0 d1 d2 d3 hq1 hq2 r0 r1 r2 r3 r1k r3i hbr hpe hAn
     go_upto_region 12 with fail
     cases pe
     ·have HN0 : Hid ((relL (simL a) i k && relL (simL a) k i) = false) := dh (by
       rw [HQ1.out, HQ2.out]
       cases q1
       ·rfl
       ·cases q2
        ·rfl
        ·exact absurd (HPL.out rfl rfl) (by decide))
      refine wp_region_held_drew (S := fun w' => w'.cell? ⟨w.1.size, 2, none⟩ = some (.slice (some ⟨bx, ox, none⟩) nn cn) ∧ w'.cell? ⟨bx, ox + k * 4, none⟩ = some (.int .u64 (x.need : Int)) ∧ w'.cell? ⟨bx, ox + k * 4 + 1, none⟩ = some (.int .u64 (x.ban : Int)) ∧ w'.cell? ⟨bx, ox + k * 4 + 2, none⟩ = some (.int .u64 (x.inn : Int)) ∧ w'.cell? ⟨bx, ox + k * 4 + 3, none⟩ = some (.slice Ax x.to.length cx) ∧ w'.cell? ⟨bx, ox + i * 4, none⟩ = some (.int .u64 (y.need : Int)) ∧ w'.cell? ⟨bx, ox + i * 4 + 1, none⟩ = some (.int .u64 (y.ban : Int)) ∧ w'.cell? ⟨bx, ox + i * 4 + 2, none⟩ = some (.int .u64 (y.inn : Int)) ∧ w'.cell? ⟨bx, ox + i * 4 + 3, none⟩ = some (.slice Ay y.to.length cy) ∧ w'.cell? ⟨br, or + i, none⟩ = some (.slice (some ⟨bi, oi, none⟩) nn di) ∧ w'.cell? ⟨bi, oi + k, none⟩ = some (.bool q1) ∧ w'.cell? ⟨br, or + k, none⟩ = some (.slice (some ⟨bk, ok, none⟩) nn dk) ∧ w'.cell? ⟨bk, ok + i, none⟩ = some (.bool q2)) (by kernel_rfl) ⟨t0, t1, t2, t3, t4, t5, t6, t7, t8, t9, t10, t11, t12⟩ (fun hS => ?_)
      refine tkH 0 ?_
      refine tkH 1 ?_
      refine tkH 2 ?_
      refine tkH 3 ?_
      refine tkH 4 ?_
      refine tkH 6 ?_
      refine tkH 7 ?_
      refine tkH 8 ?_
      refine tkH 9 ?_
      refine tkH 10 ?_
      refine oneH 5 (fun K hK => ?_)
      go_simp
      refine (HQX.out _).mono ?_
      rintro e wa ⟨rfl, hba'⟩
      have HBa := dh (HBr.out.trans ((below_undrew hba').mono HBr.out.size))
      have HWa := dh (HBW.out.trans ((below_undrew hba').mono HBW.out.size))
      clear hba'
      dsimp only
      refine hK.out _ _ (HSC.out _ HWa.out HBa.out) (fun hS => ?_)
      clear hK
      refine oneH 11 (fun K hK => ?_)
      go_simp
      refine (HQY.out _).mono ?_
      rintro e wb ⟨rfl, hbb'⟩
      have HBb := dh (HBa.out.trans (hbb'.mono HBa.out.size))
      have HWb := dh (HWa.out.trans (hbb'.mono HWa.out.size))
      clear hbb'
      dsimp only
      refine hK.out _ _ (HSC.out _ HWb.out HBb.out) (fun hS => ?_)
      clear hK
      refine tkH 12 ?_
      refine tkH 13 ?_
      refine skH 14 ?_
      refine skH 15 ?_
      refine skH 16 ?_
      refine skH 17 ?_
      refine skH 18 ?_
      refine skH 19 ?_
      refine skH 20 ?_
      refine tkH 21 ?_
      refine tkH 22 ?_
      refine skH 23 ?_
      refine skH 24 ?_
      refine skH 25 ?_
      refine skH 26 ?_
      refine skH 27 ?_
      refine skH 28 ?_
      refine skH 29 ?_
      refine tkH 30 ?_
      refine wpAnyH_done (by kernel_rfl) ?_ _
      clear hS
      go_wp2_with fail
      go_roundw
      case rel => exact ⟨k + 1, by omega, rfl, congrArg (Value.int .i64) (by omega), dh (HNO.out.next HN0.out), HBb⟩
      case measure => simp [intOf]; omega
     ·cases q1
      ·have HN0 : Hid ((relL (simL a) i k && relL (simL a) k i) = false) := dh (by rw [HQ1.out]; rfl)
       refine wp_region_held_drew (S := fun w' => w'.cell? ⟨w.1.size, 2, none⟩ = some (.slice (some ⟨bx, ox, none⟩) nn cn) ∧ w'.cell? ⟨bx, ox + k * 4, none⟩ = some (.int .u64 (x.need : Int)) ∧ w'.cell? ⟨bx, ox + k * 4 + 1, none⟩ = some (.int .u64 (x.ban : Int)) ∧ w'.cell? ⟨bx, ox + k * 4 + 2, none⟩ = some (.int .u64 (x.inn : Int)) ∧ w'.cell? ⟨bx, ox + k * 4 + 3, none⟩ = some (.slice Ax x.to.length cx) ∧ w'.cell? ⟨bx, ox + i * 4, none⟩ = some (.int .u64 (y.need : Int)) ∧ w'.cell? ⟨bx, ox + i * 4 + 1, none⟩ = some (.int .u64 (y.ban : Int)) ∧ w'.cell? ⟨bx, ox + i * 4 + 2, none⟩ = some (.int .u64 (y.inn : Int)) ∧ w'.cell? ⟨bx, ox + i * 4 + 3, none⟩ = some (.slice Ay y.to.length cy) ∧ w'.cell? ⟨br, or + i, none⟩ = some (.slice (some ⟨bi, oi, none⟩) nn di) ∧ w'.cell? ⟨bi, oi + k, none⟩ = some (.bool false) ∧ w'.cell? ⟨br, or + k, none⟩ = some (.slice (some ⟨bk, ok, none⟩) nn dk) ∧ w'.cell? ⟨bk, ok + i, none⟩ = some (.bool q2)) (by kernel_rfl) ⟨t0, t1, t2, t3, t4, t5, t6, t7, t8, t9, t10, t11, t12⟩ (fun hS => ?_)
       refine tkH 0 ?_
       refine tkH 1 ?_
       refine tkH 2 ?_
       refine tkH 3 ?_
       refine tkH 4 ?_
       refine tkH 6 ?_
       refine tkH 7 ?_
       refine tkH 8 ?_
       refine tkH 9 ?_
       refine tkH 10 ?_
       refine oneH 5 (fun K hK => ?_)
       go_simp
       refine (HQX.out _).mono ?_
       rintro e wa ⟨rfl, hba'⟩
       have HBa := dh (HBr.out.trans ((below_undrew hba').mono HBr.out.size))
       have HWa := dh (HBW.out.trans ((below_undrew hba').mono HBW.out.size))
       clear hba'
       dsimp only
       refine hK.out _ _ (HSC.out _ HWa.out HBa.out) (fun hS => ?_)
       clear hK
       refine oneH 11 (fun K hK => ?_)
       go_simp
       refine (HQY.out _).mono ?_
       rintro e wb ⟨rfl, hbb'⟩
       have HBb := dh (HBa.out.trans (hbb'.mono HBa.out.size))
       have HWb := dh (HWa.out.trans (hbb'.mono HWa.out.size))
       clear hbb'
       dsimp only
       refine hK.out _ _ (HSC.out _ HWb.out HBb.out) (fun hS => ?_)
       clear hK
       refine tkH 12 ?_
       refine tkH 13 ?_
       refine tkH 14 ?_
       refine tkH 15 ?_
       refine tkH 16 ?_
       refine tkH 17 ?_
       refine tkH 18 ?_
       refine tkH 19 ?_
       refine tkH 20 ?_
       refine tkH 21 ?_
       refine tkH 22 ?_
       refine skH 23 ?_
       refine skH 24 ?_
       refine skH 25 ?_
       refine skH 26 ?_
       refine skH 27 ?_
       refine skH 28 ?_
       refine skH 29 ?_
       refine tkH 30 ?_
       refine wpAnyH_done (by kernel_rfl) ?_ _
       clear hS
       go_wp2_with fail
       go_roundw
       case rel => exact ⟨k + 1, by omega, rfl, congrArg (Value.int .i64) (by omega), dh (HNO.out.next HN0.out), HBb⟩
       case measure => simp [intOf]; omega
      ·cases q2
       ·have HN0 : Hid ((relL (simL a) i k && relL (simL a) k i) = false) := dh (by rw [HQ1.out, HQ2.out]; rfl)
        refine wp_region_held_drew (S := fun w' => w'.cell? ⟨w.1.size, 2, none⟩ = some (.slice (some ⟨bx, ox, none⟩) nn cn) ∧ w'.cell? ⟨bx, ox + k * 4, none⟩ = some (.int .u64 (x.need : Int)) ∧ w'.cell? ⟨bx, ox + k * 4 + 1, none⟩ = some (.int .u64 (x.ban : Int)) ∧ w'.cell? ⟨bx, ox + k * 4 + 2, none⟩ = some (.int .u64 (x.inn : Int)) ∧ w'.cell? ⟨bx, ox + k * 4 + 3, none⟩ = some (.slice Ax x.to.length cx) ∧ w'.cell? ⟨bx, ox + i * 4, none⟩ = some (.int .u64 (y.need : Int)) ∧ w'.cell? ⟨bx, ox + i * 4 + 1, none⟩ = some (.int .u64 (y.ban : Int)) ∧ w'.cell? ⟨bx, ox + i * 4 + 2, none⟩ = some (.int .u64 (y.inn : Int)) ∧ w'.cell? ⟨bx, ox + i * 4 + 3, none⟩ = some (.slice Ay y.to.length cy) ∧ w'.cell? ⟨br, or + i, none⟩ = some (.slice (some ⟨bi, oi, none⟩) nn di) ∧ w'.cell? ⟨bi, oi + k, none⟩ = some (.bool true) ∧ w'.cell? ⟨br, or + k, none⟩ = some (.slice (some ⟨bk, ok, none⟩) nn dk) ∧ w'.cell? ⟨bk, ok + i, none⟩ = some (.bool false)) (by kernel_rfl) ⟨t0, t1, t2, t3, t4, t5, t6, t7, t8, t9, t10, t11, t12⟩ (fun hS => ?_)
        refine tkH 0 ?_
        refine tkH 1 ?_
        refine tkH 2 ?_
        refine tkH 3 ?_
        refine tkH 4 ?_
        refine tkH 6 ?_
        refine tkH 7 ?_
        refine tkH 8 ?_
        refine tkH 9 ?_
        refine tkH 10 ?_
        refine oneH 5 (fun K hK => ?_)
        go_simp
        refine (HQX.out _).mono ?_
        rintro e wa ⟨rfl, hba'⟩
        have HBa := dh (HBr.out.trans ((below_undrew hba').mono HBr.out.size))
        have HWa := dh (HBW.out.trans ((below_undrew hba').mono HBW.out.size))
        clear hba'
        dsimp only
        refine hK.out _ _ (HSC.out _ HWa.out HBa.out) (fun hS => ?_)
        clear hK
        refine oneH 11 (fun K hK => ?_)
        go_simp
        refine (HQY.out _).mono ?_
        rintro e wb ⟨rfl, hbb'⟩
        have HBb := dh (HBa.out.trans (hbb'.mono HBa.out.size))
        have HWb := dh (HWa.out.trans (hbb'.mono HWa.out.size))
        clear hbb'
        dsimp only
        refine hK.out _ _ (HSC.out _ HWb.out HBb.out) (fun hS => ?_)
        clear hK
        refine tkH 12 ?_
        refine tkH 13 ?_
        refine tkH 14 ?_
        refine tkH 15 ?_
        refine tkH 16 ?_
        refine tkH 17 ?_
        refine tkH 18 ?_
        refine tkH 19 ?_
        refine tkH 20 ?_
        refine tkH 21 ?_
        refine tkH 22 ?_
        refine tkH 23 ?_
        refine tkH 24 ?_
        refine tkH 25 ?_
        refine tkH 26 ?_
        refine tkH 27 ?_
        refine tkH 28 ?_
        refine tkH 29 ?_
        refine tkH 30 ?_
        refine wpAnyH_done (by kernel_rfl) ?_ _
        clear hS
        go_wp2_with fail
        go_roundw
        case rel => exact ⟨k + 1, by omega, rfl, congrArg (Value.int .i64) (by omega), dh (HNO.out.next HN0.out), HBb⟩
        case measure => simp [intOf]; omega
       ·have HLK : Hid (likeF (simL a) i = k) := dh (HNO.out.hit hlk HQ1.out HQ2.out)
        have HNK : Hid (numM (simL a) a.nodes.length k = numM (simL a) a.nodes.length i) := dh (by
         have := num_like HOK.out HIA.out
         rwa [HLK.out] at this)
        refine wp_region_held_drew (S := fun w' => w'.cell? ⟨w.1.size, 2, none⟩ = some (.slice (some ⟨bx, ox, none⟩) nn cn) ∧ w'.cell? ⟨bx, ox + k * 4, none⟩ = some (.int .u64 (x.need : Int)) ∧ w'.cell? ⟨bx, ox + k * 4 + 1, none⟩ = some (.int .u64 (x.ban : Int)) ∧ w'.cell? ⟨bx, ox + k * 4 + 2, none⟩ = some (.int .u64 (x.inn : Int)) ∧ w'.cell? ⟨bx, ox + k * 4 + 3, none⟩ = some (.slice Ax x.to.length cx) ∧ w'.cell? ⟨bx, ox + i * 4, none⟩ = some (.int .u64 (y.need : Int)) ∧ w'.cell? ⟨bx, ox + i * 4 + 1, none⟩ = some (.int .u64 (y.ban : Int)) ∧ w'.cell? ⟨bx, ox + i * 4 + 2, none⟩ = some (.int .u64 (y.inn : Int)) ∧ w'.cell? ⟨bx, ox + i * 4 + 3, none⟩ = some (.slice Ay y.to.length cy) ∧ w'.cell? ⟨br, or + i, none⟩ = some (.slice (some ⟨bi, oi, none⟩) nn di) ∧ w'.cell? ⟨bi, oi + k, none⟩ = some (.bool true) ∧ w'.cell? ⟨br, or + k, none⟩ = some (.slice (some ⟨bk, ok, none⟩) nn dk) ∧ w'.cell? ⟨bk, ok + i, none⟩ = some (.bool true)) (by kernel_rfl) ⟨t0, t1, t2, t3, t4, t5, t6, t7, t8, t9, t10, t11, t12⟩ (fun hS => ?_)
        refine tkH 0 ?_
        refine tkH 1 ?_
        refine tkH 2 ?_
        refine tkH 3 ?_
        refine tkH 4 ?_
        refine tkH 6 ?_
        refine tkH 7 ?_
        refine tkH 8 ?_
        refine tkH 9 ?_
        refine tkH 10 ?_
        refine oneH 5 (fun K hK => ?_)
        go_simp
        refine (HQX.out _).mono ?_
        rintro e wa ⟨rfl, hba'⟩
        have HBa := dh (HBr.out.trans ((below_undrew hba').mono HBr.out.size))
        have HWa := dh (HBW.out.trans ((below_undrew hba').mono HBW.out.size))
        clear hba'
        dsimp only
        refine hK.out _ _ (HSC.out _ HWa.out HBa.out) (fun hS => ?_)
        clear hK
        refine oneH 11 (fun K hK => ?_)
        go_simp
        refine (HQY.out _).mono ?_
        rintro e wb ⟨rfl, hbb'⟩
        have HBb := dh (HBa.out.trans (hbb'.mono HBa.out.size))
        have HWb := dh (HWa.out.trans (hbb'.mono HWa.out.size))
        clear hbb'
        dsimp only
        refine hK.out _ _ (HSC.out _ HWb.out HBb.out) (fun hS => ?_)
        clear hK
        refine tkH 12 ?_
        refine tkH 13 ?_
        refine tkH 14 ?_
        refine tkH 15 ?_
        refine tkH 16 ?_
        refine tkH 17 ?_
        refine tkH 18 ?_
        refine tkH 19 ?_
        refine tkH 20 ?_
        refine tkH 21 ?_
        refine tkH 22 ?_
        refine tkH 23 ?_
        refine tkH 24 ?_
        refine tkH 25 ?_
        refine tkH 26 ?_
        refine tkH 27 ?_
        refine tkH 28 ?_
        refine tkH 29 ?_
        refine tkH 30 ?_
        refine wpAnyH_done (by kernel_rfl) ?_ _
        clear hS
        have hbx := HDX.out wb HBb.out
        have hlook := mapI_look (HMP.out.blk (HBb.out.block _ HMP.out.lt)) (k : Int) (by omega) false
        rw [HNU.out k hlk, HNK.out] at hlook
        simp only [Option.getD_some, Bool.false_eq_true, if_false] at hlook
        obtain ⟨wu, hup, hg1, hgr⟩ := mapI_update (HMP.out.blk (HBb.out.block _ HMP.out.lt)) (i : Int) (by omega) (by omega) (.int .i64 ((numM (simL a) a.nodes.length i : Nat) : Int))
        obtain ⟨g', hp⟩ := putG_ex g (.int .i64 (i : Int)) (.int .i64 ((numM (simL a) a.nodes.length i : Nat) : Int))
        have HNU2 : Hid (NumG a (i + 1) g') := dh (HNU.out.put hp)
        have HMP2 := dh (hg1 g' hp)
        have HTC2 : Hid (Tch (fun x => x = D.1.size) W4 wu) := dh ((HTC.out.then_ (below_tch HBb.out)).grown hgr (fun q e _ => (Option.some.inj e).symm))
        have HLD : Hid (leadU a (i + 1) = leadU a i) := dh (by rw [leadU_snoc, if_neg (fun e => by have := (lead_at HIA.out).1 e; rw [HLK.out] at this; omega), List.append_nil])
        have HKO2 : Hid (wu.ownsRow W4.1.size 3 1 (.slice Kv (leadU a i).length kcv) (leadU a i).length (icells (natI (leadU a i)))) := dh (own_tch (own_below HKO.out HBb.out) ((Tch.refl (fun q => q = D.1.size) wb).grown hgr (fun q e _ => (Option.some.inj e).symm)) (fun y hy e => by
         have e : y = D.1.size := e
         have := (HKO.out.lt y hy).1
         omega))
        have e1 : ((k : Int) == (i : Int)) = false := by simp; omega
        generalize numM (simL a) a.nodes.length i = nv at *
        clear hg1 hgr hp t0 t1 t2 t3 t4 t5 t6 t7 t8 t9 t10 t11 t12 heq
        go_wp2_with fail
        go_roundw
        case rel => exact ⟨i + 1, m + 1, g', by omega, by omega, congrArg (Value.int .i64) (by omega), dh (by rw [HLD.out]; exact HKO2.out), HMP2, HNU2, HTC2⟩
        case measure => simp [intOf]; omega
    ·have hki : k = i := by omega
     have HLK : Hid (likeF (simL a) i = i) := dh (by have := HNO.out; rw [hki] at this; exact this.all)
     have HLD : Hid (leadU a (i + 1) = leadU a i ++ [i]) := dh (by rw [leadU_snoc, if_pos ((lead_at HIA.out).2 HLK.out)])
     have hln := leadU_le a i
     obtain ⟨ln, hlen⟩ := xQ (leadU a i).length
     have HNV : Hid (numM (simL a) a.nodes.length i = ln) := dh (by rw [← hlen]; exact num_lead HLK.out)
     have hbx := HDX.out wr HBr.out
     obtain ⟨wu, hup, hg1, hgr⟩ := mapI_update (HMP.out.blk (HBr.out.block _ HMP.out.lt)) (i : Int) (by omega) (by omega) (.int .i64 (ln : Int))
     obtain ⟨g', hp⟩ := putG_ex g (.int .i64 (i : Int)) (.int .i64 (ln : Int))
     have HNU2 : Hid (NumG a (i + 1) g') := dh (HNU.out.put (by rw [HNV.out]; exact hp))
     have HMP2 := dh (hg1 g' hp)
     have HTC2 : Hid (Tch (fun x => x = D.1.size) W4 wu) := dh ((HTC.out.then_ (below_tch HBr.out)).grown hgr (fun q e _ => (Option.some.inj e).symm))
     have HKO2 : Hid (wu.ownsRow W4.1.size 3 1 (.slice Kv ln kcv) ln (icells (natI (leadU a i)))) := dh (by
      have h := own_tch (own_below HKO.out HBr.out) ((Tch.refl (fun q => q = D.1.size) wr).grown hgr (fun q e _ => (Option.some.inj e).symm)) (fun y hy e => by
       have e : y = D.1.size := e
       have := (HKO.out.lt y hy).1
       omega)
      rwa [hlen] at h)
     have hzu := HTC2.out.size
     have hnw := dh (heap_alloc_new wu (.cells #[.int .i64 (i : Int)] 3))
     have hle : ¬ (k : Int) < (i : Int) := by omega
     have HLN := dh hlen
     have hln2 : ln ≤ i := by omega
     rw [hlen]
     clear hg1 hgr hp hki hlen
     go_wp2_with (at_builtin; refine wpList_push rfl (.tmp 72) (.tmp 74) 22 rfl W4.1.size 3 1 8 sliceInt _ _ _ (HKO2.out.alloc _) rfl wu.1.size #[.int .i64 (i : Int)] rfl hnw.out rfl (by simp [Value.oneCell']) (by omega) (by omega) (by simp; omega) ?_; intro u' wA hown3 ht3 hat3 hne3; have HOA := dh hown3; have HTT := dh (Tch.trans ((Tch.refl _ wu).alloc _) ht3 (fun _ _ h => h)))
     have HMP3 := dh (HMP2.out.keep HTT.out (fun e => by have := (HKO2.out.lt _ e).1; omega))
     have HTC3 : Hid (Tch (fun x => x = D.1.size) W4 wA) := dh (HTC2.out.trans HTT.out (fun q hq e => by have := (HKO2.out.lt q e).1; omega))
     go_roundw
     case rel => exact ⟨i + 1, m + 1, g', by omega, by omega, congrArg (Value.int .i64) (by omega), dh (by rw [HLD.out, lA, natI_append, icells_append, HLN.out]; exact HOA.out), HMP3, HNU2, HTC3⟩
     case measure => simp [intOf]; omega
  ·have hin : i = nn := by omega
   have hle : ¬ (i : Int) < (nn : Int) := by omega
   have HKF : Hid (wr.ownsRow W4.1.size 3 1 _ (leadU a nn).length (icells (natI (leadU a nn)))) := dh (by have := HKO.out; rwa [hin] at this)
   have HNF : Hid (NumG a nn g) := dh (by have := HNU.out; rwa [hin] at this)
   obtain ⟨ks, hks⟩ := xQ (leadU a nn)
   have hkl : ks.length ≤ nn := by rw [← hks]; exact leadU_le a nn
   have HKS := dh hks
   rw [hks] at HKF
   obtain ⟨Kv, kcv, rfl, -⟩ := own_sl HKF.out
   clear hin HKO HNU hks
   rename World => V
   have hzV : W4.1.size ≤ V.1.size := HTC.out.size
   have HBV := HB5
   have hWV := HBV.out.size
   have HCV : Hid (∀ W', Below V.1.size V W' → W'.cell? ⟨w.1.size, 0, none⟩ = some (.int .i64 a.sets) ∧ W'.cell? ⟨w.1.size, 1, none⟩ = some (.slice Ai ni ci) ∧ W'.cell? ⟨w.1.size, 2, none⟩ = some (.slice An nn cn)) := dh (fun W' hb => HCL.out W' (HBV.out.trans (hb.mono hWV)))
   have HRV := dh (HR0.out.below HBV.out hBw)
   have hBV : B ≤ V.1.size := Nat.le_trans hBw hWV
   have HYV := dh ((HBV.out.block (w.1.size + 1) hww).trans HY0.out)
   have hyV : w.1.size + 1 < V.1.size := by omega
   have HBW := dh (HB0.out.trans (HBV.out.mono (show w.1.size ≤ W0.1.size by omega)))
   obtain ⟨f, hf⟩ := xQ (numM (simL a) a.nodes.length)
   have HFE := dh hf
   have hbxV : V.cell? ⟨D.1.size + 1, 0, none⟩ = some (.map (some D.1.size)) := by
    have h := (HTC.out.block (D.1.size + 1) hDs (fun e => by have e : D.1.size + 1 = D.1.size := e; omega)).trans HN4.out
    rw [cell_of_row _ _ _ _ _ (0, 0) h]; rfl
   have HBX := dh hbxV
   have HLF : Hid (∀ (W' : World) (l : List Int) (A : Option Addr) (n c : Nat), Below V.1.size V W' → Sl W' W'.1.size 1 A n c (icells l) → (∀ t ∈ l, isNd nn t = true) → l.length ≤ 1000000 → n = l.length → Calls Tryz.prog 23 #[.slice A n c, .pointer (some ⟨D.1.size + 1, 0, none⟩)] W' (IntsPost W' (onceI f l))) := dh (fun W' l A n c hb hs hl hll hn =>
    change_any f nn l A n c (D.1.size + 1) D.1.size m g W' W'.1.size hs lR hn (by omega) (bC hb (by omega) HBX.out) (by have := hb.size; omega) (HMP.out.blk (hb.block _ HMP.out.lt)) (fun q hq => by rw [← HFE.out]; exact HNF.out q hq) (fun q hq => by rw [← HFE.out]; have := num_le a (i := q) (by rw [← HNN.out]; exact hq); have := HNN.out; omega) (by omega) hl)
   have HGE : Hid (mergeA a = ⟨a.sets, onceI f a.init, ks.map (fun i => (a.at i).put (onceI f (a.at i).to))⟩) := dh (by
    unfold mergeA
    rw [merge_gen, genU, HFE.out, ← HKS.out, leadU, HNN.out])
   clear hf hbxV
   go_upto_region 21 with fail
   obtain ⟨x0, x1, -⟩ := HCV.out V bR
   go_cut [10] from 11 (fun p wF => ∃ ob vi, p = .pointer (some ⟨ob, 0, none⟩) ∧ V.1.size ≤ ob ∧ Hid (OutM V.1.size ob a.sets vi (onceI f a.init) (.slice none 0 0) [] [] wF) ∧ Hid (Below V.1.size V wF))
   case first =>
    refine wp_region_held_drew (S := fun w' => w'.cell? ⟨w.1.size, 0, none⟩ = some (.int .i64 a.sets) ∧ w'.cell? ⟨w.1.size, 1, none⟩ = some (.slice Ai ni ci)) (by kernel_rfl) ⟨x0, x1⟩ (fun hS => ?_)
    refine tkH 0 ?_
    refine tkH 1 ?_
    refine tkH 2 ?_
    refine tkH 3 ?_
    refine tkH 4 ?_
    refine wpAnyH_ready (rs := [5, 7]) (by kernel_rfl) (by simp) ?_
    refine (allReadyH_consD (i := 5) rfl (fun K hK => ?_) (allReadyH_consD (i := 7) rfl (fun K hK => ?_) AllReadyH.nil))
    ·skip
     go_simp
     refine (HLF.out _ a.init Ai ni ci (Below.drew bR) ((HRV.out.below (Below.drew bR) hBV).init.up (show B ≤ _ by first | exact hBV | exact Nat.le_trans hBV hbA.size)) (fun t ht => by rw [HNN.out]; exact HOK.out.1 t ht) hri HRV.out.eni).mono ?_
     rintro e w8 ⟨v8, rfl, ho8, hb8'⟩
     have hb8 : Below V.1.size V w8 := below_undrew hb8'
     obtain ⟨A8, c8, rfl, -⟩ := own_sl ho8
     dsimp only
     refine hK.out _ _ ⟨(HCV.out _ hb8).1, (HCV.out _ hb8).2.1⟩ (fun hS => ?_)
     clear hK
     refine tkH 6 ?_
     refine oneH 7 (fun K hK => ?_)
     obtain ⟨wA, hwA⟩ := xQ (w8.alloc (.cells #[.int .i64 0, .slice none 0 0, .slice none 0 0] 25))
     have hbA : Below V.1.size V wA := by rw [← hwA]; exact hb8.alloc hb8.size _
     have hzA : wA.1.size = w8.1.size + 1 := by rw [← hwA]; simp
     have haA : wA.1[w8.1.size]? = some (.cells #[.int .i64 0, .slice none 0 0, .slice none 0 0] 25) := by rw [← hwA]; exact heap_alloc_new w8 _
     have hoA := own_below ho8 (by rw [← hwA]; exact bR.alloc lR _ : Below w8.1.size w8 wA)
     go_simp
     refine hK.out _ _ ⟨(HCV.out _ hbA).1, (HCV.out _ hbA).2.1⟩ (fun hS => ?_)
     clear hK
     refine oneH 8 (fun K hK => ?_)
     obtain ⟨y0, y1, y2⟩ := box3A haA
     have f0 := frozen_of_row wA _ 0 _ _ haA
     have f1 := frozen_of_row wA _ 1 _ _ haA
     have f2 := frozen_of_row wA _ 2 _ _ haA
     have yl : w8.1.size < wA.1.size := (aI.1 haA).1
     have ob0 : V.1.size ≤ w8.1.size := by first | exact lR | exact hb8.size
     have hset := set3A (a := .int .i64 a.sets) (b := .slice A8 (onceI f a.init).length c8) (c := .slice none 0 0) haA rfl
     have htc := tch3A wA (w8.1.size) (.int .i64 a.sets) (.slice A8 (onceI f a.init).length c8) (.slice none 0 0)
     have hof := own_tch hoA htc (fun g hg e => own_ne_blk hoA haA (by decide) (by rw [hg, e]))
     obtain ⟨wF, hwF⟩ := xQ (((wA.setCell ⟨w8.1.size, 0, none⟩ (.int .i64 a.sets)).setCell ⟨w8.1.size, 1, none⟩ (.slice A8 (onceI f a.init).length c8)).setCell ⟨w8.1.size, 2, none⟩ (.slice none 0 0))
     rw [hwF] at hset htc hof
     have hbF : Below V.1.size V wF := hbA.trans (htc.below hbA.size (fun x hx e => by have e : x = w8.1.size := e; omega))
     have HOUT : Hid (OutM V.1.size (w8.1.size) a.sets (.slice A8 (onceI f a.init).length c8) (onceI f a.init) (.slice none 0 0) [] [] wF) := dh ⟨hset, own_base hof (Nat.zero_le _), NodesM.nil _ _⟩
     have HBF := dh hbF
     have OB0 := dh ob0
     clear hset htc hof
     go_simp
     try rw [hwF]
     refine hK.out _ _ ⟨(HCV.out _ hbF).1, (HCV.out _ hbF).2.1⟩ (fun hS => ?_)
     clear hK
     refine wpAnyH_done (by kernel_rfl) ?_ _
     go_wp2_with fail
     go_meet
     case rel => exact ⟨_, _, rfl, OB0.out, HOUT, HBF⟩
    ·skip
     obtain ⟨wA, hwA⟩ := xQ (V.drew.alloc (.cells #[.int .i64 0, .slice none 0 0, .slice none 0 0] 25))
     have hbA : Below V.1.size V wA := by rw [← hwA]; exact (Below.drew bR).alloc lR _
     have hzA : wA.1.size = V.1.size + 1 := by rw [← hwA]; simp
     have haA : wA.1[V.1.size]? = some (.cells #[.int .i64 0, .slice none 0 0, .slice none 0 0] 25) := by rw [← hwA]; exact heap_alloc_new V.drew _
     go_simp
     refine hK.out _ _ ⟨(HCV.out _ hbA).1, (HCV.out _ hbA).2.1⟩ (fun hS => ?_)
     clear hK
     refine oneH 5 (fun K hK => ?_)
     go_simp
     refine (HLF.out _ a.init Ai ni ci hbA ((HRV.out.below hbA hBV).init.up (show B ≤ _ by first | exact hBV | exact Nat.le_trans hBV hbA.size)) (fun t ht => by rw [HNN.out]; exact HOK.out.1 t ht) hri HRV.out.eni).mono ?_
     rintro e w8 ⟨v8, rfl, ho8, hb8'⟩
     have hb8 : Below V.1.size V w8 := hbA.trans (hb8'.mono hbA.size)
     obtain ⟨A8, c8, rfl, -⟩ := own_sl ho8
     have ha8 : w8.1[V.1.size]? = some (.cells #[.int .i64 0, .slice none 0 0, .slice none 0 0] 25) := (hb8'.block V.1.size (by rw [hzA]; omega)).trans haA
     dsimp only
     refine hK.out _ _ ⟨(HCV.out _ hb8).1, (HCV.out _ hb8).2.1⟩ (fun hS => ?_)
     clear hK
     refine tkH 6 ?_
     refine oneH 8 (fun K hK => ?_)
     obtain ⟨y0, y1, y2⟩ := box3A ha8
     have f0 := frozen_of_row w8 _ 0 _ _ ha8
     have f1 := frozen_of_row w8 _ 1 _ _ ha8
     have f2 := frozen_of_row w8 _ 2 _ _ ha8
     have yl : V.1.size < w8.1.size := (aI.1 ha8).1
     have ob0 : V.1.size ≤ V.1.size := by first | exact lR | exact hb8.size
     have hset := set3A (a := .int .i64 a.sets) (b := .slice A8 (onceI f a.init).length c8) (c := .slice none 0 0) ha8 rfl
     have htc := tch3A w8 (V.1.size) (.int .i64 a.sets) (.slice A8 (onceI f a.init).length c8) (.slice none 0 0)
     have hof := own_tch ho8 htc (fun g hg e => own_ne_blk ho8 ha8 (by decide) (by rw [hg, e]))
     obtain ⟨wF, hwF⟩ := xQ (((w8.setCell ⟨V.1.size, 0, none⟩ (.int .i64 a.sets)).setCell ⟨V.1.size, 1, none⟩ (.slice A8 (onceI f a.init).length c8)).setCell ⟨V.1.size, 2, none⟩ (.slice none 0 0))
     rw [hwF] at hset htc hof
     have hbF : Below V.1.size V wF := hb8.trans (htc.below hb8.size (fun x hx e => by have e : x = V.1.size := e; omega))
     have HOUT : Hid (OutM V.1.size (V.1.size) a.sets (.slice A8 (onceI f a.init).length c8) (onceI f a.init) (.slice none 0 0) [] [] wF) := dh ⟨hset, own_base hof (Nat.zero_le _), NodesM.nil _ _⟩
     have HBF := dh hbF
     have OB0 := dh ob0
     clear hset htc hof
     go_simp
     try rw [hwF]
     refine hK.out _ _ ⟨(HCV.out _ hbF).1, (HCV.out _ hbF).2.1⟩ (fun hS => ?_)
     clear hK
     refine wpAnyH_done (by kernel_rfl) ?_ _
     go_wp2_with fail
     go_meet
     case rel => exact ⟨_, _, rfl, OB0.out, HOUT, HBF⟩
   case rest =>
    obtain ⟨ob, vi, rfl, hob, HOUT, HBF⟩ := hcut
    obtain ⟨q0, q1, q2⟩ := HCV.out wc HBF.out
    clear x0 x1
    go_wp2_with fail
    clear q0 q1 q2
    go_loopw [12, 13, 92] (fun _ _ i wr' => ∃ (k : Nat) (vn : Value) (xs : List Value), k ≤ ks.length ∧ i = .int .i64 (k : Int) ∧ Hid (OutM V.1.size ob a.sets vi (onceI f a.init) vn ((ks.take k).map (fun i => (a.at i).put (onceI f (a.at i).to))) xs wr') ∧ Hid (Below V.1.size V wr')) (fun _ _ i _ => ks.length - (intOf i).toNat)
    case atStart => exact ⟨0, _, _, by omega, rfl, dh (by rw [List.take_zero]; exact HOUT.out), HBF⟩
    case round =>
     obtain ⟨k, vn, xs, hk, rfl, HOm, HBm⟩ := hrel
     clear HOUT HBF
     by_cases hlt : k < ks.length
     ·have wk : IntKind.i64.wrap ((k : Int) + 1) = (k : Int) + 1 := by rw [wI]; omega
      have hk0 : (0 : Int) ≤ (k : Int) := by omega
      have hk1 : (k : Int) < (ks.length : Int) := by omega
      obtain ⟨A', c', hf', hsk⟩ := own_sl (own_below HKF.out HBm.out)
      cases hf'
      obtain ⟨bq, oq, rfl, -, hcq0⟩ := hsk.rd.at_ (j := k) (icells_at (by simpa [natI] using hlt))
      have hck1 := hsk.cap
      have hck2 := hsk.max
      unfold maxLen at hck2
      obtain ⟨q, hq⟩ := xQ (ks[k])
      have HQL : Hid (q < nn) := dh (by rw [← hq]; exact leadU_lt (by rw [HKS.out]; exact mM hlt))
      have hql := HQL.out
      have hcq : wr.cell? ⟨bq, oq + k, none⟩ = some (.int .i64 (q : Int)) := by
       rw [hcq0]; simp only [natI, List.getElem_map, hq]
      have hp0 : (0 : Int) ≤ (q : Int) := by omega
      have hp1 : (q : Int) < (nn : Int) := by omega
      obtain ⟨q0, q1, q2⟩ := HCV.out wr HBm.out
      have hRX := HRV.out.below HBm.out hBV
      have hcn := (Exists.choose_spec hRX.nodes).1.cap
      have hmn := (Exists.choose_spec hRX.nodes).1.max
      unfold maxLen at hmn
      obtain ⟨bx, ox, nd, At, ct, hAn, hbx, hnd', d0, d1, d2, d3, hst⟩ := rd_aut hRX hql
      have HND : Hid (a.at q = nd) := dh (by unfold Aut.at; rw [gD, hnd']; rfl)
      have HNM := dh (List.mem_of_getElem? hnd')
      have HSR : Hid (ks.take (k + 1) = ks.take k ++ [q]) := dh (by rw [take_snoc ks k hlt, hq])
      have HST := dh hst
      subst hAn
      clear hRX hnd' hst hq hsk hcq0
      obtain ⟨Av, cv, rfl, -⟩ := own_sl HOm.out.nodes.own
      obtain ⟨ns, hns⟩ := xQ ((ks.take k).map (fun i => (a.at i).put (onceI f (a.at i).to)))
      have hnl : ns.length = k := by rw [← hns, List.length_map, List.length_take]; omega
      rw [hns, hnl] at HOm
      have HNS := dh hns
      have HNL := dh hnl
      obtain ⟨XA, hXA⟩ := xQ (wr.alloc (.cells #[.int .u64 (nd.need : Int), .int .u64 (nd.ban : Int), .int .u64 (nd.inn : Int), .slice At nd.to.length ct] 36))
      have hbXA : Below wr.1.size wr XA := by rw [← hXA]; exact bR.alloc lR _
      have hzXA : XA.1.size = wr.1.size + 1 := by rw [← hXA]; simp
      have hxA : XA.1[wr.1.size]? = some (.cells #[.int .u64 (nd.need : Int), .int .u64 (nd.ban : Int), .int .u64 (nd.inn : Int), .slice At nd.to.length ct] 36 (0, 0)) := by rw [← hXA]; exact heap_alloc_new wr _
      have HXC := dh hxA
      have HXA := dh hXA
      have HBA := dh (HBm.out.trans (hbXA.mono HBm.out.size))
      have HOA := dh (HOm.out.below hbXA)
      have HSTA := dh ((HST.out.below hbXA (show B ≤ wr.1.size by have := HBm.out.size; omega)).up (show B ≤ XA.1.size by have := HBm.out.size; omega))
      have HVG := dh (fun g (hg : (Value.slice Av k cv).ownBlock = some g) => (HOm.out.nodes.own.lt g hg).2)
      have hXAz := HBA.out.size
      clear hXA hbXA hxA hns hnl
      go_upto_region 26 with fail
      rw [HXA.out]
      obtain ⟨s0, s1, s2, s3⟩ := box4A HXC.out
      obtain ⟨r0, r1, r2⟩ := HOA.out.cells
      clear r0 r1 q0 q1 q2 d0 d1 d2 d3
      refine wp_region_U (S := fun w' => w'.cell? ⟨ob, 2, none⟩ = some (.slice Av k cv) ∧ w'.cell? ⟨wr.1.size, 0, none⟩ = some (.int .u64 (nd.need : Int)) ∧ w'.cell? ⟨wr.1.size, 1, none⟩ = some (.int .u64 (nd.ban : Int)) ∧ w'.cell? ⟨wr.1.size, 2, none⟩ = some (.int .u64 (nd.inn : Int)) ∧ w'.cell? ⟨wr.1.size, 3, none⟩ = some (.slice At nd.to.length ct)) 16 (by kernel_rfl) (⟨r2, s0, s1, s2, s3⟩) (fun hS => ?_)
      refine tkU 0 [] ?_
      refine tkU 1 [] ?_
      refine tkU 2 [] ?_
      refine tkU 3 [] ?_
      refine tkU 4 [] ?_
      refine tkU 5 [] ?_
      refine tkU 6 [] ?_
      refine tkU 7 [] ?_
      refine tkU 8 [] ?_
      refine tkU 9 [] ?_
      refine tkU 10 [] ?_
      refine wpAnyU_oneD (i := 11) rfl (by kernel_rfl) (fun K hK => ?_)
      go_simp
      refine (HLF.out _ nd.to At _ ct (Below.drew HBA.out) (HSTA.out.below (B' := XA.1.size) (Below.drew bR) lR) (fun t ht => by rw [HNN.out]; exact HOK.out.2 nd HNM.out t ht) (by have := HHR.out nd HNM.out; omega) rfl).mono ?_
      rintro e w8 ⟨v8, rfl, ho8, hb8'⟩
      have hb8 : Below XA.1.size XA w8 := below_undrew hb8'
      obtain ⟨A8, c8, rfl, -⟩ := own_sl ho8
      have HO8 := dh ho8
      have HB8 := dh hb8
      have HOM8 := dh (HOA.out.below hb8)
      have S8 : Hid (∀ W', Below w8.1.size w8 W' → W'.cell? ⟨wr.1.size, 0, none⟩ = some (.int .u64 (nd.need : Int)) ∧ W'.cell? ⟨wr.1.size, 1, none⟩ = some (.int .u64 (nd.ban : Int)) ∧ W'.cell? ⟨wr.1.size, 2, none⟩ = some (.int .u64 (nd.inn : Int)) ∧ W'.cell? ⟨wr.1.size, 3, none⟩ = some (.slice At nd.to.length ct)) := dh (fun W' hb => box4A ((hb.block wr.1.size (by have := HB8.out.size; omega)).trans ((HB8.out.block wr.1.size (by omega)).trans HXC.out)))
      clear ho8 hb8' hb8
      dsimp only
      refine hK.out _ _ ⟨HOM8.out.cells.2.2, S8.out _ bR⟩ (fun hS => ?_)
      clear hK
      refine tkU 12 [] ?_
      refine wpAnyU_oneD (i := 13) rfl (by kernel_rfl) (fun K hK => ?_)
      go_simp
      have tb := heap_alloc_new w8 (.cells #[.int .u64 (nd.need : Int), .int .u64 (nd.ban : Int), .int .u64 (nd.inn : Int), .slice A8 (onceI f nd.to).length c8] 36)
      obtain ⟨wY, hwY⟩ := xQ (w8.alloc (.cells #[.int .u64 (nd.need : Int), .int .u64 (nd.ban : Int), .int .u64 (nd.inn : Int), .slice A8 (onceI f nd.to).length c8] 36))
      have hbY : Below w8.1.size w8 wY := by rw [← hwY]; exact bR.alloc lR _
      have hOY := HOM8.out.below hbY
      have hz8 := HB8.out.size
      rw [hwY] at tb ⊢
      have HWY := dh hwY
      have hzY : wY.1.size = w8.1.size + 1 := by rw [← hwY]; simp
      clear hwY
      refine hK.out _ _ ⟨hOY.cells.2.2, S8.out _ hbY⟩ (fun hS => ?_)
      clear hK
      refine wpAnyU_oneD (i := 14) rfl (by kernel_rfl) (fun K hK => ?_)
      refine step_push rfl (.tmp 102) (.tmp 114) 23 rfl V.1.size 36 4 48 sliceANd _ _ _ hOY.nodes.own (by rfl) w8.1.size #[.int .u64 (nd.need : Int), .int .u64 (nd.ban : Int), .int .u64 (nd.inn : Int), .slice A8 (onceI f nd.to).length c8] (by rfl) tb rfl (by simp [Value.oneCell']) (by have := HNL.out; omega) (by omega) (by have := HBA.out.size; omega) ?_
      intro uZ wZ hownZ htZ hatZ _
      obtain ⟨gZ, cZ, hu⟩ := ownsRow_succ hownZ
      rw [HNL.out] at hu
      subst hu
      rw [← HWY.out] at htZ
      have hpush := HOM8.out.push (x := nd.put (onceI f nd.to)) (own_base HO8.out (Nat.zero_le _)) hownZ htZ
      obtain ⟨⟨fz, lz, cz⟩, hOZ⟩ := hpush
      have htz := Tch.trans ((Tch.refl _ w8).alloc _) htZ (fun _ _ e => e)
      have sz := box4A ((htz.block wr.1.size (by omega) (fun e => by have := HVG.out _ e; omega)).trans ((HB8.out.block wr.1.size (by omega)).trans HXC.out))
      have HOZ := dh hOZ
      have HBZ := dh ((HBA.out.trans (HB8.out.mono HBA.out.size)).trans (htz.below (show V.1.size ≤ w8.1.size by have := HBA.out.size; omega) (fun q hq e => by have := (HOM8.out.nodes.own.lt q e).1; omega)))
      clear hOZ htZ htz hatZ hownZ
      refine hK.out _ _ ⟨cz, sz⟩ (fun hS => ?_)
      clear hK
      refine tkU 15 [] ?_
      refine wpAnyU_lastD (i := 16) rfl (by kernel_rfl) (by kernel_rfl) (fun K hK => ?_)
      go_simp
      refine hK.out _ _ ?_
      clear hK
      refine wpAnyU_done (by kernel_rfl) ?_
      clear hS r2 s0 s1 s2 s3
      have hO := HOZ.out
      rw [← HND.out] at hO
      have hmp : (ks.take (k + 1)).map (fun i => (a.at i).put (onceI f (a.at i).to)) = ns ++ [(a.at q).put (onceI f (a.at q).to)] := by rw [HSR.out, List.map_append, HNS.out]; rfl
      rw [← hmp] at hO
      have HOF := dh hO
      have HBG := dh (HBZ.out.setCell (p := ⟨ob, 2, none⟩) (show V.1.size ≤ ob from hob) (.slice (some ⟨gZ, 0, none⟩) (k + 1) cZ))
      clear hO hmp fz lz cz sz
      go_wp2_with fail
      go_roundw
      case rel => exact ⟨k + 1, _, _, by omega, congrArg (Value.int .i64) (by omega), HOF, HBG⟩
      case measure => simp [intOf]; omega
     ·have hkn : k = ks.length := by omega
      have hle : ¬ (k : Int) < (ks.length : Int) := by omega
      rw [hkn, tL lR] at HOm
      clear hkn
      have hout := HOm.out
      obtain ⟨Ai', ci', An', cn', hvi, hvn, -⟩ := hout.rd
      obtain ⟨n1, hn1⟩ := xQ (onceI f a.init).length
      obtain ⟨n2, hn2⟩ := xQ (ks.map (fun i => (a.at i).put (onceI f (a.at i).to))).length
      rw [hn1] at hvi
      rw [hn2] at hvn
      rw [hvi, hvn] at hout
      have HOX := dh hout
      obtain ⟨r0, r1, r2⟩ := hout.cells
      have hy := (HBm.out.block (w.1.size + 1) hyV).trans HYV.out
      obtain ⟨y0, y1, y2⟩ := box3A hy
      have f0 : wr.frozen? ⟨w.1.size + 1, 0, none⟩ = false := frozen_of_row wr _ 0 _ _ hy
      have f1 : wr.frozen? ⟨w.1.size + 1, 1, none⟩ = false := frozen_of_row wr _ 1 _ _ hy
      have f2 : wr.frozen? ⟨w.1.size + 1, 2, none⟩ = false := frozen_of_row wr _ 2 _ _ hy
      have yl : w.1.size + 1 < wr.1.size := (aI.1 hy).1
      have HY := dh hy
      clear hn1 hn2 hvi hvn hout hy
      go_wp2_with fail
      have hset := set3A (a := .int .i64 a.sets) (b := .slice Ai' n1 ci') (c := .slice An' n2 cn') HY.out rfl
      have htc := tch3A wr (w.1.size + 1) (.int .i64 a.sets) (.slice Ai' n1 ci') (.slice An' n2 cn')
      obtain ⟨Y, hY⟩ := xQ (((wr.setCell ⟨w.1.size + 1, 0, none⟩ (.int .i64 a.sets)).setCell ⟨w.1.size + 1, 1, none⟩ (.slice Ai' n1 ci')).setCell ⟨w.1.size + 1, 2, none⟩ (.slice An' n2 cn'))
      rw [hY] at hset htc ⊢
      clear hY y0 y1 y2 f0 f1 f2 r0 r1 r2
      have hOY := HOX.out.keep htc (fun e => by have e : ob = w.1.size + 1 := e; omega) (fun g hg e => by have e : g = w.1.size + 1 := e; exact own_ne_blk HOX.out.nodes.own HY.out (by decide) (by rw [hg, e])) (fun u' n ys ho g hg e => by have e : g = w.1.size + 1 := e; exact own_ne_blk ho HY.out (by decide) (by rw [hg, e]))
      have hbY : Below w.1.size w Y := (HBW.out.trans (HBm.out.mono HBW.out.size)).trans (htc.below (show w.1.size ≤ wr.1.size by omega) (fun y hy e => by have e : y = w.1.size + 1 := e; omega))
      obtain ⟨g0, g1, g2⟩ := box3A hset
      have hfin : AutOneS w (mergeA a) (.returned (.agg #[.int .i64 a.sets, .slice Ai' n1 ci', .slice An' n2 cn'])) Y := by
       rw [HGE.out]
       obtain ⟨_, _, _, _, e1, e2, hrd⟩ := hOY.rd
       cases e1
       cases e2
       exact ⟨_, _, _, _, _, _, rfl, hrd, hbY, hOY.sep⟩
      refine bodyPost_ret (v := .agg #[.int .i64 a.sets, .slice Ai' n1 ci', .slice An' n2 cn']) ?_ rfl ?_
      ·simp [results, Tryz.results11, go_sem, g0, g1, g2]
      ·exact hfin
end Go.Proofs.YtiebpncpdbnelaaGreatDoor
