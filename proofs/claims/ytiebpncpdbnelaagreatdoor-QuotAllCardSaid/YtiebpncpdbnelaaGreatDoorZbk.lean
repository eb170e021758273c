/- Texts that stand one behind the other, in one file. -/
import Derived.Test.YtiebpncpdbnelaaGreatDoorAt8
import Derived.Test.YtiebpncpdbnelaaGreatDoorZbj
import Derived.OrdersIn
set_option maxHeartbeats 8000000
set_option maxRecDepth 100000
namespace Go.Proofs.YtiebpncpdbnelaaGreatDoor
open Go.RowKit
theorem askL_self {a : Aut} {n k : Nat} (hk : k < n) (i : Nat) : askL a (List.range n) (((i + 1 : Nat) : Int) - 1) k = (a.at k).inn.testBit i := by
 unfold askL
 have e1 : (((i + 1 : Nat) : Int) - 1) = (i : Int) := by omega
 have e2 : (List.range n).getD k 0 = k := by simp [List.getD, hk]
 rw [e1, e2, tN, decide_eq_false (show ¬ (i : Int) < 0 by omega), Bool.false_or]
theorem all_runs {a : Aut} {z : List Bool} (h : Gfp (openE a) (asksL a (List.range a.nodes.length)) z) {i : Nat} : z.getD i false = true ↔ Runs (openE a) (asksI (insA a) a.sets.toNat) i := by
 rw [gfp_runs h (by simp [asksL])]
 constructor
 ·refine Runs.congr (fun p hp => ?_)
  rcases List.mem_cons.1 hp with rfl | hp
  ·exact ⟨_, List.mem_map.2 ⟨0, List.mem_range.2 (by omega), rfl⟩, fun k _ => by simp [askL]⟩
  ·obtain ⟨i, hi, rfl⟩ := List.mem_map.1 hp
   exact ⟨_, List.mem_map.2 ⟨i + 1, List.mem_range.2 (by have := List.mem_range.1 hi; omega), rfl⟩, fun k hk => by
    rw [openE_len] at hk
    rw [askL_self hk]
    show _ = ((insA a).getD k 0).testBit i
    rw [insA_at]⟩
 ·refine Runs.congr (fun p hp => ?_)
  obtain ⟨j, hj, rfl⟩ := List.mem_map.1 hp
  have hj := List.mem_range.1 hj
  cases j with
  | zero => exact ⟨_, List.mem_cons_self .., fun k _ => by simp [askL]⟩
  | succ i => exact ⟨_, List.mem_cons_of_mem _ (List.mem_map.2 ⟨i, List.mem_range.2 (by omega), rfl⟩), fun k hk => by
    rw [openE_len] at hk
    rw [askL_self hk]
    show ((insA a).getD k 0).testBit i = _
    rw [insA_at]⟩
theorem use30_any (a : Aut) (Ai : Option Addr) (ni ci : Nat) (An : Option Addr) (nn cn : Nat) (w : World) (B : Nat) (h : AutRd w B a Ai ni ci An nn cn) (hB : B ≤ w.1.size) (hck : chkA a = 0) (hnd : ∀ x ∈ a.nodes, x.need < 2 ^ 64 ∧ x.ban < 2 ^ 64) (KE : Nat) (hr : ∀ x ∈ a.nodes, x.to.length ≤ KE) (hri : a.init.length ≤ 100000000) (hKE : KE ≤ 1000000) :
  Calls Tryz.prog 37 #[.agg #[.int .i64 a.sets, .slice Ai ni ci, .slice An nn cn]] w (NewRow w 4 1 nn (bcells (useL a)) False) := by
 obtain ⟨hn256, ⟨hs0, hs16⟩, hA, -⟩ := chk_iff.1 hck
 have hb0 : Below w.1.size w (w.alloc (.cells #[.int .i64 a.sets, .slice Ai ni ci, .slice An nn cn] 25)) := bR.alloc lR _
 have x0 := heap_alloc_new w (.cells #[.int .i64 a.sets, .slice Ai ni ci, .slice An nn cn] 25)
 have z0 : (w.alloc (.cells #[.int .i64 a.sets, .slice Ai ni ci, .slice An nn cn] 25)).1.size = w.1.size + 1 := by simp
 obtain ⟨W0, hW0⟩ := xQ (w.alloc (.cells #[.int .i64 a.sets, .slice Ai ni ci, .slice An nn cn] 25))
 rw [hW0] at hb0 x0 z0
 have HR0 := dh (h.below hb0 hB)
 have HNN := dh h.enn
 have hnn : nn ≤ 256 := by rw [HNN.out]; exact hn256
 have HOP := dh (openG_any a (.int .i64 a.sets) Ai ni ci An nn cn W0 B HR0.out (by omega) hA hnd (fun x hx => by have := hr x hx; omega) hri (by omega) rfl)
 have HW0 := dh hW0
 have HB0 := dh hb0
 have HX0 := dh x0
 have HZ0 := dh z0
 have HOK := dh hA
 have a0 : W0.cell? ⟨w.1.size, 0, none⟩ = some (.int .i64 a.sets) := cR x0
 have a1 : W0.cell? ⟨w.1.size, 1, none⟩ = some (.slice Ai ni ci) := cR x0
 have a2 : W0.cell? ⟨w.1.size, 2, none⟩ = some (.slice An nn cn) := cR x0
 have HA0 := dh a0
 have HA1 := dh a1
 have HA2 := dh a2
 have hwl : w.1.size < W0.1.size := by omega
 clear hW0 hb0 x0 z0 h hck hn256
 go_enter Tryz.func37, Tryz.ntmps37
 go_upto_region 1 with fail
 rw [HW0.out]
 go_wp2_with fail
 refine HOP.out.mono ?_
 rintro e w1 ⟨ai, gi, di, ae, ne, ce, al, nl, cl, rfl, hG, hb1, -⟩
 have HG1 := dh hG
 have HQI : Hid (gi = (openI a).length) := dh hG.lens.1
 have HQE : Hid (ne = nn) := dh (by have := hG.lens.2.1; rw [openE_len] at this; rw [this, HNN.out])
 have HB1 := dh hb1
 have hz1 := hb1.size
 clear hG hb1 a0 a1 a2
 obtain ⟨W2, hW2⟩ := xQ (w1.alloc (.cells #[.slice ai gi di, .slice ae ne ce, .slice al nl cl] 55))
 have hb2 : Below w1.1.size w1 W2 := by rw [← hW2]; exact bR.alloc lR _
 have hz2 : W2.1.size = w1.1.size + 1 := by rw [← hW2]; simp
 have hg2 : W2.1[w1.1.size]? = some (.cells #[.slice ai gi di, .slice ae ne ce, .slice al nl cl] 55 (0, 0)) := by rw [← hW2]; exact heap_alloc_new w1 _
 obtain ⟨⟨g0, g1, g2⟩, -, -⟩ := blk3 hg2
 have HB2 := dh (HB1.out.trans (hb2.mono hz1))
 have HG2 := dh (HG1.out.below hb2 lR)
 have HAA : Hid (∀ W', Below W2.1.size W2 W' → (W'.cell? ⟨w.1.size, 0, none⟩ = some (.int .i64 a.sets) ∧ W'.cell? ⟨w.1.size, 1, none⟩ = some (.slice Ai ni ci) ∧ W'.cell? ⟨w.1.size, 2, none⟩ = some (.slice An nn cn) ∧ W'.cell? ⟨w1.1.size, 0, none⟩ = some (.slice ai gi di) ∧ W'.cell? ⟨w1.1.size, 1, none⟩ = some (.slice ae ne ce) ∧ W'.cell? ⟨w1.1.size, 2, none⟩ = some (.slice al nl cl))) :=
  dh (fun W' hb => ⟨bC hb (by omega) (bC HB2.out hwl HA0.out), bC hb (by omega) (bC HB2.out hwl HA1.out), bC hb (by omega) (bC HB2.out hwl HA2.out), bC hb (by omega) g0, bC hb (by omega) g1, bC hb (by omega) g2⟩)
 have HW2 := dh hW2
 have hqil : gi ≤ 100000000 := by
  rw [HQI.out]
  exact Nat.le_trans (List.length_filter_le _ _) hri
 have hqk : ne * KE ≤ 1000000000 := by
  have : ne * KE ≤ 256 * KE := Nat.mul_le_mul_right _ (by have := HQE.out; omega)
  omega
 have HRE : Hid (∀ W', Below W2.1.size W2 W' → Calls Tryz.prog 59 #[.agg #[.slice ai gi di, .slice ae ne ce, .slice al nl cl], .slice ai gi di] W' (NewRow W' 4 1 ne ((reachG ne (openE a) (openI a)).map .bool) False)) :=
  dh (fun W' hb => reachR_any ai ae al gi di ne ce nl cl ⟨openI a, openE a, List.replicate nn 0⟩ (openI a) ai gi di W' W'.1.size ((HG2.out.below hb (by omega)).up (by have := hb.size; omega)) ((HG2.out.below hb (by omega)).hi.up (by have := hb.size; omega)) HQI.out lR (by have := HQE.out; omega) (by omega) (fun r hr' => by have := open_row hr r hr'; omega))
 have HSM : Hid (∀ W', Calls Tryz.prog 61 #[.agg #[.int .i64 a.sets, .slice Ai ni ci, .slice An nn cn]] W' (IntsPost W' (natI (List.range nn)))) := dh (fun W' => selfR_any a (.int .i64 a.sets) Ai ni ci An nn cn W' (by omega))
 have HAL : Hid (∀ W' Ao co, Below W2.1.size W2 W' → Sl W' W'.1.size 1 Ao ne co (icells (natI (List.range nn))) → Calls Tryz.prog 60 #[.agg #[.int .i64 a.sets, .slice Ai ni ci, .slice An nn cn], .agg #[.slice ai gi di, .slice ae ne ce, .slice al nl cl], .slice Ao ne co] W' (fun e w' => ∃ zg, Gfp (openE a) (asksL a (List.range nn)) zg ∧ NewRow W' 4 1 ne (bcells zg) False e w')) :=
  dh (fun W' Ao co hb hs => all30_any a Ai ni ci An nn cn (openE a) ai ae al gi di ne ce nl cl (openI a) (List.replicate nn 0) (List.range nn) Ao co W' W'.1.size ((((HR0.out.below HB2.out (by omega)).below hb (by omega))).up (by have := hb.size; omega)) ((HG2.out.below hb (by omega)).up (by have := hb.size; omega)) hs (by rw [List.length_range]; exact HQE.out) lR (fun x hx => List.mem_range.1 hx) (fun r hr' e he => by have := open_nd HOK.out r hr' e he; rwa [openE_len, ← HNN.out, ← HQE.out] at this) hs0 hs16 (by have := HQE.out; omega) (by omega) KE (open_row hr) hqk (by omega))
 clear hW2 hb2 hg2 g0 g1 g2
 go_upto_region 2 with fail
 rw [HW2.out]
 obtain ⟨k0, k1, k2, k3, k4, k5⟩ := HAA.out W2 bR
 refine wp_region_held_drew (S := fun w' => w'.cell? ⟨w.1.size, 0, none⟩ = some (.int .i64 a.sets) ∧ w'.cell? ⟨w.1.size, 1, none⟩ = some (.slice Ai ni ci) ∧ w'.cell? ⟨w.1.size, 2, none⟩ = some (.slice An nn cn) ∧ w'.cell? ⟨w1.1.size, 0, none⟩ = some (.slice ai gi di) ∧ w'.cell? ⟨w1.1.size, 1, none⟩ = some (.slice ae ne ce) ∧ w'.cell? ⟨w1.1.size, 2, none⟩ = some (.slice al nl cl)) (by kernel_rfl) ⟨k0, k1, k2, k3, k4, k5⟩ (fun hS => ?_)
 refine tkH 0 ?_
 refine tkH 1 ?_
 refine tkH 2 ?_
 refine tkH 4 ?_
 refine tkH 5 ?_
 refine tkH 6 ?_
 refine oneH 3 (fun K hK => ?_)
 go_simp
 refine (HRE.out _ (Below.drew bR)).mono ?_
 rintro e w5 ⟨v5, rfl, ho5, hb5', -⟩
 have hb5 : Below W2.1.size W2 w5 := below_undrew hb5'
 obtain ⟨A5, c5, rfl, -⟩ := own_sl ho5
 have HB5 := dh hb5
 have HO5 := dh ho5
 clear hb5 hb5' ho5
 dsimp only
 refine hK.out _ _ (HAA.out _ HB5.out) (fun hS => ?_)
 clear hK
 refine oneH 7 (fun K hK => ?_)
 go_simp
 refine (HSM.out _).mono ?_
 rintro e w6 ⟨v6, rfl, ho6, hb6⟩
 have HB6 := dh (HB5.out.trans (hb6.mono HB5.out.size))
 have hlr : (natI (List.range nn)).length = ne := by rw [HQE.out]; simp [natI]
 rw [hlr] at ho6
 obtain ⟨A6, c6, rfl, hs6⟩ := own_sl ho6
 have HS6 := dh hs6
 have HO56 := dh (own_below HO5.out hb6)
 clear hb6 ho6 hs6 hlr
 dsimp only
 refine hK.out _ _ (HAA.out _ HB6.out) (fun hS => ?_)
 clear hK
 refine oneH 8 (fun K hK => ?_)
 go_simp
 refine (HAL.out _ A6 c6 HB6.out HS6.out).mono ?_
 rintro e w7 ⟨zg, hgf, v7, rfl, ho7, hb7, -⟩
 have HB7 := dh (HB6.out.trans (hb7.mono HB6.out.size))
 obtain ⟨A7, c7, rfl, -⟩ := own_sl ho7
 have HO7 := dh ho7
 have HGF := dh hgf
 have HO57 := dh (own_below HO56.out hb7)
 clear hb7 ho7 hgf
 dsimp only
 refine hK.out _ _ (HAA.out _ HB7.out) (fun hS => ?_)
 clear hK
 refine tkH 9 ?_
 refine tkH 10 ?_
 refine wpAnyH_done (by kernel_rfl) ?_ _
 clear hS k0 k1 k2 k3 k4 k5
 obtain ⟨-, -, q2, -, -, -⟩ := HAA.out _ HB7.out
 have hz7 := HB7.out.size
 have hmk := run_make_row' (P := Tryz.prog) 48 4 (.bool false) 1 Tryz.underlying48 infoB8 rfl .i64 .i64 nn (by omega) (by omega)
 have HU : Hid (∀ i, i < nn → (useL a).getD i false = ((reachG ne (openE a) (openI a)).getD i false && zg.getD i false)) := dh (fun i hi => by
  have hia : i < a.nodes.length := by rw [← HNN.out]; exact hi
  have hqe : ne = a.nodes.length := by rw [HQE.out, HNN.out]
  have hgf := HGF.out
  rw [HNN.out] at hgf
  rw [Bool.eq_iff_iff, use_iff hia, Bool.and_eq_true]
  unfold UseP
  have e1 := reachG_iff (n := a.nodes.length) (E := openE a) (from_ := openI a) (i := (i : Int)) (isNd_iff.2 ⟨by omega, by omega⟩)
  rw [tN] at e1
  rw [hqe, e1, all_runs hgf])
 have HUL : Hid ((useL a).length = nn) := dh (by rw [HNN.out]; exact marksP_len _ _)
 generalize useL a = u at *
 obtain ⟨W8, hW8⟩ := xQ (w7.alloc (.cells (madeCells #[.bool false] nn) 4))
 have hb8 : Below w7.1.size w7 W8 := by rw [← hW8]; exact bR.alloc lR _
 have hz8 : W8.1.size = w7.1.size + 1 := by rw [← hW8]; simp
 have hr8 : W8.ownsRow w7.1.size 4 1 (.slice (some ⟨w7.1.size, 0, none⟩) nn nn) nn (bcells ((List.range 0).map (fun i => u.getD i false) ++ List.replicate (nn - 0) false)) := by
  have h1 := own_made (w := w7) (base := w7.1.size) (e := 4) (v := .bool false) (n := nn) lR (by unfold maxLen; omega)
  rw [hW8] at h1
  simpa [bcells] using h1
 have HR8 := dh hr8
 have H58 := dh (own_below HO57.out hb8)
 have H78 := dh (own_below HO7.out hb8)
 have HB8 := dh (HB7.out.trans (hb8.mono hz7))
 go_upto_region 4 with fail
 clear hmk hW8 q2 hr8 hb8
 go_wp2_with fail
 go_loopw [7] (fun i wr => ∃ k : Nat, k ≤ nn ∧ i = .int .i64 (k : Int) ∧ Hid (wr.ownsRow w7.1.size 4 1 (.slice (some ⟨w7.1.size, 0, none⟩) nn nn) nn (bcells ((List.range k).map (fun i => u.getD i false) ++ List.replicate (nn - k) false))) ∧ Hid (Tch (fun x => x = w7.1.size) W8 wr)) (fun i _ => nn - (intOf i).toNat)
 case atStart => exact ⟨0, by omega, rfl, HR8, dh (Tch.refl _ _)⟩
 case round =>
  obtain ⟨k, hk, rfl, HRr, HTr⟩ := hrel
  by_cases hlt : k < nn
  ·have wk : IntKind.i64.wrap ((k : Int) + 1) = (k : Int) + 1 := by rw [wI]; omega
   have hk0 : (0 : Int) ≤ (k : Int) := by omega
   have hk1 : (k : Int) < (nn : Int) := by omega
   have hkq : (k : Int) < (ne : Int) := by have := HQE.out; omega
   have h5 := own_tch H58.out HTr.out (fun g hg e => by have h1 := H58.out.lt g hg; have e : g = w7.1.size := e; have h9 := HO57.out.lt g hg; omega)
   have h7 := own_tch H78.out HTr.out (fun g hg e => by have e : g = w7.1.size := e; have h9 := HO7.out.lt g hg; omega)
   obtain ⟨A', c', hf, hs5⟩ := own_sl h5
   cases hf
   obtain ⟨A', c', hf, hs7⟩ := own_sl h7
   cases hf
   have hc5 := hs5.cap
   have hm5 := hs5.max
   have hc7 := hs7.cap
   have hm7 := hs7.max
   unfold maxLen at hm5 hm7
   have hl5 := hs5.len
   have hl7 := hs7.len
   have e5 : ((reachG ne (openE a) (openI a)).map Value.bool)[k]? = some (.bool ((reachG ne (openE a) (openI a)).getD k false)) := by
    rw [List.getElem?_map, gD, gE (by simp at hl5; omega)]; rfl
   have e7 : (bcells zg)[k]? = some (.bool (zg.getD k false)) := by
    rw [bcells, List.getElem?_map, gD, gE (by rw [bcells_len] at hl7; omega)]; rfl
   obtain ⟨b5, o5, rfl, hbl5, d5⟩ := hs5.rd.at_ e5
   obtain ⟨b7, o7, rfl, hbl7, d7⟩ := hs7.rd.at_ e7
   have hu := HU.out k hlt
   generalize (reachG ne (openE a) (openI a)).getD k false = r5 at *
   generalize zg.getD k false = r7 at *
   have HUJ := dh hu
   have hgb := own_getB HRr.out hlt
   have hf0 := hgb.1
   have hf1 := hgb.2.1
   have hgl := hgb.2.2.1
   have HS1 := dh (row_setB hlt (fun i => u.getD i false) false)
   clear e5 e7 hs5 hs7 h5 h7 hl5 hl7 hu hgb
   cases r5
   ·have HV : Hid (u.getD k false = false) := dh (by rw [HUJ.out]; rfl)
    go_wp2_with fail
    go_roundw
    case rel => exact ⟨k + 1, by omega, congrArg (Value.int .i64) (by omega), dh (by rw [← HS1.out, HV.out]; exact own_setB HRr.out), dh (HTr.out.setCell (p := ⟨w7.1.size, k, none⟩) (fun _ => rfl) _)⟩
    case measure => simp [intOf]; omega
   ·have HV : Hid (u.getD k false = r7) := dh (by rw [HUJ.out]; simp)
    go_wp2_with fail
    go_roundw
    case rel => exact ⟨k + 1, by omega, congrArg (Value.int .i64) (by omega), dh (by rw [← HS1.out, HV.out]; exact own_setB HRr.out), dh (HTr.out.setCell (p := ⟨w7.1.size, k, none⟩) (fun _ => rfl) _)⟩
    case measure => simp [intOf]; omega
  ·have hkn : k = nn := by omega
   have HFI : Hid (wr.ownsRow w7.1.size 4 1 (.slice (some ⟨w7.1.size, 0, none⟩) nn nn) nn (bcells u)) := dh (by
    have := HRr.out
    rw [hkn, Nat.sub_self, List.replicate_zero, List.append_nil] at this
    have e : (List.range nn).map (fun i => u.getD i false) = u := by
     rw [← HUL.out]
     refine List.ext_getElem (by simp) (fun i h1 h2 => ?_)
     simp [List.getD, h2]
    rwa [e] at this)
   clear hkn
   go_wp2_with fail
   go_ret
   exact ⟨.slice (some ⟨w7.1.size, 0, none⟩) nn nn, rfl, own_base HFI.out (by omega), ((HB0.out.trans (HB2.out.mono (by omega))).trans (HB8.out.mono (by omega))).trans (HTr.out.below (by have := HB8.out.size; omega) (fun x hx e => by have e : x = w7.1.size := e; omega)), by simp⟩
end Go.Proofs.YtiebpncpdbnelaaGreatDoor
namespace Go.Proofs.YtiebpncpdbnelaaGreatDoor
open Go.RowKit
theorem left30_any (u : List Bool) (l : List Int) (at_ : List Int) (A : Option Addr) (n c : Nat) (b1 b2 S q N : Nat) (Wd : List Nat) (Aa : Option Addr) (ca : Nat) (w : World) (B : Nat) (h1 : w.cell? ⟨b1, 0, none⟩ = some (.pointer (some ⟨S, 0, none⟩))) (hb1 : b1 < w.1.size)
  (h2 : w.cell? ⟨b2, 0, none⟩ = some (.slice Aa N ca)) (hb2 : b2 < w.1.size) (hX : BSet S q N Wd w) (hbit : ∀ i, i < N → bitOf Wd i = u.getD i false) (hat : ∀ i, i < N → u.getD i false = true → at_.getD i 0 = (numC u i : Int)) (hsa : Sl w B 1 Aa N ca (icells at_)) (hs : Sl w B 1 A n c (icells l)) (hB : B ≤ w.1.size) (hl : ∀ t ∈ l, isNd N t = true) (hln : l.length ≤ 100000000) :
  Calls Tryz.prog 31 #[.slice A n c, .pointer (some ⟨b1, 0, none⟩), .pointer (some ⟨b2, 0, none⟩)] w (IntsPost w (keptL u l)) := by
 have hn : n = l.length := by have := hs.len; rw [icells_len] at this; omega
 have hnA : N = at_.length := by have := hsa.len; rw [icells_len] at this; omega
 have hcap := hs.cap
 have hmax := hs.max
 have hcapa := hsa.cap
 have hmaxa := hsa.max
 unfold maxLen at hmax hmaxa
 subst hn
 have HS := dh hs
 have HSA := dh hsa
 have HNA := dh hnA
 have HX := dh hX
 have H1 := dh h1
 have H2 := dh h2
 have HBIT := dh hbit
 have HAT := dh hat
 have HL := dh hl
 clear hs hsa hnA hX h1 h2 hbit hat hl
 go_enter Tryz.func31, Tryz.ntmps31
 go_wp2_with fail
 go_loopw [10, 5] (fun i o wr => ∃ m : Nat, m ≤ l.length ∧ i = .int .i64 (m : Int) ∧ Hid (wr.ownsRow w.1.size 3 1 o (keptL u (l.take m)).length (icells (keptL u (l.take m)))) ∧ Hid (Below w.1.size w wr)) (fun i _ _ => l.length - (intOf i).toNat)
 case atStart => exact ⟨0, by omega, rfl, dh (World.ownsRow_nil _ _ _ _), dh bR⟩
 case round =>
  obtain ⟨m, hm, rfl, HO, HB⟩ := hrel
  have hz := HB.out.size
  by_cases hlt : m < l.length
  ·have wm : IntKind.i64.wrap ((m : Int) + 1) = (m : Int) + 1 := by rw [wI]; omega
   have hm0 : (0 : Int) ≤ (m : Int) := by omega
   have hm1 : (m : Int) < (l.length : Int) := by omega
   obtain ⟨b, off, rfl, hbl, hcl⟩ := rd_intS (HS.out.below HB.out hB) hlt
   obtain ⟨j, hj, hjN⟩ := isNd_nat (HL.out l[m] (mM hlt))
   have HSN := dh (keptL_snoc (u := u) hlt)
   have hXr := HX.out.below HB.out
   have HH := dh (bhas_any S q N Wd j wr hXr hjN)
   have c1 : wr.cell? ⟨b1, 0, none⟩ = some (.pointer (some ⟨S, 0, none⟩)) := bC HB.out hb1 H1.out
   have c2 : wr.cell? ⟨b2, 0, none⟩ = some (.slice Aa N ca) := bC HB.out hb2 H2.out
   have hbt := HBIT.out j hjN
   have hat := HAT.out j hjN
   obtain ⟨bA, oA, rfl, hbA, hclA⟩ := rd_intS (k := j) (HSA.out.below HB.out hB) (by rw [← HNA.out]; exact hjN)
   have hgA : at_.getD j 0 = at_[j]'(by rw [← HNA.out]; exact hjN) := by rw [gD, gE (by rw [← HNA.out]; exact hjN)]; rfl
   have hj0 : (0 : Int) ≤ (j : Int) := by omega
   have hj1 : (j : Int) < (N : Int) := by omega
   rw [hj] at hcl HSN
   rw [tN] at HSN
   rw [← hgA] at hclA
   have hle : (keptL u (l.take m)).length ≤ m := Nat.le_trans keptL_le (by rw [List.length_take]; omega)
   clear hj hXr hgA
   go_wp2_with fail
   refine HH.out.mono ?_
   rw [hbt]
   cases hub : u.getD j false
   ·rintro e w' ⟨rfl, rfl⟩
    have HPx : Hid (keptL u (l.take (m + 1)) = keptL u (l.take m)) := dh (by rw [HSN.out, hub]; simp)
    clear hub hat hbt
    go_wp2_with fail
    exact ⟨⟨m + 1, by omega, congrArg (Value.int .i64) (by omega), dh (by rw [HPx.out]; exact HO.out), HB⟩, by simp [intOf]; omega⟩
   ·rintro e w' ⟨rfl, rfl⟩
    have HPx : Hid (keptL u (l.take (m + 1)) = keptL u (l.take m) ++ [(numC u j : Int)]) := dh (by rw [HSN.out, hub]; simp)
    rw [hat hub] at hclA
    clear hub hat hbt HSN
    generalize keptL u (l.take m) = Y at *
    obtain ⟨Au, cu, rfl, -⟩ := own_sl HO.out
    have hnw := dh (heap_alloc_new wr (.cells #[.int .i64 (numC u j : Int)] 3))
    go_wp2_with (at_builtin; refine wpList_push rfl (.tmp 17) (.tmp 22) 22 rfl w.1.size 3 1 8 sliceInt _ _ _ (HO.out.alloc _) rfl wr.1.size #[.int .i64 (numC u j : Int)] rfl hnw.out rfl (by simp [Value.oneCell']) (by omega) (by omega) (by simp; omega) ?_; intro u' wA hown3 ht3 hat3 hne3; obtain ⟨g', cap', rfl, _⟩ := own_form hown3 (by omega); have HOA := dh hown3; have HBA := dh (HB.out.trans ((Tch.trans ((Tch.refl _ wr).alloc _) ht3 (fun _ _ h => h)).below hz (fun k hk e => by have := (HO.out.lt k e).1; omega))))
    exact ⟨⟨m + 1, by omega, congrArg (Value.int .i64) (by omega), dh (by rw [HPx.out, lA, icells_append]; simpa [icells] using HOA.out), HBA⟩, by simp [intOf]; omega⟩
  ·have hme : m = l.length := by omega
   have HO2 : Hid (wr.ownsRow w.1.size 3 1 u5 (keptL u l).length (icells (keptL u l))) := dh (by have := HO.out; rwa [hme, List.take_length] at this)
   clear HO
   go_wp2_with fail
   go_ret
   exact ⟨_, rfl, HO2.out, HB.out⟩
end Go.Proofs.YtiebpncpdbnelaaGreatDoor
namespace Go.Proofs.YtiebpncpdbnelaaGreatDoor
open Go.RowKit
def SepA (w : World) (a : Aut) (Ai : Option Addr) (ni ci : Nat) (An : Option Addr) (nn cn : Nat) : Prop :=
 ∀ (S : Nat → Prop) (W2 : World), Tch S w W2 → (∀ g, S g → g < w.1.size → ∃ cs, w.1[g]? = some (.cells cs 25 (0, 0))) → AutRd W2 W2.1.size a Ai ni ci An nn cn
def AutOneS (w : World) (a : Aut) (en : Ending) (w' : World) : Prop :=
 ∃ Ai ni ci An nn cn, en = .returned (.agg #[.int .i64 a.sets, .slice Ai ni ci, .slice An nn cn]) ∧ AutRd w' w'.1.size a Ai ni ci An nn cn ∧ Below w.1.size w w' ∧ SepA w' a Ai ni ci An nn cn
theorem SepA.below {w w' : World} {a : Aut} {Ai : Option Addr} {ni ci : Nat} {An : Option Addr} {nn cn : Nat} (h : SepA w a Ai ni ci An nn cn) (hb : Below w.1.size w w') : SepA w' a Ai ni ci An nn cn := fun S W2 ht hS =>
 h (fun g => S g) W2 (Tch.trans (⟨hb.os, hb.tape, hb.output, hb.size, fun i hi _ => hb.block i hi⟩ : Tch S w w') ht (fun _ _ e => e)) (fun g hg hl => by
  obtain ⟨cs, hc⟩ := hS g hg (Nat.lt_of_lt_of_le hl hb.size)
  exact ⟨cs, (hb.block g hl).symm.trans hc⟩)
theorem SepA.rd {w : World} {a : Aut} {Ai : Option Addr} {ni ci : Nat} {An : Option Addr} {nn cn : Nat} (h : SepA w a Ai ni ci An nn cn) : AutRd w w.1.size a Ai ni ci An nn cn := h (fun _ => False) w (Tch.refl _ w) (fun _ e => e.elim)
theorem sep_nil (w : World) : SepA w Aut.zero none 0 0 none 0 0 := fun _ W2 _ _ => autRd_nil W2 _
theorem OutM.sep {base ob : Nat} {sets : Int} {Ai An : Option Addr} {ni ci nn cn : Nat} {I : List Int} {ns : List ANd} {xs : List Value} {w : World} (h : OutM base ob sets (.slice Ai ni ci) I (.slice An nn cn) ns xs w) : SepA w ⟨sets, I, ns⟩ Ai ni ci An nn cn := fun S W2 ht hS => by
 have hno : ∀ {b' : Nat} {e : TypeId} {size n : Nat} {v : Value} {ys : List Value}, w.ownsRow b' e size v n ys → e ≠ 25 → ∀ g, v.ownBlock = some g → ¬ S g := fun ho hne g hg e => by
  obtain ⟨cs, hc⟩ := hS g e (ho.lt g hg).2
  exact own_ne_blk ho hc hne hg
 have h1 := own_tch h.init ht (hno h.init (by decide))
 have h2 := h.nodes.tch ht (hno h.nodes.own (by decide)) (fun u n ys ho => hno ho (by decide))
 obtain ⟨A1, c1, e1, s1⟩ := own_sl h1
 obtain ⟨A2, c2, e2, s2⟩ := own_sl h2.own
 cases e1
 cases e2
 refine ⟨rfl, rfl, s1, xs, s2, fun k x hk => ?_⟩
 obtain ⟨u, e0, e1, e2, e3, ho⟩ := h2.at_ k x hk
 obtain ⟨A, c, rfl, hs⟩ := own_sl ho
 exact ⟨A, c, e0, e1, e2, e3, hs⟩
theorem AutRd.tchA {w w' : World} {B : Nat} {a : Aut} {Ai An : Option Addr} {ni ci nn cn : Nat} {S : Nat → Prop} (h : AutRd w B a Ai ni ci An nn cn) (ht : Tch S w w') (hB : B ≤ w.1.size) (hS : ∀ b, b < B → ¬ S b) : AutRd w' B a Ai ni ci An nn cn := by
 obtain ⟨xs, h1, h2⟩ := h.nodes
 refine ⟨h.eni, h.enn, h.init.tch ht hB hS, xs, h1.tch ht hB hS, fun k x hk => ?_⟩
 obtain ⟨A, c, e0, e1, e2, e3, t⟩ := h2 k x hk
 exact ⟨A, c, e0, e1, e2, e3, t.tch ht hB hS⟩
end Go.Proofs.YtiebpncpdbnelaaGreatDoor
namespace Go.Proofs.YtiebpncpdbnelaaGreatDoor
open Go
section
variable {P : Program} {ops : Array Oper} {Q : Exit → Act → World → Prop} {md : Region.Mode} {S : World → Prop} {z : Nat}
def noDeferB (ops : Array Oper) : Bool := ops.toList.all (fun o => match o.op with | .defer _ => false | _ => true)
theorem noDefer_spec (h : noDeferB ops = true) {i : Nat} {o : Oper} (ho : ops[i]? = some o) : ∀ c, o.op ≠ .defer c := by
 intro c hc
 have hm : o ∈ ops.toList := by
  rw [← Array.getElem?_toList] at ho
  exact List.mem_of_getElem? ho
 have := List.all_eq_true.1 h o hm
 rw [hc] at this
 cases this
theorem rowsIn_wide' {r n : Nat} {row : String} {args : Array Value} {w : World} {R : Value → World → Prop} (h : Rows P row args w R) : RowsIn (Fence.wide.inRound r) n P row args w R :=
 fun c cs _ => let ⟨v, w', r', s⟩ := h c cs; ⟨v, w', r', stepsIn_wide.2 s⟩
theorem opIn_of {r n i : Nat} {K : Act → World → Prop} {a : Act} {w : World} (hd : noDeferB ops = true) (hl : ¬ LetsOut Q) (h : wpOp P ops Q i K a w) : wpOpIn (Fence.wide.inRound r) n P ops Q i K a w := by
 unfold wpOp at h
 unfold wpOpIn
 cases ho : ops[i]? with
 | none => rw [ho] at h; exact h
 | some o =>
  rw [ho] at h
  simp only at h ⊢
  split
  ·rename_i hw
   rw [if_pos hw] at h
   rcases h with h | h
   ·refine ⟨fun _ _ => trivial, ?_⟩
    rw [Oper.semAt_eq _ _ _ (noDefer_spec hd ho)]
    unfold Oper.wp at h
    revert h
    generalize (execOp a.eval o).run P w = res
    intro h
    cases res with
    | ok nx w' =>
     cases nx with
     | value v => exact h
     | skip => exact h
     | defer d => exact h
     | enter f args => exact ⟨fun hh => (by cases hh), CallsIn.inRound r (callsIn_wide.2 h)⟩
     | row row args => exact ⟨fun hh => (by cases hh), rowsIn_wide' h⟩
     | _ => exact h.elim
    | halt hh w' =>
     cases hh with
     | panic v => exact h
     | _ => exact h.elim
   ·exact absurd h.2 hl
  ·rename_i hw
   rw [if_neg hw] at h
   exact ⟨fun _ _ => trivial, h⟩
theorem anyIn_of {r n : Nat} (hd : noDeferB ops = true) (hl : ¬ LetsOut Q) : ∀ (fuel : Nat) (listed : Array Bool) (a : Act) (w : World), wpAny P md ops Q fuel listed a w → wpAnyIn (Fence.wide.inRound r) n P md ops Q fuel listed a w
 | 0, _, _, _, h => h
 | fuel + 1, _, _, _, h => ⟨h.1, fun i hi => wpOpIn_mono (fun a' w' h' => anyIn_of hd hl fuel _ a' w' h') (opIn_of hd hl (h.2 i hi))⟩
theorem wpIn_region_U {r n id : Nat} {a : Act} {w : World} (z : Nat) (hm : P.follows .mixedOrders = true) (hd : noDeferB ops = true) (hl : ¬ LetsOut Q) (hS : S w.drew)
  (h : S w.drew → wpAnyU P .any ops Q S z ops.size (Array.replicate ops.size false) a w.drew) : (Code.region id ops true).wpIn (Fence.wide.inRound r) n P Q a w :=
 wpIn_region_any hm (anyIn_of hd hl _ _ _ _ (wpAny_of_U _ _ _ _ (h hS)))
theorem wp_only {c : Code} {K : Act → World → Prop} {Q' : Exit → Act → World → Prop} {a : Act} {w : World} (h : c.wp P (Exit.then K (fun _ _ _ => False)) a w) : c.wp P (Exit.then K Q') a w :=
 wp_mono h (fun e a w hq => by cases e <;> first | exact hq | exact hq.elim)
theorem wpIn_norm {F : Fence} {n : Nat} {c : Code} {Q' : Exit → Act → World → Prop} {a : Act} {w : World} (h : c.wpIn F n P (Exit.then (fun a w => Q' .normal a w) (fun _ _ _ => False)) a w) : c.wpIn F n P Q' a w :=
 wpIn_mono h (fun e a w hq => by cases e <;> first | exact hq | exact hq.elim)
theorem postT_ok {α : Type} {I : List α × (Nat → Prop) → World → Prop} {Ix : Code → List α × (Nat → Prop) → World → Prop} {xs : List α} {N N' : Nat → Prop} {W W' : World} {a : Act} (h1 : Rnd N W N' W') (h2 : I (xs, N') W') : postT I Ix xs N W .normal a W' := ⟨N', h1, h2⟩
theorem lets_none {K : Act → World → Prop} : ¬ LetsOut (Exit.then K (fun _ _ _ => False)) := fun ⟨_, _, h⟩ => h
end
end Go.Proofs.YtiebpncpdbnelaaGreatDoor
