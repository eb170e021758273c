/- Texts that stand one behind the other, in one file. -/
import Derived.Test.YtiebpncpdbnelaaGreatDoorZbe
set_option maxHeartbeats 4000000
set_option maxRecDepth 100000
namespace Go.Proofs.YtiebpncpdbnelaaGreatDoor
open Go.RowKit Go.Shelf
attribute [local go_sem] Oper.semAt_some
theorem rowS_own {β : Type} (base : Nat) (e : TypeId) (size : Nat) (u : Value) (n : Nat) (f : β → List Value) (B : Nat) : OwnFrom B (fun (s : β) W => W.ownsRow base e size u n (f s)) :=
 fun s X Y row h hg hr => row_own base e size u n (f s) B () X Y row h hg hr
theorem infoB8 : (Tryz.prog.info? 4).map (fun i => (i.zero, i.size, i.bytes)) = some (some (.bool false), 1, 1) := by kernel_rfl
def goalP (n : Nat) (pre : List (List Nat)) : List Bool := (pre.flatten).foldl (fun r x => r.set x true) (List.replicate n false)
theorem goalP_snoc (n : Nat) (pre : List (List Nat)) (x : List Nat) : goalP n (pre ++ [x]) = x.foldl (fun r x => r.set x true) (goalP n pre) := by
 unfold goalP
 rw [List.flatten_append, List.foldl_append]
 simp
theorem goalP_len (n : Nat) (pre : List (List Nat)) : (goalP n pre).length = n := by
 unfold goalP
 have key : ∀ (l : List Nat) (r : List Bool), (l.foldl (fun r x => r.set x true) r).length = r.length := by
  intro l
  induction l with
  | nil => intro r; rfl
  | cons x l ih => intro r; rw [List.foldl_cons, ih, List.length_set]
 rw [key, List.length_replicate]
theorem lasting_in (m : Nat) (hm : 3 ≤ m) (I : List Int) (E : List (List Nd)) (L ins : List Nat) (s : Nat) (ai : Option Addr) (ni ci : Nat) (ae : Option Addr) (ne ce : Nat) (al : Option Addr) (nl cl : Nat) (ac : Option Addr) (nc cc : Nat) (B : Nat) (w : World)
  (h : PlayRd w B ai ni ci ae ne ce al nl cl ac nc cc I E L ins) (hB : B ≤ w.1.size) (hEn : ∀ r ∈ E, ∀ e ∈ r, isNd E.length e.op = true) (hN : ne ≤ 65536) (KE : Nat) (hr : ∀ r ∈ E, r.length ≤ KE) (hKE : ne * KE ≤ 1000000000) (hK2 : KE ≤ 1000000) (hil : ins.length = E.length) (h64 : ∀ x, ins.getD x 0 < 2 ^ 64) (hs : s ≤ 16)
  (hi : ni ≤ 1000000000) (hl : nl ≤ 17592186044416) :
  CallsIn Fence.wide m Tryz.prog 29 #[.agg #[.slice ai ni ci, .slice ae ne ce, .slice al nl cl, .slice ac nc cc, .int .u64 (allB s : Int)]] w (NewRow w 4 1 ne (bcells (lastR E ins s)) False) := by
 have h1m : 1 ≤ m := by omega
 have HNE := dh h.ene
 have HNC := dh h.enc
 have hcc := h.i.cap
 have hmc := h.i.max
 unfold maxLen at hmc
 have hnce : nc = ne := by rw [HNC.out, HNE.out, hil]
 subst hnce
 have hmk := run_make_row' (P := Tryz.prog) 48 4 (.bool false) 1 Tryz.underlying48 infoB8 rfl .i64 .i64 nc (by omega) (by omega)
 have hmk2 := fun X => playGood_any (.slice ai ni ci) (.slice ae nc ce) (.slice al nl cl) (.slice ac nc cc) (.int .u64 (allB s : Int)) X
 have HG := dh hmk2
 have HR := dh h
 have HIL := dh hil
 clear h hmk2 hil
 refine callsIn_of_wp_marks Tryz.func29 rfl trivial ?_ rfl
 simp only [Tryz.ntmps29, List.size_toArray, List.length_cons, List.length_nil, Nat.reduceAdd, Nat.reduceSub, Array.replicate_succ, Array.replicate_zero, List.push_toArray, List.append_toArray, List.nil_append, List.cons_append]
 gi_wp2_with (refine ⟨trivial, ?_⟩; gi_at_call 53; refine (callsIn_wide.2 (HG.out _)).mono ?_; rintro e w' ⟨rfl, rfl⟩)
 obtain ⟨W0, hW0⟩ := xQ ((((w.alloc (.cells #[.slice ai ni ci, .slice ae nc ce, .slice al nl cl, .slice ac nc cc, .int .u64 (allB s : Int)] 57)).alloc (.cells (madeCells #[.bool false] nc) 4)).alloc (.cells #[.slice (some ⟨w.1.size + 1, 0, none⟩) nc nc] 48)).alloc (.cells #[.slice ai ni ci, .slice ae nc ce, .slice al nl cl, .slice ac nc cc, .int .u64 (allB s : Int)] 57))
 have hz0 : W0.1.size = w.1.size + 4 := by rw [← hW0]; simp
 have hb0 : Below w.1.size w W0 := by rw [← hW0]; exact ((((Below.refl _ w).alloc lR _).alloc (by simp) _).alloc (by simp; omega) _).alloc (by simp; omega) _
 have hrow0 : W0.ownsRow w.1.size 4 1 (.slice (some ⟨w.1.size + 1, 0, none⟩) nc nc) nc (bcells (List.replicate nc false)) := by
  have h1 := own_made (w := w.alloc (.cells #[.slice ai ni ci, .slice ae nc ce, .slice al nl cl, .slice ac nc cc, .int .u64 (allB s : Int)] 57)) (base := w.1.size) (e := 4) (v := .bool false) (n := nc) (by simp) (by unfold maxLen; omega)
  rw [World.size_alloc] at h1
  have h2 := (h1.alloc (.cells #[.slice (some ⟨w.1.size + 1, 0, none⟩) nc nc] 48)).alloc (.cells #[.slice ai ni ci, .slice ae nc ce, .slice al nl cl, .slice ac nc cc, .int .u64 (allB s : Int)] 57)
  rw [hW0] at h2
  rw [bcells, List.map_replicate]
  exact h2
 have hbx : Boxed W0 (w.1.size + 1 + 1) 48 (.slice (some ⟨w.1.size + 1, 0, none⟩) nc nc) := by
  rw [← hW0]
  have := (Boxed.new ((w.alloc (.cells #[.slice ai ni ci, .slice ae nc ce, .slice al nl cl, .slice ac nc cc, .int .u64 (allB s : Int)] 57)).alloc (.cells (madeCells #[.bool false] nc) 4)) 48 (.slice (some ⟨w.1.size + 1, 0, none⟩) nc nc)).alloc (.cells #[.slice ai ni ci, .slice ae nc ce, .slice al nl cl, .slice ac nc cc, .int .u64 (allB s : Int)] 57)
  simpa only [World.size_alloc] using this
 have hp1 : W0.1[w.1.size]? = some (.cells #[.slice ai ni ci, .slice ae nc ce, .slice al nl cl, .slice ac nc cc, .int .u64 (allB s : Int)] 57 (0, 0)) := by
  rw [← hW0]
  rw [Below.heap_alloc _ _ _ (by simp; omega), Below.heap_alloc _ _ _ (by simp; omega), Below.heap_alloc _ _ _ (by simp)]
  exact heap_alloc_new w _
 have hp2 : W0.1[w.1.size + 1 + 1 + 1]? = some (.cells #[.slice ai ni ci, .slice ae nc ce, .slice al nl cl, .slice ac nc cc, .int .u64 (allB s : Int)] 57 (0, 0)) := by
  rw [← hW0]
  have := heap_alloc_new (((w.alloc (.cells #[.slice ai ni ci, .slice ae nc ce, .slice al nl cl, .slice ac nc cc, .int .u64 (allB s : Int)] 57)).alloc (.cells (madeCells #[.bool false] nc) 4)).alloc (.cells #[.slice (some ⟨w.1.size + 1, 0, none⟩) nc nc] 48)) (.cells #[.slice ai ni ci, .slice ae nc ce, .slice al nl cl, .slice ac nc cc, .int .u64 (allB s : Int)] 57)
  simpa only [World.size_alloc] using this
 have HR0 := dh (HR.out.below hb0 hB)
 have HB0 := dh hb0
 rw [hW0]
 clear hW0 hmk hb0
 have hM0 : ∀ k, (fun k => k = w.1.size + 1) k → k < W0.1.size := fun k e => by have e : k = w.1.size + 1 := e; omega
 refine wpIn_rangeFunc_R rfl h1m (gf := 69) (lb := #[.pointer (some ⟨w.1.size + 1 + 1 + 1, 0, none⟩)]) rfl trivial (enters_of Tryz.func69 (by kernel_rfl) rfl)
  (good_T (m - 1) (by omega) E ins s (.slice ai ni ci) (.slice al nl cl) ae nc ce ac nc cc (w.1.size + 1 + 1 + 1) B (fun k => k = w.1.size + 1) W0 hM0 (fun k e => by have e : k = w.1.size + 1 := e; omega) hp2 (fun e => by omega) HR0.out.g.he HR0.out.i (by omega) hEn (by omega) (fun r h => by have := hr r h; omega) HIL.out h64 hs)
  hM0 (fun x N args W hx => by obtain ⟨u, rfl, _⟩ := hx; rfl) (fun x N N' args W hN hx => hx.mono hN)
  (fun (s : List (List Nat) × (Nat → Prop)) V => V.ownsRow w.1.size 4 1 (.slice (some ⟨w.1.size + 1, 0, none⟩) nc nc) nc (bcells (goalP nc s.1)) ∧ (Rnd (fun k => k = w.1.size + 1) W0 s.2 V ∧ s.2 (w.1.size + 1)))
  (fun c s V => False)
  (OwnFrom.and (rowS_own _ _ _ _ _ (fun s : List (List Nat) × (Nat → Prop) => bcells (goalP nc s.1)) _) (OwnFrom.and (ownFrom_rnd lR (fun s : List (List Nat) × (Nat → Prop) => s.2)) (ownFrom_pure _ _)))
  (fun c _ _ _ _ h _ _ => h)
  ⟨hrow0, Rnd.refl hM0, rfl⟩
  (fun (x : List Nat) a' V => ∃ Au cu, a' = { tmps := #[.agg #[.slice ai ni ci, .slice ae nc ce, .slice al nl cl, .slice ac nc cc, .int .u64 (allB s : Int)], .pointer (some ⟨w.1.size, 0, none⟩), .slice none 0 0, .pointer (some ⟨w.1.size + 1 + 1, 0, none⟩), .slice Au x.length cu, undef, undef, .pointer (some ⟨w.1.size, 3, none⟩), .slice ac nc cc, .int .i64 (nc : Int), .slice (some ⟨w.1.size + 1, 0, none⟩) nc nc, .agg #[.slice ai ni ci, .slice ae nc ce, .slice al nl cl, .slice ac nc cc, .int .u64 (allB s : Int)], .func (.func 69) #[] #[.pointer (some ⟨w.1.size + 1 + 1 + 1, 0, none⟩)], .slice Au x.length cu, undef, undef, undef, undef, undef, undef, undef, undef, undef, undef, undef, undef, undef, undef], defers := [] } ∧ V.ownsRow 0 3 1 (.slice Au x.length cu) x.length (icells (natI x)) ∧ ∀ g, (Value.slice Au x.length cu).ownBlock = some g → g ≠ w.1.size + 1)
  (fun x a' s X Y row hx hg hrr => by
   obtain ⟨Au, cu, h1, h2, h3⟩ := hx
   exact ⟨Au, cu, h1, row_own _ _ _ _ _ _ _ () X Y row h2 hg hrr, h3⟩) ?assign ?body ?done ?stop
 case assign =>
  intro l2 pre x N1 args V K hi hx hlen hK
  obtain ⟨u, rfl, hu, hNu⟩ := hx
  obtain ⟨Au, cu, rfl, -⟩ := own_sl hu
  gi_wp2
  exact hK _ _ (Tch.refl _ _) hi ⟨Au, cu, rfl, hu, fun g hg e => hNu g hg (e ▸ hi.2.2)⟩
 case body =>
  rintro l2 pre x N1 a2 V hl2 hNl _ hNV ⟨hrow, hrnd, hN1⟩ ⟨Au, cu, rfl, hu, hug⟩ hlen
  dsimp only at hrow hrnd hN1
  have HROW := dh hrow
  have HRND := dh hrnd
  have HU := dh hu
  have HUG := dh hug
  obtain ⟨np, hnp⟩ := xQ x.length
  have HNP := dh hnp
  have hxm : x ∈ goodL E ins s := by
   obtain ⟨t, ht⟩ := hlen
   rw [← ht]; simp
  have hxp : x ∈ scParts (ofC E) := (List.mem_filter.1 hxm).1
  have HXL := dh (part_lt hxp)
  have hnpn : np ≤ nc := by have := part_len hxp; have := HNE.out; omega
  rw [hnp] at HU HUG
  have hbV : V.cell? ⟨w.1.size + 1 + 1, 0, none⟩ = some (.slice (some ⟨w.1.size + 1, 0, none⟩) nc nc) := (boxed_tch hbx hrnd.tch (fun e => by have e : w.1.size + 1 + 1 = w.1.size + 1 := e; omega)).cell
  have HBV := dh hbV
  have hrnds : w.1.size + 4 ≤ V.1.size := by have := hrnd.tch.size; omega
  clear hrow hrnd hu hug hxm hxp hlen hbV
  rw [hnp]
  clear hnp
  gi_wp2
  gi_loopw [16] (fun i V' => ∃ q : Nat, q ≤ np ∧ i = .int .i64 (q : Int) ∧ Hid (V'.ownsRow w.1.size 4 1 (.slice (some ⟨w.1.size + 1, 0, none⟩) nc nc) nc (bcells ((x.take q).foldl (fun r y => r.set y true) (goalP nc pre)))) ∧ Hid (Tch (fun k => k = w.1.size + 1) V V')) (fun i _ => np - (intOf i).toNat)
  case atStart => exact ⟨0, by omega, rfl, HROW, dh (Tch.refl _ _)⟩
  case round =>
   obtain ⟨q, hq, rfl, HRQ, HTQ⟩ := hrel
   have hzV := HTQ.out.size
   by_cases hql : q < np
   ·have wq : IntKind.i64.wrap ((q : Int) + 1) = (q : Int) + 1 := by rw [wI]; omega
    have hq0 : (0 : Int) ≤ (q : Int) := by omega
    have hq1 : (q : Int) < (np : Int) := by omega
    have hqP : q < x.length := by rw [HNP.out]; exact hql
    have hUq : wr.ownsRow 0 3 1 (.slice Au np cu) np (icells (natI x)) := own_tch HU.out HTQ.out (fun g hg e => HUG.out g hg e)
    obtain ⟨A', c', hf, hsu⟩ := own_sl hUq
    cases hf
    obtain ⟨b1, o1, hA1, hb1, hcl⟩ := hsu.rd.at_ (nat_at hqP)
    have hcu := hsu.cap
    have hmu := hsu.max
    unfold maxLen at hmu
    subst hA1
    obtain ⟨y, hy⟩ := xQ (x.getD q 0)
    have hye : x[q] = y := by rw [← hy, gD, gE hqP]; rfl
    have hyN : y < nc := by have := HXL.out y (by rw [← hye]; exact mM hqP); have := HNE.out; omega
    have hy0 : (0 : Int) ≤ (y : Int) := by omega
    have hy1 : (y : Int) < (nc : Int) := by omega
    have HSN : Hid ((x.take (q + 1)).foldl (fun r y => r.set y true) (goalP nc pre) = ((x.take q).foldl (fun r y => r.set y true) (goalP nc pre)).set y true) := dh (by rw [take_snoc x q hqP, hye, List.foldl_append]; rfl)
    have hgb := own_getB HRQ.out hyN
    have hf0 := hgb.1
    have hf1 := hgb.2.1
    have hgl := hgb.2.2.1
    have hbW : wr.cell? ⟨w.1.size + 1 + 1, 0, none⟩ = some (.slice (some ⟨w.1.size + 1, 0, none⟩) nc nc) := bD HTQ.out (by have := hrnds; omega) (fun e => by have e : w.1.size + 1 + 1 = w.1.size + 1 := e; omega) HBV.out
    rw [hy] at hcl
    clear hy hye hsu hUq hgb
    gi_wp2
    go_roundw
    case rel => exact ⟨q + 1, by omega, congrArg (Value.int .i64) (by omega), dh (by rw [HSN.out]; exact own_setB HRQ.out), dh (HTQ.out.setCell (p := ⟨w.1.size + 1, y, none⟩) (fun _ => rfl) _)⟩
    case measure => simp [intOf]; omega
   ·have hqe : q = np := by omega
    subst hqe
    have HTK : Hid (x.take q = x) := dh (tL (by rw [HNP.out]; exact lR))
    gi_wp2
    have hT1 : Tch N1 V wr := HTQ.out.wide (fun k e => by have e : k = w.1.size + 1 := e; rw [e]; exact hN1)
    refine ⟨N1, Rnd.of_tch hT1 hNV, ?_, HRND.out.tch_right hT1, hN1⟩
    rw [goalP_snoc]
    have := HRQ.out
    rwa [HTK.out] at this
 case done =>
  rintro D N1 V hD hDN ⟨hrow, hrnd, hN1⟩ hDv
  dsimp only at hrow hrnd hN1
  have hzV := hrnd.tch.size
  have hDl : D < V.1.size := (aI.1 hDv).1
  have hbV : V.cell? ⟨w.1.size + 1 + 1, 0, none⟩ = some (.slice (some ⟨w.1.size + 1, 0, none⟩) nc nc) := (boxed_tch hbx hrnd.tch (fun e => by have e : w.1.size + 1 + 1 = w.1.size + 1 := e; omega)).cell
  have hpV : V.1[w.1.size]? = some _ := (hrnd.tch.block w.1.size (by omega) (fun e => by have e : w.1.size = w.1.size + 1 := e; omega)).trans hp1
  have c0 : V.cell? ⟨w.1.size, 0, none⟩ = some (.slice ai ni ci) := cR hpV
  have c1 : V.cell? ⟨w.1.size, 1, none⟩ = some (.slice ae nc ce) := cR hpV
  have c2 : V.cell? ⟨w.1.size, 2, none⟩ = some (.slice al nl cl) := cR hpV
  have hMB : ∀ k, (fun k => k = w.1.size + 1) k → w.1.size ≤ k := fun k e => by have e : k = w.1.size + 1 := e; omega
  have HBV := dh (rnd_below hrnd (show w.1.size ≤ W0.1.size by omega) hMB)
  have hGV := (HR0.out.below HBV.out hB).g
  obtain ⟨A8, c8, hf8, hSV⟩ := own_sl hrow
  cases hf8
  have HBK := dh (backP_any ai ae al ni ci nc ce nl cl ⟨I, E, L.map (fun (x : Nat) => (x : Int))⟩ (goalP nc (goodL E ins s)) (some ⟨w.1.size + 1, 0, none⟩) nc nc V V.1.size (hGV.up (by omega)) hSV (by rw [goalP_len]) lR hi (by omega) hl (by omega) KE hr hKE (by omega))
  clear hSV hGV hpV
  gi_wp2_with (refine ⟨trivial, ?_⟩; gi_at_call 54; refine (callsIn_wide.2 HBK.out).mono ?_; rintro e V2 ⟨v, rfl, hv, hbv, hnil⟩; obtain ⟨Av, cv, rfl, -⟩ := own_sl hv; have HDV := dh ((hbv.block D hDl).trans hDv); have HV := dh hv; have HBV2 := dh hbv; have HNIL := dh hnil; clear hv hbv hnil)
  refine ⟨by simp, .inl ⟨_, _, rfl, run_takeDeferred HDV.out, ?_⟩⟩
  have hlast : (backG nc E (goalP nc (goodL E ins s))).map Value.bool = bcells (lastR E ins s) := by
   rw [HNE.out]; rfl
  have hv2 := own_base HV.out (show w.1.size ≤ V.1.size by omega)
  rw [hlast] at hv2
  exact ⟨_, results_tmp rfl _ _ _, .slice Av nc cv, rfl, ownsRow_putObj hv2 (.deferred none) HDV.out rfl, ((HB0.out.trans HBV.out).trans (HBV2.out.mono (show w.1.size ≤ V.1.size by omega))).trans (belowK_b (w := w) lR V2 D _ _ (by omega) HDV.out rfl rfl), HNIL.out⟩
 case stop => exact fun _ _ _ _ _ _ _ _ h => h.elim
theorem lasting_any (I : List Int) (E : List (List Nd)) (L ins : List Nat) (s : Nat) (ai : Option Addr) (ni ci : Nat) (ae : Option Addr) (ne ce : Nat) (al : Option Addr) (nl cl : Nat) (ac : Option Addr) (nc cc : Nat) (B : Nat) (w : World)
  (h : PlayRd w B ai ni ci ae ne ce al nl cl ac nc cc I E L ins) (hB : B ≤ w.1.size) (hEn : ∀ r ∈ E, ∀ e ∈ r, isNd E.length e.op = true) (hN : ne ≤ 65536) (KE : Nat) (hr : ∀ r ∈ E, r.length ≤ KE) (hKE : ne * KE ≤ 1000000000) (hK2 : KE ≤ 1000000) (hil : ins.length = E.length) (h64 : ∀ x, ins.getD x 0 < 2 ^ 64) (hs : s ≤ 16)
  (hi : ni ≤ 1000000000) (hl : nl ≤ 17592186044416) :
  Calls Tryz.prog 29 #[.agg #[.slice ai ni ci, .slice ae ne ce, .slice al nl cl, .slice ac nc cc, .int .u64 (allB s : Int)]] w (NewRow w 4 1 ne (bcells (lastR E ins s)) False) :=
 (callsIn_wide (n := 3)).1 (lasting_in 3 lR I E L ins s ai ni ci ae ne ce al nl cl ac nc cc B w h hB hEn hN KE hr hKE hK2 hil h64 hs hi hl)
end Go.Proofs.YtiebpncpdbnelaaGreatDoor
namespace Go.Proofs.YtiebpncpdbnelaaGreatDoor
open Go.RowKit
theorem open_nd {a : Aut} (hA : a.Ok) : ∀ r ∈ openE a, ∀ e ∈ r, isNd (openE a).length e.op = true := by
 intro r hr e he
 rw [openE_len]
 obtain ⟨q, hq, rfl⟩ := List.mem_map.1 hr
 obtain ⟨t, ht, rfl⟩ := List.mem_map.1 he
 exact hA.2 _ (at_mem (List.mem_range.1 hq)) t (List.mem_filter.1 ht).1
theorem open_row {a : Aut} {K : Nat} (hK : ∀ x ∈ a.nodes, x.to.length ≤ K) : ∀ r ∈ openE a, r.length ≤ K := by
 intro r hr
 obtain ⟨q, hq, rfl⟩ := List.mem_map.1 hr
 unfold openR
 rw [List.length_map]
 exact Nat.le_trans (List.length_filter_le _ _) (hK _ (at_mem (List.mem_range.1 hq)))
end Go.Proofs.YtiebpncpdbnelaaGreatDoor
namespace Go.Proofs.YtiebpncpdbnelaaGreatDoor
def aloneB (x y : ANd) (s : Nat) : Bool := decide (y.need &&& x.need = y.need) && decide (y.ban &&& x.ban = y.ban) && decide (x.inn &&& y.inn &&& allB s = x.inn &&& allB s)
theorem sub_bits {x y : Nat} : y &&& x = y ↔ ∀ b, y.testBit b = true → x.testBit b = true := by
 constructor
 ·intro h b hb
  have := congrArg (fun z => z.testBit b) h
  simp only [Nat.testBit_and, hb, Bool.true_and] at this
  exact this
 ·intro h
  refine Nat.eq_of_testBit_eq (fun b => ?_)
  rw [Nat.testBit_and]
  cases hb : y.testBit b
  ·rfl
  ·rw [h b hb]; rfl
theorem in_bits {x y s : Nat} : x &&& y &&& allB s = x &&& allB s ↔ ∀ b, b < s → x.testBit b = true → y.testBit b = true := by
 constructor
 ·intro h b hs hb
  have := congrArg (fun z => z.testBit b) h
  simp only [Nat.testBit_and, allB_bit, hb, decide_eq_true hs, Bool.true_and, Bool.and_true] at this
  exact this
 ·intro h
  refine Nat.eq_of_testBit_eq (fun b => ?_)
  simp only [Nat.testBit_and, allB_bit]
  by_cases hs : b < s
  ·cases hb : x.testBit b
   ·simp
   ·simp [h b hs hb]
  ·simp [hs]
theorem alone_iff {x y : ANd} {s : Nat} : aloneB x y s = true ↔ (∀ b, y.need.testBit b = true → x.need.testBit b = true) ∧ (∀ b, y.ban.testBit b = true → x.ban.testBit b = true) ∧ ∀ b, b < s → x.inn.testBit b = true → y.inn.testBit b = true := by
 unfold aloneB
 rw [Bool.and_eq_true, Bool.and_eq_true, decide_eq_true_eq, decide_eq_true_eq, decide_eq_true_eq, sub_bits, sub_bits, in_bits, and_assoc]
theorem alone_refl (x : ANd) (s : Nat) : aloneB x x s = true := alone_iff.2 ⟨fun _ h => h, fun _ h => h, fun _ _ h => h⟩
theorem alone_trans {x y z : ANd} {s : Nat} (h : aloneB x y s = true) (k : aloneB y z s = true) : aloneB x z s = true := by
 obtain ⟨h1, h2, h3⟩ := alone_iff.1 h
 obtain ⟨k1, k2, k3⟩ := alone_iff.1 k
 exact alone_iff.2 ⟨fun b hb => h1 b (k1 b hb), fun b hb => h2 b (k2 b hb), fun b hs hb => k3 b hs (h3 b hs hb)⟩
structure SimR (a : Aut) (R : Nat → Nat → Prop) : Prop where
 lt : ∀ i k, R i k → i < a.nodes.length ∧ k < a.nodes.length
 one : ∀ i k, R i k → aloneB (a.at i) (a.at k) a.sets.toNat = true
 go : ∀ i k, R i k → ∀ t : Nat, (t : Int) ∈ (a.at i).to → ∃ u : Nat, (u : Int) ∈ (a.at k).to ∧ R t u
def Sim (a : Aut) (i k : Nat) : Prop := ∃ R, SimR a R ∧ R i k
theorem sim_sim (a : Aut) : SimR a (Sim a) :=
 ⟨fun i k ⟨_, h, hr⟩ => h.lt i k hr, fun i k ⟨_, h, hr⟩ => h.one i k hr, fun i k ⟨R, h, hr⟩ t ht => by
  obtain ⟨u, hu, hr2⟩ := h.go i k hr t ht
  exact ⟨u, hu, R, h, hr2⟩⟩
theorem Sim.refl {a : Aut} (hA : a.Ok) {i : Nat} (hi : i < a.nodes.length) : Sim a i i := by
 refine ⟨fun i k => i = k ∧ i < a.nodes.length, ⟨fun i k h => ⟨h.2, h.1 ▸ h.2⟩, fun i k h => by rw [h.1]; exact alone_refl _ _, fun i k h t ht => ?_⟩, rfl, hi⟩
 obtain ⟨rfl, h⟩ := h
 obtain ⟨t', e, ht'⟩ := hA.to h ht
 exact ⟨t, ht, rfl, by omega⟩
theorem Sim.trans {a : Aut} {i k j : Nat} (h : Sim a i k) (g : Sim a k j) : Sim a i j := by
 have s := sim_sim a
 refine ⟨fun i j => ∃ k, Sim a i k ∧ Sim a k j, ⟨fun i j ⟨k, h, g⟩ => ⟨(s.lt i k h).1, (s.lt k j g).2⟩, fun i j ⟨k, h, g⟩ => alone_trans (s.one i k h) (s.one k j g), fun i j ⟨k, h, g⟩ t ht => ?_⟩, k, h, g⟩
 obtain ⟨u, hu, h1⟩ := s.go i k h t ht
 obtain ⟨v, hv, h2⟩ := s.go k j g u hu
 exact ⟨v, hv, u, h1, h2⟩
def firstB (p : Nat → Bool) : Nat → Nat
 | 0 => 0
 | n + 1 => if firstB p n < n then firstB p n else if p n = true then n else n + 1
theorem firstB_spec (p : Nat → Bool) : ∀ n, firstB p n ≤ n ∧ (∀ k, k < firstB p n → p k = false) ∧ (firstB p n < n → p (firstB p n) = true)
 | 0 => ⟨lR, fun k hk => absurd hk (Nat.not_lt_zero _), fun h => absurd h (Nat.lt_irrefl _)⟩
 | n + 1 => by
  obtain ⟨h1, h2, h3⟩ := firstB_spec p n
  unfold firstB
  by_cases hl : firstB p n < n
  ·rw [if_pos hl]
   exact ⟨by omega, h2, fun _ => h3 hl⟩
  ·rw [if_neg hl]
   have e : firstB p n = n := by omega
   rw [e] at h2
   by_cases hp : p n = true
   ·rw [if_pos hp]
    exact ⟨by omega, h2, fun _ => hp⟩
   ·rw [if_neg hp]
    refine ⟨lR, fun k hk => ?_, fun h => absurd h (Nat.lt_irrefl _)⟩
    by_cases hkn : k = n
    ·subst hkn; simpa using hp
    ·exact h2 k (by omega)
theorem firstB_lt {p : Nat → Bool} {n k : Nat} (_hk : k < n) (hp : p k = true) : firstB p n ≤ k := by
 obtain ⟨_, h2, _⟩ := firstB_spec p n
 refine Nat.le_of_not_lt (fun h => ?_)
 rw [h2 k h] at hp; cases hp
theorem firstB_uniq {p : Nat → Bool} {n k : Nat} (hk : k ≤ n) (h1 : ∀ j, j < k → p j = false) (h2 : k < n → p k = true) : firstB p n = k := by
 obtain ⟨a1, a2, a3⟩ := firstB_spec p n
 rcases Nat.lt_trichotomy (firstB p n) k with h | h | h
 ·have := a3 (by omega)
  rw [h1 _ h] at this; cases this
 ·exact h
 ·have := h2 (by omega)
  rw [a2 _ h] at this; cases this
def relL (r : List (List Bool)) (i k : Nat) : Bool := (r.getD i []).getD k false
noncomputable def simL (a : Aut) : List (List Bool) := (List.range a.nodes.length).map (fun i => (List.range a.nodes.length).map (fun k => @decide (Sim a i k) (Classical.propDecidable _)))
theorem simL_len (a : Aut) : (simL a).length = a.nodes.length := by simp [simL]
theorem sim_rel {a : Aut} {i k : Nat} : relL (simL a) i k = true ↔ Sim a i k := by
 constructor
 ·intro h
  unfold relL simL at h
  by_cases hi : i < a.nodes.length
  ·by_cases hk : k < a.nodes.length
   ·simpa [List.getD, hi, hk] using h
   ·simp [List.getD, hi, hk] at h
  ·simp [List.getD, hi] at h
 ·intro h
  obtain ⟨hi, hk⟩ := (sim_sim a).lt i k h
  unfold relL simL
  simpa [List.getD, hi, hk] using h
def likeF (r : List (List Bool)) (i : Nat) : Nat := firstB (fun k => relL r i k && relL r k i) i
def leadL (r : List (List Bool)) (n : Nat) : List Bool := (List.range n).map (fun i => decide (likeF r i = i))
def numM (r : List (List Bool)) (n i : Nat) : Nat := numC (leadL r n) (likeF r i)
def onceI (f : Nat → Nat) (l : List Int) : List Int := l.foldl (fun out t => if ((f t.toNat : Nat) : Int) ∈ out then out else out ++ [((f t.toNat : Nat) : Int)]) []
theorem onceI_snoc (f : Nat → Nat) (l : List Int) (t : Int) : onceI f (l ++ [t]) = if ((f t.toNat : Nat) : Int) ∈ onceI f l then onceI f l else onceI f l ++ [((f t.toNat : Nat) : Int)] := by
 unfold onceI
 rw [List.foldl_append]; rfl
theorem snocS_ind {α : Type} {P : List α → Prop} (h0 : P []) (h1 : ∀ l x, P l → P (l ++ [x])) (l : List α) : P l := by
 have key : ∀ n (l : List α), l.length = n → P l := by
  intro n
  induction n with
  | zero => intro l hl; rw [List.eq_nil_of_length_eq_zero hl]; exact h0
  | succ n ih =>
   intro l hl
   have hne : l ≠ [] := fun e => by rw [e] at hl; cases hl
   rw [← List.dropLast_concat_getLast hne]
   exact h1 _ _ (ih _ (by rw [List.length_dropLast]; omega))
 exact key _ l rfl
theorem onceI_mem (f : Nat → Nat) (x : Int) (l : List Int) : x ∈ onceI f l ↔ ∃ t ∈ l, ((f t.toNat : Nat) : Int) = x := by
 refine snocS_ind (P := fun l => x ∈ onceI f l ↔ ∃ t ∈ l, ((f t.toNat : Nat) : Int) = x) (by simp [onceI]) (fun l y ih => ?_) l
 rw [onceI_snoc]
 constructor
 ·intro h
  split at h
  ·obtain ⟨t, ht, e⟩ := ih.1 h
   exact ⟨t, List.mem_append_left _ ht, e⟩
  ·rcases List.mem_append.1 h with h | h
   ·obtain ⟨t, ht, e⟩ := ih.1 h
    exact ⟨t, List.mem_append_left _ ht, e⟩
   ·exact ⟨y, by simp, (mS.1 h).symm⟩
 ·rintro ⟨t, ht, e⟩
  rcases List.mem_append.1 ht with ht | ht
  ·have := ih.2 ⟨t, ht, e⟩
   split
   ·exact this
   ·exact List.mem_append_left _ this
  ·rw [mS.1 ht] at e
   rw [e]
   split
   ·assumption
   ·exact List.mem_append_right _ (List.mem_singleton_self _)
theorem onceI_le (f : Nat → Nat) (l : List Int) : (onceI f l).length ≤ l.length := by
 refine snocS_ind (P := fun l => (onceI f l).length ≤ l.length) (by simp [onceI]) (fun l y ih => ?_) l
 rw [onceI_snoc]
 split
 ·simp; omega
 ·simp; omega
def mergeU (a : Aut) (r : List (List Bool)) : Aut := ⟨a.sets, onceI (numM r a.nodes.length) a.init, ((List.range a.nodes.length).filter (fun i => (leadL r a.nodes.length).getD i false)).map (fun i => (a.at i).put (onceI (numM r a.nodes.length) (a.at i).to))⟩
noncomputable def mergeA (a : Aut) : Aut := mergeU a (simL a)
theorem lead_at {r : List (List Bool)} {n i : Nat} (hi : i < n) : (leadL r n).getD i false = true ↔ likeF r i = i := by simp [leadL, List.getD, hi]
theorem merge_len (a : Aut) (r : List (List Bool)) : (mergeU a r).nodes.length = numC (leadL r a.nodes.length) a.nodes.length := by simp [mergeU, numC]
section
variable {a : Aut} {W : List Nat} {lp : Nat}
theorem like_le (r : List (List Bool)) (i : Nat) : likeF r i ≤ i := (firstB_spec _ i).1
theorem like_sim (hA : a.Ok) {i : Nat} (hi : i < a.nodes.length) : Sim a i (likeF (simL a) i) ∧ Sim a (likeF (simL a) i) i := by
 obtain ⟨h1, _, h3⟩ := firstB_spec (fun k => relL (simL a) i k && relL (simL a) k i) i
 by_cases h : likeF (simL a) i < i
 ·have := h3 h
  rw [Bool.and_eq_true, sim_rel, sim_rel] at this
  exact this
 ·have : likeF (simL a) i = i := by have := like_le (simL a) i; omega
  rw [this]
  exact ⟨Sim.refl hA hi, Sim.refl hA hi⟩
theorem like_like (hA : a.Ok) {i : Nat} (hi : i < a.nodes.length) : likeF (simL a) (likeF (simL a) i) = likeF (simL a) i := by
 obtain ⟨s1, s2⟩ := like_sim hA hi
 have hl : likeF (simL a) i < a.nodes.length := Nat.lt_of_le_of_lt (like_le _ _) hi
 obtain ⟨t1, t2⟩ := like_sim hA hl
 have hle := like_le (simL a) (likeF (simL a) i)
 refine Nat.le_antisymm hle (Nat.le_of_not_lt (fun hlt => ?_))
 have h2 := (firstB_spec (fun k => relL (simL a) i k && relL (simL a) k i) i).2.1 _ hlt
 have h3 : (relL (simL a) i (likeF (simL a) (likeF (simL a) i)) && relL (simL a) (likeF (simL a) (likeF (simL a) i)) i) = true := by
  rw [Bool.and_eq_true, sim_rel, sim_rel]
  exact ⟨s1.trans t1, t2.trans s2⟩
 rw [h3] at h2; cases h2
theorem like_lead (hA : a.Ok) {i : Nat} (hi : i < a.nodes.length) : (leadL (simL a) a.nodes.length).getD (likeF (simL a) i) false = true :=
 (lead_at (Nat.lt_of_le_of_lt (like_le _ _) hi)).2 (like_like hA hi)
end
def firstP (l : List Int) (t : Int) : Nat := firstB (fun i => decide (l.getD i 0 = t)) l.length
theorem firstP_at {l : List Int} {t : Int} (ht : t ∈ l) : firstP l t < l.length ∧ l.getD (firstP l t) 0 = t := by
 obtain ⟨i, hi⟩ := List.getElem?_of_mem ht
 have hil := (gB.1 hi).1
 have h1 : firstP l t ≤ i := firstB_lt hil (by rw [gD, hi]; simp)
 have hl : firstP l t < l.length := by omega
 exact ⟨hl, of_decide_eq_true ((firstB_spec (fun i => decide (l.getD i 0 = t)) l.length).2.2 hl)⟩
def staysB (r : List (List Bool)) (l : List Int) (i : Nat) : Bool :=
 decide (firstP l (l.getD i 0) = i) && (List.range l.length).all (fun k => !(decide (l.getD k 0 ≠ l.getD i 0) && relL r (l.getD i 0).toNat (l.getD k 0).toNat && (!relL r (l.getD k 0).toNat (l.getD i 0).toNat || decide (firstP l (l.getD k 0) < i))))
def leftL (r : List (List Bool)) (l : List Int) : List Int := ((List.range l.length).filter (staysB r l)).map (fun i => l.getD i 0)
theorem leftL_sub {r : List (List Bool)} {l : List Int} {t : Int} (h : t ∈ leftL r l) : t ∈ l := by
 obtain ⟨i, hi, rfl⟩ := List.mem_map.1 h
 have := List.mem_range.1 (List.mem_filter.1 hi).1
 rw [gD, gE this]
 exact mM this
theorem leftL_le (r : List (List Bool)) (l : List Int) : (leftL r l).length ≤ l.length := by
 unfold leftL
 rw [List.length_map]
 have := List.length_filter_le (staysB r l) (List.range l.length)
 rwa [List.length_range] at this
theorem countP_less {α : Type} {p q : α → Bool} : ∀ {l : List α}, (∀ x ∈ l, p x = true → q x = true) → (∃ x ∈ l, q x = true ∧ p x = false) → l.countP p < l.countP q
 | [], _, h => by obtain ⟨x, hx, _⟩ := h; cases hx
 | y :: l, h, hex => by
  have hmono : l.countP p ≤ l.countP q := List.countP_mono_left (fun x hx => h x (List.mem_cons_of_mem _ hx))
  rw [List.countP_cons, List.countP_cons]
  obtain ⟨x, hx, h1, h2⟩ := hex
  rcases List.mem_cons.1 hx with rfl | hx
  ·rw [h1, h2]; simp; omega
  ·have := countP_less (fun x hx => h x (List.mem_cons_of_mem _ hx)) ⟨x, hx, h1, h2⟩
   by_cases hp : p y = true
   ·rw [h y (List.mem_cons_self ..) hp, hp]; omega
   ·by_cases hq : q y = true
    ·simp [hp, hq]; omega
    ·simp [hp, hq]; omega
def pruneU (a : Aut) (r : List (List Bool)) : Aut := ⟨a.sets, leftL r a.init, a.nodes.map (fun x => x.put (leftL r x.to))⟩
noncomputable def pruneA (a : Aut) : Aut := pruneU a (simL a)
theorem prune_len (a : Aut) (r : List (List Bool)) : (pruneU a r).nodes.length = a.nodes.length := by simp [pruneU]
end Go.Proofs.YtiebpncpdbnelaaGreatDoor
