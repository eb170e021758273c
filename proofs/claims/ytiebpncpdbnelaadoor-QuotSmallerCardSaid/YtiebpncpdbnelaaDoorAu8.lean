/- The walks of layer 30 (auto): from which nodes of a play a way goes on for ever. -/
import Derived.Test.YtiebpncpdbnelaaDoorAu7
set_option maxHeartbeats 4000000
set_option maxRecDepth 100000
namespace Go.Proofs.YtiebpncpdbnelaaDoor
open Go.RowKit Go.Shelf
attribute [local go_sem] Oper.semAt_some
theorem rowS_own {β : Type} (base : Nat) (e : TypeId) (size : Nat) (u : Value) (n : Nat) (f : β → List Value) (B : Nat) : OwnFrom B (fun (s : β) W => W.ownsRow base e size u n (f s)) :=
 fun s X Y row h hg hr => row_own base e size u n (f s) B () X Y row h hg hr
theorem infoB8 : (Tryd.prog.info? 4).map (fun i => (i.zero, i.size, i.bytes)) = some (some (.bool false), 1, 1) := by kernel_rfl
def goalP (n : Nat) (pre : List (List Nat)) : List Bool := (pre.flatten).foldl (fun r x => r.set x true) (List.replicate n false)
theorem goalP_snoc (n : Nat) (pre : List (List Nat)) (x : List Nat) : goalP n (pre ++ [x]) = x.foldl (fun r x => r.set x true) (goalP n pre) := by
 unfold goalP
 rw [List.flatten_append, List.foldl_append]
 simp
theorem goalP_len (n : Nat) (pre : List (List Nat)) : (goalP n pre).length = n := by
 unfold goalP
 have key : ∀ (l : List Nat) (r : List Bool), (l.foldl (fun r x => r.set x true) r).length = r.length := by
  intro l
  induction l with
  | nil => intro r; rfl
  | cons x l ih => intro r; rw [List.foldl_cons, ih, List.length_set]
 rw [key, List.length_replicate]
theorem lasting_in (m : Nat) (hm : 3 ≤ m) (I : List Int) (E : List (List Nd)) (L ins : List Nat) (s : Nat) (ai : Option Addr) (ni ci : Nat) (ae : Option Addr) (ne ce : Nat) (al : Option Addr) (nl cl : Nat) (ac : Option Addr) (nc cc : Nat) (B : Nat) (w : World)
  (h : PlayRd w B ai ni ci ae ne ce al nl cl ac nc cc I E L ins) (hB : B ≤ w.1.size) (hEn : ∀ r ∈ E, ∀ e ∈ r, isNd E.length e.op = true) (hN : ne ≤ 65536) (KE : Nat) (hr : ∀ r ∈ E, r.length ≤ KE) (hKE : ne * KE ≤ 1000000000) (hK2 : KE ≤ 1000000) (hil : ins.length = E.length) (h64 : ∀ x, ins.getD x 0 < 2 ^ 64) (hs : s ≤ 16)
  (hi : ni ≤ 1000000000) (hl : nl ≤ 17592186044416) :
  CallsIn Fence.wide m Tryd.prog 60 #[.agg #[.slice ai ni ci, .slice ae ne ce, .slice al nl cl, .slice ac nc cc, .int .u64 (allB s : Int)]] w (NewRow w 4 1 ne (bcells (lastR E ins s)) False) := by
 have h1m : 1 ≤ m := by omega
 have HNE := dh h.ene
 have HNC := dh h.enc
 have hcc := h.i.cap
 have hmc := h.i.max
 unfold maxLen at hmc
 have hnce : nc = ne := by rw [HNC.out, HNE.out, hil]
 subst hnce
 have hmk := run_make_row' (P := Tryd.prog) 54 4 (.bool false) 1 Tryd.underlying54 infoB8 rfl .i64 .i64 nc (by omega) (by omega)
 have hmk2 := fun X => playGood_any (.slice ai ni ci) (.slice ae nc ce) (.slice al nl cl) (.slice ac nc cc) (.int .u64 (allB s : Int)) X
 have HG := dh hmk2
 have HR := dh h
 have HIL := dh hil
 clear h hmk2 hil
 refine callsIn_of_wp_marks Tryd.func60 rfl trivial ?_ rfl
 simp only [Tryd.ntmps60, List.size_toArray, List.length_cons, List.length_nil, Nat.reduceAdd, Nat.reduceSub, Array.replicate_succ, Array.replicate_zero, List.push_toArray, List.append_toArray, List.nil_append, List.cons_append]
 gi_wp2_with (refine ⟨trivial, ?_⟩; gi_at_call 67; refine (callsIn_wide.2 (HG.out _)).mono ?_; rintro e w' ⟨rfl, rfl⟩)
 obtain ⟨W0, hW0⟩ := xQ ((((w.alloc (.cells #[.slice ai ni ci, .slice ae nc ce, .slice al nl cl, .slice ac nc cc, .int .u64 (allB s : Int)] 74)).alloc (.cells (madeCells #[.bool false] nc) 4)).alloc (.cells #[.slice (some ⟨w.1.size + 1, 0, none⟩) nc nc] 54)).alloc (.cells #[.slice ai ni ci, .slice ae nc ce, .slice al nl cl, .slice ac nc cc, .int .u64 (allB s : Int)] 74))
 have hz0 : W0.1.size = w.1.size + 4 := by rw [← hW0]; simp
 have hb0 : Below w.1.size w W0 := by rw [← hW0]; exact ((((Below.refl _ w).alloc lR _).alloc (by simp) _).alloc (by simp; omega) _).alloc (by simp; omega) _
 have hrow0 : W0.ownsRow w.1.size 4 1 (.slice (some ⟨w.1.size + 1, 0, none⟩) nc nc) nc (bcells (List.replicate nc false)) := by
  have h1 := own_made (w := w.alloc (.cells #[.slice ai ni ci, .slice ae nc ce, .slice al nl cl, .slice ac nc cc, .int .u64 (allB s : Int)] 74)) (base := w.1.size) (e := 4) (v := .bool false) (n := nc) (by simp) (by unfold maxLen; omega)
  rw [World.size_alloc] at h1
  have h2 := (h1.alloc (.cells #[.slice (some ⟨w.1.size + 1, 0, none⟩) nc nc] 54)).alloc (.cells #[.slice ai ni ci, .slice ae nc ce, .slice al nl cl, .slice ac nc cc, .int .u64 (allB s : Int)] 74)
  rw [hW0] at h2
  rw [bcells, List.map_replicate]
  exact h2
 have hbx : Boxed W0 (w.1.size + 1 + 1) 54 (.slice (some ⟨w.1.size + 1, 0, none⟩) nc nc) := by
  rw [← hW0]
  have := (Boxed.new ((w.alloc (.cells #[.slice ai ni ci, .slice ae nc ce, .slice al nl cl, .slice ac nc cc, .int .u64 (allB s : Int)] 74)).alloc (.cells (madeCells #[.bool false] nc) 4)) 54 (.slice (some ⟨w.1.size + 1, 0, none⟩) nc nc)).alloc (.cells #[.slice ai ni ci, .slice ae nc ce, .slice al nl cl, .slice ac nc cc, .int .u64 (allB s : Int)] 74)
  simpa only [World.size_alloc] using this
 have hp1 : W0.1[w.1.size]? = some (.cells #[.slice ai ni ci, .slice ae nc ce, .slice al nl cl, .slice ac nc cc, .int .u64 (allB s : Int)] 74 (0, 0)) := by
  rw [← hW0]
  rw [Below.heap_alloc _ _ _ (by simp; omega), Below.heap_alloc _ _ _ (by simp; omega), Below.heap_alloc _ _ _ (by simp)]
  exact heap_alloc_new w _
 have hp2 : W0.1[w.1.size + 1 + 1 + 1]? = some (.cells #[.slice ai ni ci, .slice ae nc ce, .slice al nl cl, .slice ac nc cc, .int .u64 (allB s : Int)] 74 (0, 0)) := by
  rw [← hW0]
  have := heap_alloc_new (((w.alloc (.cells #[.slice ai ni ci, .slice ae nc ce, .slice al nl cl, .slice ac nc cc, .int .u64 (allB s : Int)] 74)).alloc (.cells (madeCells #[.bool false] nc) 4)).alloc (.cells #[.slice (some ⟨w.1.size + 1, 0, none⟩) nc nc] 54)) (.cells #[.slice ai ni ci, .slice ae nc ce, .slice al nl cl, .slice ac nc cc, .int .u64 (allB s : Int)] 74)
  simpa only [World.size_alloc] using this
 have HR0 := dh (HR.out.below hb0 hB)
 have HB0 := dh hb0
 rw [hW0]
 clear hW0 hmk hb0
 have hM0 : ∀ k, (fun k => k = w.1.size + 1) k → k < W0.1.size := fun k e => by have e : k = w.1.size + 1 := e; omega
 refine wpIn_rangeFunc_R rfl h1m (gf := 96) (lb := #[.pointer (some ⟨w.1.size + 1 + 1 + 1, 0, none⟩)]) rfl trivial (enters_of Tryd.func96 (by kernel_rfl) rfl)
  (good_T (m - 1) (by omega) E ins s (.slice ai ni ci) (.slice al nl cl) ae nc ce ac nc cc (w.1.size + 1 + 1 + 1) B (fun k => k = w.1.size + 1) W0 hM0 (fun k e => by have e : k = w.1.size + 1 := e; omega) hp2 (fun e => by omega) HR0.out.g.he HR0.out.i (by omega) hEn (by omega) (fun r h => by have := hr r h; omega) HIL.out h64 hs)
  hM0 (fun x N args W hx => by obtain ⟨u, rfl, _⟩ := hx; rfl) (fun x N N' args W hN hx => hx.mono hN)
  (fun (s : List (List Nat) × (Nat → Prop)) V => V.ownsRow w.1.size 4 1 (.slice (some ⟨w.1.size + 1, 0, none⟩) nc nc) nc (bcells (goalP nc s.1)) ∧ (Rnd (fun k => k = w.1.size + 1) W0 s.2 V ∧ s.2 (w.1.size + 1)))
  (fun c s V => False)
  (OwnFrom.and (rowS_own _ _ _ _ _ (fun s : List (List Nat) × (Nat → Prop) => bcells (goalP nc s.1)) _) (OwnFrom.and (ownFrom_rnd lR (fun s : List (List Nat) × (Nat → Prop) => s.2)) (ownFrom_pure _ _)))
  (fun c _ _ _ _ h _ _ => h)
  ⟨hrow0, Rnd.refl hM0, rfl⟩
  (fun (x : List Nat) a' V => ∃ Au cu, a' = { tmps := #[.agg #[.slice ai ni ci, .slice ae nc ce, .slice al nl cl, .slice ac nc cc, .int .u64 (allB s : Int)], .pointer (some ⟨w.1.size, 0, none⟩), .slice none 0 0, .pointer (some ⟨w.1.size + 1 + 1, 0, none⟩), .slice Au x.length cu, undef, undef, .pointer (some ⟨w.1.size, 3, none⟩), .slice ac nc cc, .int .i64 (nc : Int), .slice (some ⟨w.1.size + 1, 0, none⟩) nc nc, .agg #[.slice ai ni ci, .slice ae nc ce, .slice al nl cl, .slice ac nc cc, .int .u64 (allB s : Int)], .func (.func 96) #[] #[.pointer (some ⟨w.1.size + 1 + 1 + 1, 0, none⟩)], .slice Au x.length cu, undef, undef, undef, undef, undef, undef, undef, undef, undef, undef, undef, undef, undef, undef], defers := [] } ∧ V.ownsRow 0 3 1 (.slice Au x.length cu) x.length (icells (natI x)) ∧ ∀ g, (Value.slice Au x.length cu).ownBlock = some g → g ≠ w.1.size + 1)
  (fun x a' s X Y row hx hg hrr => by
   obtain ⟨Au, cu, h1, h2, h3⟩ := hx
   exact ⟨Au, cu, h1, row_own _ _ _ _ _ _ _ () X Y row h2 hg hrr, h3⟩) ?assign ?body ?done ?stop
 case assign =>
  intro l2 pre x N1 args V K hi hx hlen hK
  obtain ⟨u, rfl, hu, hNu⟩ := hx
  obtain ⟨Au, cu, rfl, -⟩ := own_sl hu
  gi_wp2
  exact hK _ _ (Tch.refl _ _) hi ⟨Au, cu, rfl, hu, fun g hg e => hNu g hg (e ▸ hi.2.2)⟩
 case body =>
  rintro l2 pre x N1 a2 V hl2 hNl _ hNV ⟨hrow, hrnd, hN1⟩ ⟨Au, cu, rfl, hu, hug⟩ hlen
  dsimp only at hrow hrnd hN1
  have HROW := dh hrow
  have HRND := dh hrnd
  have HU := dh hu
  have HUG := dh hug
  obtain ⟨np, hnp⟩ := xQ x.length
  have HNP := dh hnp
  have hxm : x ∈ goodL E ins s := by
   obtain ⟨t, ht⟩ := hlen
   rw [← ht]; simp
  have hxp : x ∈ scParts (ofC E) := (List.mem_filter.1 hxm).1
  have HXL := dh (part_lt hxp)
  have hnpn : np ≤ nc := by have := part_len hxp; have := HNE.out; omega
  rw [hnp] at HU HUG
  have hbV : V.cell? ⟨w.1.size + 1 + 1, 0, none⟩ = some (.slice (some ⟨w.1.size + 1, 0, none⟩) nc nc) := (boxed_tch hbx hrnd.tch (fun e => by have e : w.1.size + 1 + 1 = w.1.size + 1 := e; omega)).cell
  have HBV := dh hbV
  have hrnds : w.1.size + 4 ≤ V.1.size := by have := hrnd.tch.size; omega
  clear hrow hrnd hu hug hxm hxp hlen hbV
  rw [hnp]
  clear hnp
  gi_wp2
  gi_loopw [16] (fun i V' => ∃ q : Nat, q ≤ np ∧ i = .int .i64 (q : Int) ∧ Hid (V'.ownsRow w.1.size 4 1 (.slice (some ⟨w.1.size + 1, 0, none⟩) nc nc) nc (bcells ((x.take q).foldl (fun r y => r.set y true) (goalP nc pre)))) ∧ Hid (Tch (fun k => k = w.1.size + 1) V V')) (fun i _ => np - (intOf i).toNat)
  case atStart => exact ⟨0, by omega, rfl, HROW, dh (Tch.refl _ _)⟩
  case round =>
   obtain ⟨q, hq, rfl, HRQ, HTQ⟩ := hrel
   have hzV := HTQ.out.size
   by_cases hql : q < np
   ·have wq : IntKind.i64.wrap ((q : Int) + 1) = (q : Int) + 1 := by rw [wI]; omega
    have hq0 : (0 : Int) ≤ (q : Int) := by omega
    have hq1 : (q : Int) < (np : Int) := by omega
    have hqP : q < x.length := by rw [HNP.out]; exact hql
    have hUq : wr.ownsRow 0 3 1 (.slice Au np cu) np (icells (natI x)) := own_tch HU.out HTQ.out (fun g hg e => HUG.out g hg e)
    obtain ⟨A', c', hf, hsu⟩ := own_sl hUq
    cases hf
    obtain ⟨b1, o1, hA1, hb1, hcl⟩ := hsu.rd.at_ (nat_at hqP)
    have hcu := hsu.cap
    have hmu := hsu.max
    unfold maxLen at hmu
    subst hA1
    obtain ⟨y, hy⟩ := xQ (x.getD q 0)
    have hye : x[q] = y := by rw [← hy, gD, gE hqP]; rfl
    have hyN : y < nc := by have := HXL.out y (by rw [← hye]; exact mM hqP); have := HNE.out; omega
    have hy0 : (0 : Int) ≤ (y : Int) := by omega
    have hy1 : (y : Int) < (nc : Int) := by omega
    have HSN : Hid ((x.take (q + 1)).foldl (fun r y => r.set y true) (goalP nc pre) = ((x.take q).foldl (fun r y => r.set y true) (goalP nc pre)).set y true) := dh (by rw [take_snoc x q hqP, hye, List.foldl_append]; rfl)
    have hgb := own_getB HRQ.out hyN
    have hf0 := hgb.1
    have hf1 := hgb.2.1
    have hgl := hgb.2.2.1
    have hbW : wr.cell? ⟨w.1.size + 1 + 1, 0, none⟩ = some (.slice (some ⟨w.1.size + 1, 0, none⟩) nc nc) := bD HTQ.out (by have := hrnds; omega) (fun e => by have e : w.1.size + 1 + 1 = w.1.size + 1 := e; omega) HBV.out
    rw [hy] at hcl
    clear hy hye hsu hUq hgb
    gi_wp2
    go_roundw
    case rel => exact ⟨q + 1, by omega, congrArg (Value.int .i64) (by omega), dh (by rw [HSN.out]; exact own_setB HRQ.out), dh (HTQ.out.setCell (p := ⟨w.1.size + 1, y, none⟩) (fun _ => rfl) _)⟩
    case measure => simp [intOf]; omega
   ·have hqe : q = np := by omega
    subst hqe
    have HTK : Hid (x.take q = x) := dh (tL (by rw [HNP.out]; exact lR))
    gi_wp2
    have hT1 : Tch N1 V wr := HTQ.out.wide (fun k e => by have e : k = w.1.size + 1 := e; rw [e]; exact hN1)
    refine ⟨N1, Rnd.of_tch hT1 hNV, ?_, HRND.out.tch_right hT1, hN1⟩
    rw [goalP_snoc]
    have := HRQ.out
    rwa [HTK.out] at this
 case done =>
  rintro D N1 V hD hDN ⟨hrow, hrnd, hN1⟩ hDv
  dsimp only at hrow hrnd hN1
  have hzV := hrnd.tch.size
  have hDl : D < V.1.size := (aI.1 hDv).1
  have hbV : V.cell? ⟨w.1.size + 1 + 1, 0, none⟩ = some (.slice (some ⟨w.1.size + 1, 0, none⟩) nc nc) := (boxed_tch hbx hrnd.tch (fun e => by have e : w.1.size + 1 + 1 = w.1.size + 1 := e; omega)).cell
  have hpV : V.1[w.1.size]? = some _ := (hrnd.tch.block w.1.size (by omega) (fun e => by have e : w.1.size = w.1.size + 1 := e; omega)).trans hp1
  have c0 : V.cell? ⟨w.1.size, 0, none⟩ = some (.slice ai ni ci) := cR hpV
  have c1 : V.cell? ⟨w.1.size, 1, none⟩ = some (.slice ae nc ce) := cR hpV
  have c2 : V.cell? ⟨w.1.size, 2, none⟩ = some (.slice al nl cl) := cR hpV
  have hMB : ∀ k, (fun k => k = w.1.size + 1) k → w.1.size ≤ k := fun k e => by have e : k = w.1.size + 1 := e; omega
  have HBV := dh (rnd_below hrnd (show w.1.size ≤ W0.1.size by omega) hMB)
  have hGV := (HR0.out.below HBV.out hB).g
  obtain ⟨A8, c8, hf8, hSV⟩ := own_sl hrow
  cases hf8
  have HBK := dh (backP_any ai ae al ni ci nc ce nl cl ⟨I, E, L.map (fun (x : Nat) => (x : Int))⟩ (goalP nc (goodL E ins s)) (some ⟨w.1.size + 1, 0, none⟩) nc nc V V.1.size (hGV.up (by omega)) hSV (by rw [goalP_len]) lR hi (by omega) hl (by omega) KE hr hKE (by omega))
  clear hSV hGV hpV
  gi_wp2_with (refine ⟨trivial, ?_⟩; gi_at_call 89; refine (callsIn_wide.2 HBK.out).mono ?_; rintro e V2 ⟨v, rfl, hv, hbv, hnil⟩; obtain ⟨Av, cv, rfl, -⟩ := own_sl hv; have HDV := dh ((hbv.block D hDl).trans hDv); have HV := dh hv; have HBV2 := dh hbv; have HNIL := dh hnil; clear hv hbv hnil)
  refine ⟨by simp, .inl ⟨_, _, rfl, run_takeDeferred HDV.out, ?_⟩⟩
  have hlast : (backG nc E (goalP nc (goodL E ins s))).map Value.bool = bcells (lastR E ins s) := by
   rw [HNE.out]; rfl
  have hv2 := own_base HV.out (show w.1.size ≤ V.1.size by omega)
  rw [hlast] at hv2
  exact ⟨_, results_tmp rfl _ _ _, .slice Av nc cv, rfl, ownsRow_putObj hv2 (.deferred none) HDV.out rfl, ((HB0.out.trans HBV.out).trans (HBV2.out.mono (show w.1.size ≤ V.1.size by omega))).trans (belowK_b (w := w) lR V2 D _ _ (by omega) HDV.out rfl rfl), HNIL.out⟩
 case stop => exact fun _ _ _ _ _ _ _ _ h => h.elim
theorem lasting_any (I : List Int) (E : List (List Nd)) (L ins : List Nat) (s : Nat) (ai : Option Addr) (ni ci : Nat) (ae : Option Addr) (ne ce : Nat) (al : Option Addr) (nl cl : Nat) (ac : Option Addr) (nc cc : Nat) (B : Nat) (w : World)
  (h : PlayRd w B ai ni ci ae ne ce al nl cl ac nc cc I E L ins) (hB : B ≤ w.1.size) (hEn : ∀ r ∈ E, ∀ e ∈ r, isNd E.length e.op = true) (hN : ne ≤ 65536) (KE : Nat) (hr : ∀ r ∈ E, r.length ≤ KE) (hKE : ne * KE ≤ 1000000000) (hK2 : KE ≤ 1000000) (hil : ins.length = E.length) (h64 : ∀ x, ins.getD x 0 < 2 ^ 64) (hs : s ≤ 16)
  (hi : ni ≤ 1000000000) (hl : nl ≤ 17592186044416) :
  Calls Tryd.prog 60 #[.agg #[.slice ai ni ci, .slice ae ne ce, .slice al nl cl, .slice ac nc cc, .int .u64 (allB s : Int)]] w (NewRow w 4 1 ne (bcells (lastR E ins s)) False) :=
 (callsIn_wide (n := 3)).1 (lasting_in 3 lR I E L ins s ai ni ci ae ne ce al nl cl ac nc cc B w h hB hEn hN KE hr hKE hK2 hil h64 hs hi hl)
end Go.Proofs.YtiebpncpdbnelaaDoor
