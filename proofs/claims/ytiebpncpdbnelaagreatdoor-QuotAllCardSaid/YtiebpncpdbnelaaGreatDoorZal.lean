/- Texts that stand one behind the other, in one file. -/
import Derived.Test.YtiebpncpdbnelaaGreatDoorZah
import Derived.Test.YtiebpncpdbnelaaGreatDoorGr10
import Derived.Test.YtiebpncpdbnelaaGreatDoorGr7
import Derived.Test.YtiebpncpdbnelaaGreatDoorGr6
set_option maxHeartbeats 4000000
set_option maxRecDepth 100000
namespace Go.Proofs.YtiebpncpdbnelaaGreatDoor
open Go.RowKit
def backG (n : Nat) (E : List (List Nd)) (goal : List Bool) : List Bool := reachG n (turnE E) (goalsG n goal)
theorem turnE_bd {K : Nat} {E : List (List Nd)} (hK : ∀ l ∈ E, l.length ≤ K) (h : E.length * K ≤ 1000000000) : ∀ l ∈ turnE E, l.length ≤ 1000000000 := by
 intro l hl
 obtain ⟨t, ht, rfl⟩ := List.getElem_of_mem hl
 have := turnTo_bd (n := E.length) hK E.length t
 have e : (turnTo E.length E E.length).getD t [] = (turnE E)[t] := by
  show (turnE E).getD t [] = _
  simp [List.getD, ht]
 rw [e] at this; omega
theorem goalsG_len (n : Nat) (goal : List Bool) : (goalsG n goal).length ≤ n := by
 rw [goalsG, List.length_map]
 exact Nat.le_trans (List.length_filter_le _ _) (by simp; omega)
section
variable (ai ae al : Option Addr) (ni ci ne ce nl cl : Nat)
theorem backP_any (G : Gph) (goal : List Bool) (A : Option Addr) (n c : Nat) (w : World) (B : Nat) (h : GrRd w B ai ni ci ae ne ce al nl cl G) (hs : Sl w B 1 A n c (goal.map .bool)) (hn : n = goal.length) (hB : B ≤ w.1.size) (hi : ni ≤ 1000000000) (he : ne ≤ 65536) (hl : nl ≤ 17592186044416) (hn2 : n ≤ 1000000000) (KE : Nat) (hr : ∀ l ∈ G.edges, l.length ≤ KE) (hKE : ne * KE ≤ 1000000000) (hK2 : KE ≤ 1000000000) :
  Calls Tryz.prog 54 #[.agg #[.slice ai ni ci, .slice ae ne ce, .slice al nl cl], .slice A n c] w (NewRow w 4 1 ne ((backG ne G.edges goal).map .bool) False) := by
 subst hn
 obtain ⟨w0, hw0, hb0, hz0, hx0, hx1, hx2⟩ := boxed3 w (.slice ai ni ci) (.slice ae ne ce) (.slice al nl cl) 55
 have HW0 := dh hw0
 have h' := h.below hb0 hB
 have hs' := hs.below hb0 hB
 have hzl : w.1.size < w0.1.size := by omega
 have L2 := h.lens.2.1
 have hr2 : ∀ l ∈ turnE G.edges, l.length ≤ 1000000000 := turnE_bd hr (by rw [← L2]; exact hKE)
 have HL2 := dh L2
 have hu : backG ne G.edges goal = reachG ne (turnE G.edges) (goalsG ne goal) := rfl
 rw [hu]
 clear hw0 hz0 h hs L2 hu
 go_enter Tryz.func54, Tryz.ntmps54
 go_wp2_with fail
 rw [← HW0.out]
 refine wp_region_held_drew (S := fun w' => w'.cell? ⟨w.1.size, 0, none⟩ = some (.slice ai ni ci) ∧ w'.cell? ⟨w.1.size, 1, none⟩ = some (.slice ae ne ce) ∧ w'.cell? ⟨w.1.size, 2, none⟩ = some (.slice al nl cl)) (by kernel_rfl) ⟨hx0, hx1, hx2⟩ (fun hS => ?_)
 refine tkH 0 ?_
 refine tkH 2 ?_
 refine tkH 3 ?_
 refine oneH 1 (fun K hK => ?_)
 go_simp
 refine ((turnP_any ai ae al ni ci ne ce nl cl G _ B (h'.below (Below.drew bR) (by omega)) (by show B ≤ w0.1.size; omega) hi (by omega) hl KE hr hKE hK2)).mono ?_
 rintro e wA ⟨bi, mi, di, be, me, de, bl, ml, dl, rfl, hG, hb', _⟩
 have hbA : Below w0.1.size w0 wA := below_undrew hb'
 have p0 := bC hbA hzl hx0
 have p1 := bC hbA hzl hx1
 have p2 := bC hbA hzl hx2
 have hzA := hbA.size
 clear hb'
 go_wp2_with fail
 refine hK.out _ _ ⟨p0, p1, p2⟩ (fun hS => ?_)
 clear hK
 refine oneH 4 (fun K hK => ?_)
 go_simp
 refine (goals_any ai ae al ni ci ne ce nl cl A _ c (min goal.length ne) rfl goal _ B rfl (hs'.below hbA (by omega)) (by omega) (by omega) (by omega)).mono ?_
 rintro e wB ⟨vg, rfl, hown, hb', _⟩
 obtain ⟨Ag, cg, rfl, hsg⟩ := own_sl hown
 have hbB : Below w0.1.size w0 wB := hbA.trans (hb'.mono (by omega))
 have q0 := bC hbB hzl hx0
 have q1 := bC hbB hzl hx1
 have q2 := bC hbB hzl hx2
 have hzB := hbB.size
 have hG2 := (hG.below hb' lR).up (show wA.1.size ≤ wB.1.size by have := hb'.size; omega)
 have hs2 := hsg
 clear hb'
 go_wp2_with fail
 refine hK.out _ _ ⟨q0, q1, q2⟩ (fun hS => ?_)
 clear hK
 refine oneH 5 (fun K hK => ?_)
 go_simp
 have hme : me = ne := by have h1 := hG2.lens.2.1; have h2 := HL2.out; simp only [turnE_len] at h1; omega
 refine (reachP_any bi be bl mi di me de ml dl ⟨G.init, turnE G.edges, G.labels⟩ (goalsG ne goal) Ag _ cg wB wB.1.size hG2 hs2 rfl lR (by rw [hme]; exact he) (by have := goalsG_len ne goal; omega) hr2).mono ?_
 rw [hme]
 rintro e wC ⟨v, rfl, hownC, hbC, hnil⟩
 go_wp2_with fail
 have s0 := bC hbC (by omega) q0
 have s1 := bC hbC (by omega) q1
 have s2 := bC hbC (by omega) q2
 have HNI := dh hnil
 clear hnil
 refine hK.out _ _ ⟨s0, s1, s2⟩ (fun hS => ?_)
 clear hK
 refine tkH 6 ?_
 refine wpAnyH_done (by kernel_rfl) ?_ _
 go_wp2
 go_ret
 exact ⟨v, rfl, own_base hownC (by omega), (hb0.trans (hbB.mono (by omega))).trans (hbC.mono (by omega)), HNI.out⟩
theorem backR_any (G : Gph) (goal : List Bool) (A : Option Addr) (n c : Nat) (w : World) (B : Nat) (h : GrRd w B ai ni ci ae ne ce al nl cl G) (hs : Sl w B 1 A n c (goal.map .bool)) (hn : n = goal.length) (hB : B ≤ w.1.size) (hi : ni ≤ 1000000000) (he : ne ≤ 65536) (hl : nl ≤ 1000000000) (hn2 : n ≤ 1000000000) (KE : Nat) (hr : ∀ l ∈ G.edges, l.length ≤ KE) (hKE : ne * KE ≤ 1000000000) (hK2 : KE ≤ 1000000000) :
  Calls Tryz.prog 89 #[.agg #[.slice ai ni ci, .slice ae ne ce, .slice al nl cl], .slice A n c] w (NewRow w 4 1 ne ((backG ne G.edges goal).map .bool) False) := by
 subst hn
 obtain ⟨w0, hw0, hb0, hz0, hx0, hx1, hx2⟩ := boxed3 w (.slice ai ni ci) (.slice ae ne ce) (.slice al nl cl) 55
 have HW0 := dh hw0
 have h' := h.below hb0 hB
 have hs' := hs.below hb0 hB
 have hzl : w.1.size < w0.1.size := by omega
 have L2 := h.lens.2.1
 have hr2 : ∀ l ∈ turnE G.edges, l.length ≤ 1000000000 := turnE_bd hr (by rw [← L2]; exact hKE)
 have HL2 := dh L2
 have hu : backG ne G.edges goal = reachG ne (turnE G.edges) (goalsG ne goal) := rfl
 rw [hu]
 clear hw0 hz0 h hs L2 hu
 go_enter Tryz.func89, Tryz.ntmps89
 go_wp2_with fail
 rw [← HW0.out]
 refine wp_region_held_drew (S := fun w' => w'.cell? ⟨w.1.size, 0, none⟩ = some (.slice ai ni ci) ∧ w'.cell? ⟨w.1.size, 1, none⟩ = some (.slice ae ne ce) ∧ w'.cell? ⟨w.1.size, 2, none⟩ = some (.slice al nl cl)) (by kernel_rfl) ⟨hx0, hx1, hx2⟩ (fun hS => ?_)
 refine tkH 0 ?_
 refine tkH 2 ?_
 refine tkH 3 ?_
 refine oneH 1 (fun K hK => ?_)
 go_simp
 refine ((turnR_any ai ae al ni ci ne ce nl cl G _ B (h'.below (Below.drew bR) (by omega)) (by show B ≤ w0.1.size; omega) hi (by omega) hl KE hr hKE hK2)).mono ?_
 rintro e wA ⟨bi, mi, di, be, me, de, bl, ml, dl, rfl, hG, hb', _⟩
 have hbA : Below w0.1.size w0 wA := below_undrew hb'
 have p0 := bC hbA hzl hx0
 have p1 := bC hbA hzl hx1
 have p2 := bC hbA hzl hx2
 have hzA := hbA.size
 clear hb'
 go_wp2_with fail
 refine hK.out _ _ ⟨p0, p1, p2⟩ (fun hS => ?_)
 clear hK
 refine oneH 4 (fun K hK => ?_)
 go_simp
 refine (goalsR_any ai ae al ni ci ne ce nl cl A _ c goal _ B rfl (hs'.below hbA (by omega)) (by omega) (by omega) (by omega)).mono ?_
 rintro e wB ⟨vg, rfl, hown, hb', _⟩
 obtain ⟨Ag, cg, rfl, hsg⟩ := own_sl hown
 have hbB : Below w0.1.size w0 wB := hbA.trans (hb'.mono (by omega))
 have q0 := bC hbB hzl hx0
 have q1 := bC hbB hzl hx1
 have q2 := bC hbB hzl hx2
 have hzB := hbB.size
 have hG2 := (hG.below hb' lR).up (show wA.1.size ≤ wB.1.size by have := hb'.size; omega)
 have hs2 := hsg
 clear hb'
 go_wp2_with fail
 refine hK.out _ _ ⟨q0, q1, q2⟩ (fun hS => ?_)
 clear hK
 refine oneH 5 (fun K hK => ?_)
 go_simp
 have hme : me = ne := by have h1 := hG2.lens.2.1; have h2 := HL2.out; simp only [turnE_len] at h1; omega
 refine (reachR_any bi be bl mi di me de ml dl ⟨G.init, turnE G.edges, G.labels⟩ (goalsG ne goal) Ag _ cg wB wB.1.size hG2 hs2 rfl lR (by rw [hme]; omega) (by have := goalsG_len ne goal; omega) hr2).mono ?_
 rw [hme]
 rintro e wC ⟨v, rfl, hownC, hbC, hnil⟩
 go_wp2_with fail
 have s0 := bC hbC (by omega) q0
 have s1 := bC hbC (by omega) q1
 have s2 := bC hbC (by omega) q2
 have HNI := dh hnil
 clear hnil
 refine hK.out _ _ ⟨s0, s1, s2⟩ (fun hS => ?_)
 clear hK
 refine tkH 6 ?_
 refine wpAnyH_done (by kernel_rfl) ?_ _
 go_wp2
 go_ret
 exact ⟨v, rfl, own_base hownC (by omega), (hb0.trans (hbB.mono (by omega))).trans (hbC.mono (by omega)), HNI.out⟩
end
end Go.Proofs.YtiebpncpdbnelaaGreatDoor
namespace Go.Proofs.YtiebpncpdbnelaaGreatDoor
open Go.RowKit
def WRows (w0 : World) (r ne : Nat) (R : List (List Nd)) (wr : World) : Prop :=
 ∃ vs, Own2 wr w0.1.size 83 81 2 (.slice (some ⟨r, 0, none⟩) ne ne) (R.map ncells) vs ∧ Below w0.1.size w0 wr
theorem WRows.below {w0 w w' : World} {r ne : Nat} {R : List (List Nd)} (h : WRows w0 r ne R w) (hb : Below w.1.size w w') : WRows w0 r ne R w' := by
 obtain ⟨vs, h2, h5⟩ := h
 exact ⟨vs, h2.below hb, h5.trans (hb.mono h5.size)⟩
theorem WRows.start {w0 : World} {ne : Nat} (hne : ne ≤ 1000000000) : WRows w0 w0.1.size ne (List.replicate ne []) (w0.alloc (.cells (madeCells #[.slice none 0 0] ne) 81)) := by
 refine ⟨List.replicate ne (.slice none 0 0), ?_, below_al lR bR⟩
 rw [List.map_replicate, show ncells [] = [] from rfl]
 have hm : (madeCells #[Value.slice none 0 0] ne).toList = List.replicate ne (.slice none 0 0) := toList_madeCells_one _ _
 have hs : (madeCells #[Value.slice none 0 0] ne).size = ne := by have := congrArg List.length hm; simpa using this
 refine Own2.fresh ⟨by simp, .inr ⟨w0.1.size, ne, _, rfl, lR, heap_alloc_new _ _, lR, by unfold maxLen; omega, by rw [hs, Nat.mul_one], ?_⟩⟩
 rw [tL (by rw [Array.length_toList, hs]; omega)]
 exact hm
theorem WRows.grow {w0 w w1 w2 : World} {r ne : Nat} {R : List (List Nd)} {t n n' : Nat} {u u' : Value} {vs ys0 : List Value} {ys : List Nd} {o : Obj}
  (h2 : Own2 w w0.1.size 83 81 2 (.slice (some ⟨r, 0, none⟩) ne ne) (R.map ncells) vs)
  (h5 : Below w0.1.size w0 w) (hw : w1 = w.alloc o) (hu : vs[t]? = some u) (huo : w.ownsRow w0.1.size 83 2 u n ys0)
  (hown : w2.ownsRow w0.1.size 83 2 u' n' (ncells ys)) (ht : Tch (fun k => u.ownBlock = some k) w1 w2) (hat : u'.ownBlock = u.ownBlock ∨ u'.ownBlock = some w1.1.size) :
  w2.cell? ⟨r, t, none⟩ = some u ∧ w2.frozen? ⟨r, t, none⟩ = false ∧ (∀ b, b < w.1.size → (∀ g, u.ownBlock = some g → g ≠ b) → ∀ o, w2.cell? ⟨b, o, none⟩ = w.cell? ⟨b, o, none⟩) ∧
   WRows w0 r ne (R.set t ys) (w2.setCell ⟨r, t, none⟩ u') := by
 subst hw
 have ht' : Tch (fun k => u.ownBlock = some k) w w2 := Tch.trans ((Tch.refl _ w).alloc _) ht (fun _ _ h => h)
 obtain ⟨p1, p2⟩ := h2.put (te := 83) (tr := 81) (by decide) hu h5.size hown ht' (fun g' hg' => by
  rcases hat with h | h
  ·exact .inl (h ▸ hg')
  ·rw [h] at hg'; cases hg'; exact .inr (by simp))
 have hm := own_tch h2.main ht' (fun k hk hk' => own_ne huo h2.main (by decide) k hk' hk)
 have hl := h2.len'
 have htl : t < vs.length := (gB.1 hu).1
 rw [h2.len] at htl
 rw [← hl] at hm
 refine ⟨?_, hm.frozenAt t, fun b hb hne o => World.cell?_of_block (a := ⟨b, o, none⟩) (ht'.block b hb (fun h => hne b h rfl)), vs.set t u', ?_, ?_⟩
 ·rw [hm.cellAt t (by omega)]; exact hu
 ·rw [List.map_set]; exact p1
 ·refine h5.trans (p2.below h5.size (fun k hk hS => ?_))
  rcases hS with e | e
  ·have := (h2.main.lt r rfl).1; omega
  ·have := (huo.lt k e).1; omega
theorem two_new (w : World) (x y : Obj) : Below w.1.size w ((w.alloc x).alloc y) ∧ ((w.alloc x).alloc y).1[w.1.size]? = some x ∧ ((w.alloc x).alloc y).1[w.1.size + 1]? = some y ∧ ((w.alloc x).alloc y).1.size = w.1.size + 2 := by
 refine ⟨(bR.alloc lR _).alloc (by simp) _, ?_, ?_, by simp⟩
 ·rw [Below.heap_alloc _ _ _ (by simp)]; exact heap_alloc_new w x
 ·have := heap_alloc_new (w.alloc x) y
  rwa [show (w.alloc x).1.size = w.1.size + 1 by simp] at this
theorem boxed66 (w : World) (x0 x1 x2 y0 y1 y2 : Value) (t : Nat) : ∃ w0, w0 = (w.alloc (.cells #[x0, x1, x2] t)).alloc (.cells #[y0, y1, y2] t) ∧ Below w.1.size w w0 ∧ w0.1.size = w.1.size + 2 ∧
  (w0.cell? ⟨w.1.size, 0, none⟩ = some x0 ∧ w0.cell? ⟨w.1.size, 1, none⟩ = some x1 ∧ w0.cell? ⟨w.1.size, 2, none⟩ = some x2) ∧ (w0.cell? ⟨w.1.size + 1, 0, none⟩ = some y0 ∧ w0.cell? ⟨w.1.size + 1, 1, none⟩ = some y1 ∧ w0.cell? ⟨w.1.size + 1, 2, none⟩ = some y2) ∧
  w0.1[w.1.size + 1]? = some (.cells #[y0, y1, y2] t (0, 0)) := by
 obtain ⟨hb, p, q, z⟩ := two_new w (.cells #[x0, x1, x2] t) (.cells #[y0, y1, y2] t)
 exact ⟨_, rfl, hb, z, (blk3 p).1, (blk3 q).1, q⟩
section
variable (ai ae al : Option Addr) (ni ci ne ce nl cl : Nat)
theorem within30_any (G : Gph) (z : List Bool) (Az : Option Addr) (cz : Nat) (w : World) (B : Nat) (h : GrRd w B ai ni ci ae ne ce al nl cl G) (hzs : Sl w B 1 Az ne cz (z.map .bool)) (hzn : ne = z.length) (hB : B ≤ w.1.size) (he : ne ≤ 1000000000) (K : Nat) (hin : ∀ l ∈ G.edges, ∀ e ∈ l, isNd ne e.op = true) (hr : ∀ l ∈ G.edges, l.length ≤ K) (hK2 : K ≤ 1000000000) :
  Calls Tryz.prog 79 #[.agg #[.slice ai ni ci, .slice ae ne ce, .slice al nl cl], .slice Az ne cz] w (NewGr w ⟨[], withinE G.edges z, []⟩) := by
 obtain ⟨w0, hw0, hb0, hz0, ⟨hx0, hx1, hx2⟩, ⟨hy0, hy1, hy2⟩, hr0⟩ := boxed66 w (.slice ai ni ci) (.slice ae ne ce) (.slice al nl cl) (.slice none 0 0) (.slice none 0 0) (.slice none 0 0) 55
 have HW0 := dh hw0
 obtain ⟨L1, L2, L3⟩ := h.lens
 have H2 := dh L2
 have h' := h.below hb0 hB
 have hz' := hzs.below hb0 hB
 have HZN := dh hzn
 have HR0 := dh hr0
 have hmk := run_make_row' (P := Tryz.prog) 53 81 (.slice none 0 0) 24 Tryz.underlying53 infoRowE rfl .i64 .i64 ne (by omega) (by omega)
 have hzl : w.1.size < w0.1.size := by omega
 have hzr : w.1.size + 1 < w0.1.size := by omega
 have hse : w.1.size + 1 + 1 = w0.1.size := by omega
 have HSE := dh hse
 clear hw0 hz0 hy0 hy1 hy2 L1 L2 L3 hzn hr0 hse
 go_enter Tryz.func79, Tryz.ntmps79
 go_wp2
 rw [← HW0.out, HSE.out]
 have hT := WRows.start (w0 := w0) (ne := ne) (by omega)
 obtain ⟨wc, hwc⟩ := xR (w0.alloc (.cells (madeCells #[.slice none 0 0] ne) 81))
 rw [← hwc] at hT
 rw [← hwc]
 obtain ⟨r, hre⟩ := xR w0.1.size
 rw [← hre]
 have hr1 : w0.1.size ≤ r := by omega
 rw [← hre] at hT
 rw [H2.out, ← withinR_zero G.edges z, ← H2.out, hre] at hT
 rw [← hre] at hT
 clear hwc hre hmk HW0 HSE
 go_loopw [6, 7] (fun i _ wr => ∃ a : Nat, a ≤ ne ∧ i = .int .i64 a ∧ WRows w0 r ne (withinR G.edges z a) wr) (fun i _ _ => ne - (intOf i).toNat)
 case atStart => exact ⟨0, by omega, rfl, hT⟩
 case round =>
  obtain ⟨a, ha, rfl, hT⟩ := hrel
  obtain ⟨wp, rfl⟩ : ∃ wp : World, wp = wr := ⟨_, rfl⟩
  have hbel : Below w0.1.size w0 wp := hT.choose_spec.2
  have hzp := hbel.size
  have e1 := bC hbel hzl hx1
  by_cases hlt : a < ne
  ·have hal : a < G.edges.length := by rw [← H2.out]; exact hlt
   have haz : a < z.length := by rw [← HZN.out]; exact hlt
   obtain ⟨b, o, A', n', c', rfl, hbb, hc00, hrow⟩ := h'.he.at_ (ed_take hal)
   have hc0 := bC hbel (by omega) hc00
   have hlen := hr G.edges[a] (mM hal)
   have hxin := hin G.edges[a] (mM hal)
   have hnx : n' = G.edges[a].length := by have := hrow.len; rw [ncells_len] at this; omega
   have hsucc := withinR_succ (z := z) hal
   have hR0 : WRows w0 r ne ((withinR G.edges z a).set a ((G.edges[a].take 0).filter (keepE z a))) wp := by rw [List.take_zero, List.filter_nil, ← withinR_at hal]; exact hT
   have hRl : (withinR G.edges z a).length = ne := by rw [withinR_len, ← H2.out]
   generalize G.edges[a] = x at *
   generalize withinR G.edges z a = R at *
   subst hnx
   have HSU := dh hsucc
   have HRL := dh hRl
   clear hsucc hRl hT
   go_wp2
   clear e1 hc0
   go_loopw [7] (fun i wr => ∃ m : Nat, m ≤ x.length ∧ i = .int .i64 m ∧ WRows w0 r ne (R.set a ((x.take m).filter (keepE z a))) wr) (fun i _ => x.length - (intOf i).toNat)
   case atStart => exact ⟨0, by omega, rfl, hR0⟩
   case round =>
    obtain ⟨m, hm, rfl, hT⟩ := hrel
    clear hR0
    have hbr : Below w0.1.size w0 wr := hT.choose_spec.2
    have f0 := bC hbr hzl hx0
    have f1 := bC hbr hzl hx1
    have f2 := bC hbr hzl hx2
    have hc0r := bC hbr (by omega) hc00
    have j0 : (0 : Int) ≤ (a : Int) := by omega
    have j1 : (a : Int) < (ne : Int) := by omega
    obtain ⟨zb, zo, hze, hzb0, hzc0⟩ := (hz'.rd.below hbr (by omega)).at_ (bcells'_at haz)
    subst hze
    have hzr2 := hbr.size
    by_cases hltm : m < x.length
    ·cases hza : z.getD a false
     ·rw [hza] at hzc0
      have hfe : ∀ l : List Nd, l.filter (keepE z a) = [] := fun l => by rw [List.filter_eq_nil_iff]; intro e _; rw [keepE, hza, Bool.false_and]; decide
      have hT1 := hT
      rw [hfe, ← hfe x, ← HSU.out] at hT1
      have HT1 := dh hT1
      clear hT hT1 hfe f0 f2 hza
      go_wp2
      go_roundw
      case rel => exact ⟨a + 1, by omega, by go_num, HT1.out⟩
      case measure => simp [intOf]; omega
     ·rw [hza] at hzc0
      obtain ⟨bb, oo, rfl, hbbb, hd0, hd1⟩ := rd_nd (hrow.rd.below hbr (by omega)) hltm
      have hsn := filter_snoc (keepE z a) hltm
      have hbd : ((x.take m).filter (keepE z a)).length ≤ m := Nat.le_trans (List.length_filter_le _ _) (by rw [List.length_take]; omega)
      have hke : keepE z a x[m] = (z.getD a false && hasB z x[m].op) := rfl
      rw [hza, Bool.true_and] at hke
      have hnd : isNd ne x[m].op = true := hxin _ (mM hltm)
      generalize (x.take m).filter (keepE z a) = y at *
      generalize keepE z a x[m] = kk at *
      generalize x[m] = e at *
      obtain ⟨op, act⟩ := e
      dsimp only at *
      have hzw : w.1.size < wr.1.size := by omega
      have hbw : b < wr.1.size := by omega
      have hbbw : bb < wr.1.size := by omega
      have hzbw : zb < wr.1.size := by omega
      have m0 : (0 : Int) ≤ (m : Int) := by omega
      have m1 : (m : Int) < (x.length : Int) := by omega
      have HSN := dh hsn
      have HKE := dh hke
      have HTW := dh hT
      have HBD := dh hbd
      clear hsn hke hT hbd hx0 hx1 hx2 hc00 hza
      obtain ⟨j, rfl, hjn⟩ := isNd_nat hnd
      have hjz : j < z.length := by rw [← HZN.out]; exact hjn
      obtain ⟨zb', zo', hze', _, hzc⟩ := (hz'.rd.below hbr (by omega)).at_ (bcells'_at hjz)
      cases hze'
      have hhb : hasB z (j : Int) = z.getD j false := hasB_nat hjz
      rw [hhb] at HKE
      have HND := dh hnd
      generalize z.getD j false = zv at *
      have i0 : (0 : Int) ≤ (j : Int) := by omega
      have i1 : (j : Int) < (ne : Int) := by omega
      clear hnd hhb
      cases zv
      ·have HT2 := HTW
       have HKF := HKE
       go_wp2
       go_roundw
       case rel => exact ⟨m + 1, by omega, by go_num, by rw [HSN.out, if_neg (by rw [HKF.out]; decide), List.append_nil]; exact HT2.out⟩
       case measure => simp [intOf]; omega
      ·go_wp2_with fail
       obtain ⟨w2, hw2⟩ : ∃ w2 : World, w2 = wr := ⟨_, rfl⟩
       have hb2 : Below wr.1.size wr w2 := by rw [hw2]; exact bR
       have k1 : w2.cell? ⟨w.1.size, 1, none⟩ = some (.slice (some ⟨b, o, none⟩) ne ce) := by rw [hw2]; exact f1
       have k3 : w2.cell? ⟨b, o + a, none⟩ = some (.slice (some ⟨bb, oo, none⟩) x.length c') := by rw [hw2]; exact hc0r
       have k4 : w2.cell? ⟨bb, oo + m * 2, none⟩ = some (.int .i64 (j : Int)) := by rw [hw2]; exact hd0
       have k5 : w2.cell? ⟨bb, oo + m * 2 + 1, none⟩ = some (.int .i64 act) := by rw [hw2]; exact hd1
       rw [← hw2]
       clear f0 f1 f2 hc0r hd0 hd1 hw2
       obtain ⟨vs, s2, s5⟩ := HTW.out
       have t2 := s2.below hb2
       have t5 := s5.trans (hb2.mono s5.size)
       have hrlt := fun (j : Nat) (v : Value) (hv : vs[j]? = some v) => s2.rowlt hv
       clear s2 s5
       have haR : a < R.length := by rw [HRL.out]; exact hlt
       obtain ⟨u, n0, hu, ho⟩ := t2.row a (ncells y) (by simp [haR])
       have hn0 : n0 = y.length := by have := ho.1; rw [ncells_len] at this; omega
       have hnb : n0 ≤ m := by have := HBD.out; omega
       obtain ⟨Au, cu, rfl, hsu⟩ := own_sl ho
       have d0 := t2.cell hu
       have d1 := t2.frozen a
       have hrl : r < w2.1.size := (t2.main.lt r rfl).2
       have hwl : wr.1.size ≤ w2.1.size := hb2.size
       have hune : ∀ g', (Value.slice Au n0 cu).ownBlock = some g' → w0.1.size ≤ g' := fun g' hg' => (hrlt a _ hu g' hg').1
       clear hrlt
       have HU := dh hu
       have HN0 := dh hn0
       have hnw := heap_alloc_new w2 (.cells #[.int .i64 (j : Int), .int .i64 act] 83)
       clear hu hn0
       refine wp_region_T (S := fun w' => w'.cell? ⟨w.1.size, 1, none⟩ = some (.slice (some ⟨b, o, none⟩) ne ce) ∧ w'.cell? ⟨b, o + a, none⟩ = some (.slice (some ⟨bb, oo, none⟩) x.length c') ∧ w'.cell? ⟨bb, oo + m * 2, none⟩ = some (.int .i64 (j : Int)) ∧ w'.cell? ⟨bb, oo + m * 2 + 1, none⟩ = some (.int .i64 act) ∧ w'.cell? ⟨r, a, none⟩ = some (.slice Au n0 cu)) 17 (by kernel_rfl) ⟨k1, k3, k4, k5, d0⟩ (fun hS => ?_)
       refine tkT 0 ?_
       refine tkT 1 ?_
       refine tkT 2 ?_
       refine tkT 3 ?_
       refine tkT 4 ?_
       refine tkT 5 ?_
       refine tkT 6 ?_
       refine tkT 7 ?_
       refine tkT 8 ?_
       refine tkT 9 ?_
       refine tkT 10 ?_
       refine tkT 11 ?_
       refine tkT 12 ?_
       refine tkT 13 ?_
       refine wpAnyT_oneD (i := 14) rfl (by kernel_rfl) (by decide) (fun K hK => ?_)
       go_simp
       refine hK.out _ _ (by go_keep) (fun hS => ?_)
       clear hK
       refine wpAnyT_oneD (i := 15) rfl (by kernel_rfl) (by decide) (fun K hK => ?_)
       refine step_push rfl (.tmp 52) (.tmp 61) 81 rfl w0.1.size 83 2 16 sliceEd _ _ _ (ho.alloc _) rfl w2.1.size #[.int .i64 (j : Int), .int .i64 act] rfl hnw rfl (by simp [Value.oneCell']) (by omega) (by omega) (by simp; omega) ?_
       intro u' w3 hown3 ht3 hat3 hne3
       obtain ⟨g', cap', rfl, _⟩ := own_form hown3 (by omega)
       obtain ⟨r1, r2, r4, r5⟩ := WRows.grow (ys := y ++ [⟨(j : Int), act⟩]) t2 t5 rfl HU.out ho (by rw [ncells_append]; simpa [ncells] using hown3) (Tch.undrew ht3) hat3
       have r6 := (r4 w.1.size (by omega) (fun g hg e => by have := hune g hg; omega) 1).trans k1
       have r7 := (r4 b (by omega) (fun g hg e => by have := hune g hg; omega) (o + a)).trans k3
       have r8 := (r4 bb (by omega) (fun g hg e => by have := hune g hg; omega) (oo + m * 2)).trans k4
       have r9 := (r4 bb (by omega) (fun g hg e => by have := hune g hg; omega) (oo + m * 2 + 1)).trans k5
       refine hK.out _ _ ⟨r6, r7, r8, r9, r1⟩ (fun hS => ?_)
       clear hK r4
       refine tkT 16 ?_
       refine wpAnyT_endD rfl (by kernel_rfl) (by kernel_rfl) (fun K hK => ?_)
       go_simp
       refine hK.out _ _ ?_
       clear hK
       go_wp2
       go_roundw
       case rel => exact ⟨m + 1, by omega, by go_num, by rw [HSN.out, if_pos HKE.out]; rw [List.set_set] at r5; exact r5⟩
       case measure => simp [intOf]; omega
    ·have hml : m = x.length := by omega
     have hT1 := hT
     rw [tL (by omega), ← HSU.out] at hT1
     have HT1 := dh hT1
     clear hT hT1 hml f0 f2
     go_wp2
     go_roundw
     case rel => exact ⟨a + 1, by omega, by go_num, HT1.out⟩
     case measure => simp [intOf]; omega
  ·have hae : a = ne := by omega
   have hfin : withinR G.edges z a = withinE G.edges z := by rw [hae, H2.out, withinR_full]
   rw [hfin] at hT
   have HTF := dh hT
   obtain ⟨⟨r0, r1, r2⟩, ⟨p0, p1, p2⟩, hrl⟩ := blk3 ((hbel.block _ hzr).trans HR0.out)
   have HF := dh (blk3 (heap_set3 (x := .slice none 0 0) (y := .slice (some ⟨r, 0, none⟩) ne ne) (z := .slice none 0 0) ((hbel.block _ hzr).trans HR0.out))).1
   have HAE := dh hae
   have hgr : w.1.size + 1 < r := by omega
   clear hfin hae hT
   go_wp2_with fail
   refine bodyPost_ret (v := .agg #[.slice none 0 0, .slice (some ⟨r, 0, none⟩) ne ne, .slice none 0 0]) ?_ rfl ?_
   ·obtain ⟨f0, f1, f2⟩ := HF.out
    simp [results, Tryz.results79, go_sem, f0, f1, f2]
   ·obtain ⟨vs, h2, h5⟩ := HTF.out
    have k2 := h2.tch (tch_set3 (g := w.1.size + 1) (x := .slice none 0 0) (y := .slice (some ⟨r, 0, none⟩) ne ne) (z := .slice none 0 0)) (fun k hk e => by have := (h2.main.lt k hk).1; omega) (fun j u k hu hk e => by have := (h2.rowlt hu k hk).1; omega)
    obtain ⟨A3, c3, e3, s3⟩ := k2.sl2
    have hl3 : ne = ((withinE G.edges z).map ncells).length := by rw [List.length_map, withinE_len, H2.out]
    rw [← hl3] at e3 s3
    cases e3
    exact ⟨_, _, _, _, _, _, _, _, _, rfl, ⟨Sl.none_ _ _ _, s3, Sl.none_ _ _ _⟩, below_set3 (by omega) (hb0.trans (hbel.mono (by omega))), vs, k2.rebase (by omega)⟩
end
end Go.Proofs.YtiebpncpdbnelaaGreatDoor
