/- The walk of fix: within. -/
import Derived.Test.YtfpncpjdmgfkbaaFx5
import Derived.Test.YtfpncpjdmgfkbaaGr6
namespace Go.Proofs.Ytfpncpjdmgfkbaa
open Go.RowKit

def keepE (z : List Bool) (a : Nat) (e : Nd) : Bool := z.getD a false && hasB z e.op
/-- The rows ahead of a. -/
def withinR (E : List (List Nd)) (z : List Bool) (a : Nat) : List (List Nd) := (List.range E.length).map fun i => if i < a then (E.getD i []).filter (keepE z i) else []
theorem withinR_len (E : List (List Nd)) (z : List Bool) (a : Nat) : (withinR E z a).length = E.length := by simp [withinR]
theorem withinR_zero (E : List (List Nd)) (z : List Bool) : withinR E z 0 = List.replicate E.length [] := by
  refine List.ext_getElem (by simp [withinR]) (fun i h1 h2 => by simp [withinR])
theorem withinR_succ {E : List (List Nd)} {z : List Bool} {a : Nat} (ha : a < E.length) : withinR E z (a + 1) = (withinR E z a).set a (E[a].filter (keepE z a)) := by
  refine List.ext_getElem (by simp [withinR]) (fun i h1 h2 => ?_)
  rw [List.getElem_set]
  simp only [withinR, List.getElem_map, List.getElem_range]
  by_cases e : a = i
  · subst e; simp [List.getD, ha]
  · rw [if_neg e]
    by_cases e2 : i < a
    · rw [if_pos e2, if_pos (by omega)]
    · rw [if_neg e2, if_neg (by omega)]
theorem withinR_at {E : List (List Nd)} {z : List Bool} {a : Nat} (_ha : a < E.length) : withinR E z a = (withinR E z a).set a [] := by
  refine List.ext_getElem (by simp) (fun i h1 h2 => ?_)
  rw [List.getElem_set]
  split
  · rename_i e; subst e; simp [withinR]
  · rfl
theorem withinR_full (E : List (List Nd)) (z : List Bool) : withinR E z E.length = withinE E z := by
  refine List.ext_getElem (by simp [withinR, withinE]) (fun i h1 h2 => ?_)
  have hi : i < E.length := by simpa [withinR] using h1
  simp only [withinR, withinE, List.getElem_map, List.getElem_range, if_pos hi]
  cases hz : z.getD i false
  · rw [if_neg (by decide)]
    rw [List.filter_eq_nil_iff]
    intro e _
    rw [keepE, hz, Bool.false_and]; decide
  · rw [if_pos rfl]
    refine List.filter_congr (fun e _ => ?_)
    rw [keepE, hz, Bool.true_and]
theorem filter_snoc {l : List Nd} {m : Nat} (p : Nd → Bool) (hm : m < l.length) : (l.take (m + 1)).filter p = (l.take m).filter p ++ if p l[m] = true then [l[m]] else [] := by
  rw [take_snoc l m hm, List.filter_append]
  congr 1
  rw [List.filter_cons, List.filter_nil]

section
variable (ai ae al : Option Addr) (ni ci ne ce nl cl : Nat)

set_option maxHeartbeats 4000000 in
set_option maxRecDepth 100000 in
theorem withinP_any (G : Gph) (z : List Bool) (Az : Option Addr) (cz : Nat) (w : World) (B : Nat) (h : GrRd w B ai ni ci ae ne ce al nl cl G) (hzs : Sl w B 1 Az ne cz (z.map .bool)) (hzn : ne = z.length) (hB : B ≤ w.heap.size) (he : ne ≤ 1000000000) (K : Nat) (hr : ∀ l ∈ G.edges, l.length ≤ K) (hK2 : K ≤ 1000000000) :
    Calls Try.prog 72 #[.agg #[.slice ai ni ci, .slice ae ne ce, .slice al nl cl], .slice Az ne cz] w (NewGr w ⟨[], withinE G.edges z, []⟩) := by
  obtain ⟨L1, L2, L3⟩ := h.lens
  obtain ⟨wx, hwx, hbx, hzx, hx0, hx1, hx2⟩ := boxed3 w (.slice ai ni ci) (.slice ae ne ce) (.slice al nl cl) 26
  obtain ⟨w0, hw0, hb0', hz0, hy0, hy1, hy2⟩ := boxed3 wx (.slice none 0 0) (.slice none 0 0) (.slice none 0 0) 26
  have hb0 : Below w.heap.size w w0 := hbx.trans (hb0'.mono (by omega))
  have hx0 := (hb0'.cell (p := ⟨w.heap.size, 0, none⟩) (show w.heap.size < wx.heap.size by omega)).trans hx0
  have hx1 := (hb0'.cell (p := ⟨w.heap.size, 1, none⟩) (show w.heap.size < wx.heap.size by omega)).trans hx1
  have hx2 := (hb0'.cell (p := ⟨w.heap.size, 2, none⟩) (show w.heap.size < wx.heap.size by omega)).trans hx2
  have hr0 : w0.heap[w.heap.size + 1]? = some (.cells #[.slice none 0 0, .slice none 0 0, .slice none 0 0] 26 (0, 0)) := by
    rw [hw0, ← hzx]; exact heap_alloc_new wx _
  have hww : (w.alloc (.cells #[.slice ai ni ci, .slice ae ne ce, .slice al nl cl] 26)).alloc (.cells #[.slice none 0 0, .slice none 0 0, .slice none 0 0] 26) = w0 := by rw [← hwx, ← hw0]
  have HW0 := Lib.hid hww
  have hzl : w.heap.size < w0.heap.size := by omega
  have hzr : w.heap.size + 1 < w0.heap.size := by omega
  have HR0 := Lib.hid hr0
  have H1 := Lib.hid L1
  have H2 := Lib.hid L2
  have H3 := Lib.hid L3
  have h' := h.below hb0 hB
  clear hw0 hwx L1 L2 L3 hww hb0' hbx hy0 hy1 hy2 hr0
  have hmk := run_make_row' (P := Try.prog) 23 34 (.slice none 0 0) 24 Try.underlying23 infoRowE rfl .i64 .i64 ne (by omega) (by omega)
  have hs2 : w0.heap.size = w.heap.size + 1 + 1 := by omega
  clear hz0 hzx
  have hz' := hzs.below hb0 hB
  have HZN := Lib.hid hzn
  clear hzn
  go_enter Try.func72, Try.ntmps72
  go_wp2
  rw [HW0.out]
  have hst : TStart w0 0 0 ne [] [] (.pointer (some ⟨w.heap.size + 1 + 1 + 1, 0, none⟩)) ((w0.alloc (.cells (madeCells #[.slice none 0 0] ne) 34)).alloc (.cells #[.slice none 0 0, .slice (some ⟨w.heap.size + 1 + 1, 0, none⟩) ne ne, .slice none 0 0] 26)) := by
    rw [← hs2]
    refine ⟨w0.heap.size + 1, none, 0, none, 0, w0.heap.size, rfl, heap_new (by simp), heap_old (by simp) (heap_new rfl), World.ownsRow_nil _ _ _ _, World.ownsRow_nil _ _ _ _, below_al (by simp) (below_al (Nat.le_refl _) (Below.refl _ _)), by omega, by omega, by omega⟩
  clear hs2
  obtain ⟨g, r, AA, cA, AB, cB, hge, hg, hT⟩ := TRel.start hst (by omega)
  rw [hge]
  clear hge hst
  generalize (w0.alloc (.cells (madeCells #[.slice none 0 0] ne) 34)).alloc (.cells #[.slice none 0 0, .slice (some ⟨w.heap.size + 1 + 1, 0, none⟩) ne ne, .slice none 0 0] 26) = wc at *
  rw [H2.out, ← withinR_zero G.edges z, ← H2.out] at hT
  have hbF : Below w0.heap.size w0 wc := hT.choose_spec.2.2.2.2
  have f1 := (hbF.cell (p := ⟨w.heap.size, 1, none⟩) hzl).trans hx1
  clear hmk HW0
  go_wp2
  clear f1
  go_loopw [18] (fun i wr => ∃ a : Nat, a ≤ ne ∧ i = .int .i64 a ∧ TRel w0 g r 0 0 ne AA cA AB cB [] [] (withinR G.edges z a) wr) (fun i _ => ne - (intOf i).toNat)
  case atStart => exact ⟨0, by omega, rfl, hT⟩
  case round =>
    obtain ⟨a, ha, rfl, hT⟩ := hrel
    obtain ⟨wp, rfl⟩ : ∃ wp : World, wp = wr := ⟨_, rfl⟩
    have hbel : Below w0.heap.size w0 wp := hT.choose_spec.2.2.2.2
    have hzp := hbel.size
    have e0 := (hbel.cell (p := ⟨w.heap.size, 0, none⟩) hzl).trans hx0
    have e1 := (hbel.cell (p := ⟨w.heap.size, 1, none⟩) hzl).trans hx1
    have e2 := (hbel.cell (p := ⟨w.heap.size, 2, none⟩) hzl).trans hx2
    by_cases hlt : a < ne
    · have hal : a < G.edges.length := by rw [← H2.out]; exact hlt
      have haz : a < z.length := by rw [← HZN.out]; exact hlt
      obtain ⟨b, o, A', n', c', rfl, hbb, hc00, hrow⟩ := h'.he.at_ (ed_take hal)
      have hc0 := (hbel.cell (p := ⟨b, o + a, none⟩) (show b < w0.heap.size by omega)).trans hc00
      have hlen := hr G.edges[a] (List.getElem_mem hal)
      have hnx : n' = G.edges[a].length := by have := hrow.len; rw [ncells_len] at this; omega
      have hsucc := withinR_succ (z := z) hal
      have hR0 : TRel w0 g r 0 0 ne AA cA AB cB [] [] ((withinR G.edges z a).set a ((G.edges[a].take 0).filter (keepE z a))) wp := by rw [List.take_zero, List.filter_nil, ← withinR_at hal]; exact hT
      have hRl : (withinR G.edges z a).length = ne := by rw [withinR_len, ← H2.out]
      generalize G.edges[a] = x at *
      generalize withinR G.edges z a = R at *
      subst hnx
      have HSU := Lib.hid hsucc
      have HRL := Lib.hid hRl
      clear hsucc hRl hT
      go_wp2
      go_loopw [25] (fun i wr => ∃ m : Nat, m ≤ x.length ∧ i = .int .i64 m ∧ TRel w0 g r 0 0 ne AA cA AB cB [] [] (R.set a ((x.take m).filter (keepE z a))) wr) (fun i _ => x.length - (intOf i).toNat)
      case atStart => exact ⟨0, by omega, rfl, hR0⟩
      case round =>
        obtain ⟨m, hm, rfl, hT⟩ := hrel
        clear hR0
        by_cases hltm : m < x.length
        · have hbr : Below w0.heap.size w0 wr := hT.choose_spec.2.2.2.2
          obtain ⟨bb, oo, rfl, hbbb, hd0, hd1⟩ := rd_nd (hrow.rd.below hbr (by omega)) hltm
          obtain ⟨zb, zo, hze, hzb0, hzc⟩ := (hz'.rd.below hbr (by omega)).at_ (bcells'_at haz)
          have hsn := filter_snoc (keepE z a) hltm
          have hbd : ((x.take m).filter (keepE z a)).length ≤ m := Nat.le_trans (List.length_filter_le _ _) (by rw [List.length_take]; omega)
          have hke : keepE z a x[m] = (z.getD a false && hasB z x[m].op) := rfl
          generalize (x.take m).filter (keepE z a) = y at *
          generalize keepE z a x[m] = kk at *
          generalize x[m] = e at *
          obtain ⟨op, act⟩ := e
          dsimp only at *
          have hzr2 := hbr.size
          have hzw : w.heap.size < wr.heap.size := by omega
          have hzbw : zb < wr.heap.size := by omega
          have j0 : (0 : Int) ≤ (a : Int) := by omega
          have j1 : (a : Int) < (ne : Int) := by omega
          have hgw : g < wr.heap.size := lt_of_block hT.choose_spec.1
          have HSN := Lib.hid hsn
          have HKE := Lib.hid hke
          have hT1 := hT.below ((Below.refl wr.heap.size wr).alloc (Nat.le_refl _) (.cells #[.int .i64 op, .int .i64 act] 42))
          have hzs1 := hz'.below (hbr.trans (((Below.refl wr.heap.size wr).alloc (Nat.le_refl _) (.cells #[.int .i64 op, .int .i64 act] 42)).mono hbr.size)) (by omega)
          have hhas := has_any Az ne cz z op (wr.alloc (.cells #[.int .i64 op, .int .i64 act] 42)) B HZN.out hzs1 (by simp; omega)
          have HHA := Lib.hid hhas
          have HT1 := Lib.hid hT1
          have HTW := Lib.hid hT
          subst hze
          clear hsn hke hT hT1 e0 e1 e2 hx0 hx1 hx2 hhas hzs1
          cases hza : z.getD a false
          · have HKF : Hid (kk = false) := Lib.hid (by rw [HKE.out, hza]; rfl)
            rw [hza] at hzc
            go_wp2
            go_roundw
            case rel => exact ⟨m + 1, by omega, by go_num, by rw [HSN.out, if_neg (by rw [HKF.out]; decide), List.append_nil]; exact HT1.out⟩
            case measure => simp [intOf]; omega
          · rw [hza] at hzc
            cases hhb : hasB z op
            · have HKF : Hid (kk = false) := Lib.hid (by rw [HKE.out, hza, hhb]; rfl)
              have HHB := Lib.hid hhb
              clear hhb hza
              go_wp2_with fail
              refine HHA.out.mono ?_
              rw [HHB.out]
              rintro e w2 ⟨rfl, hb2⟩
              have HT2 := Lib.hid (HT1.out.below hb2)
              clear HHA
              go_wp2
              go_roundw
              case rel => exact ⟨m + 1, by omega, by go_num, by rw [HSN.out, if_neg (by rw [HKF.out]; decide), List.append_nil]; exact HT2.out⟩
              case measure => simp [intOf]; omega
            · have HKT : Hid (kk = true) := Lib.hid (by rw [HKE.out, hza, hhb]; rfl)
              have HHB := Lib.hid hhb
              clear hhb hza
              go_wp2_with fail
              refine HHA.out.mono ?_
              rw [HHB.out]
              rintro e w2 ⟨rfl, hb2⟩
              clear HHA
              have q0 := (hb2.cell (p := ⟨wr.heap.size, 0, none⟩) (by simp)).trans (World.cell?_alloc_new wr _ _ _)
              have q1 := (hb2.cell (p := ⟨wr.heap.size, 1, none⟩) (by simp)).trans (World.cell?_alloc_new wr _ _ _)
              simp at q0 q1
              obtain ⟨vs, s1, s2, s3, s4, s5⟩ := HTW.out
              have hbW : Below wr.heap.size wr w2 := ((Below.refl wr.heap.size wr).alloc (Nat.le_refl _) _).trans (hb2.mono (by simp))
              have t1 := (hbW.block g (lt_of_block s1)).trans s1
              have t2 := s2.below hbW
              have t3 := own_below s3 hbW
              have t4 := own_below s4 hbW
              have t5 := s5.trans (hbW.mono s5.size)
              have hrlt := fun (j : Nat) (v : Value) (hv : vs[j]? = some v) => s2.rowlt hv
              clear s1 s2 s3 s4 s5
              obtain ⟨⟨c0, c1, c2⟩, _, hgl⟩ := blk3 t1
              have haR : a < R.length := by rw [HRL.out]; exact hlt
              obtain ⟨u, n0, hu, ho⟩ := t2.row a (ncells y) (by simp [haR])
              have hn0 : n0 = y.length := by have := ho.1; rw [ncells_len] at this; omega
              have hnb : n0 ≤ m := by omega
              obtain ⟨Au, cu, rfl, hsu⟩ := own_sl ho
              have d0 := t2.cell hu
              have d1 := t2.frozen a
              have hrl : r < w2.heap.size := (t2.main.lt r rfl).2
              have hwl : wr.heap.size < w2.heap.size := by have := hb2.size; simp at this; omega
              have hb20 : wr.heap.size + 1 ≤ w2.heap.size := by have := hb2.size; simpa using this
              have hune : ∀ g', (Value.slice Au n0 cu).ownBlock = some g' → g' ≠ wr.heap.size := fun g' hg' e => by have := (hrlt a _ hu g' hg').2; omega
              clear hrlt
              have HU := Lib.hid hu
              have HN0 := Lib.hid hn0
              have T1 := Lib.hid t1
              have hnw := heap_alloc_new w2 (.cells #[.int .i64 op, .int .i64 act] 42)
              clear hu hn0 t1 hzc
              go_wp2_with fail
              refine wp_region_T (S := fun w' => w'.cell? ⟨g, 1, none⟩ = some (.slice (some ⟨r, 0, none⟩) ne ne) ∧ w'.cell? ⟨wr.heap.size, 0, none⟩ = some (.int .i64 op) ∧ w'.cell? ⟨wr.heap.size, 1, none⟩ = some (.int .i64 act) ∧ w'.cell? ⟨r, a, none⟩ = some (.slice Au n0 cu)) 12 (by kernel_rfl) ⟨c1, q0, q1, d0⟩ (fun hS => ?_)
              refine wpAnyT_takeD (i := 0) (v := ?_) rfl (by kernel_rfl) (by kernel_rfl) (by kernel_rfl) (by kernel_rfl) (fun _ _ _ h => h) (Or.inl ⟨by kernel_rfl, ?_⟩) hS ?_
              rotate_left 1
              · (intro w' hSw; (try dsimp only at hSw); go_simp; try (with_reducible rfl))
              try simp only [Act.put, List.setIfInBounds_toArray, List.set_cons_zero, List.set_cons_succ]
              refine wpAnyT_takeD (i := 1) (v := ?_) rfl (by kernel_rfl) (by kernel_rfl) (by kernel_rfl) (by kernel_rfl) (fun _ _ _ h => h) (Or.inl ⟨by kernel_rfl, ?_⟩) hS ?_
              rotate_left 1
              · (intro w' hSw; (try dsimp only at hSw); go_simp; try (with_reducible rfl))
              try simp only [Act.put, List.setIfInBounds_toArray, List.set_cons_zero, List.set_cons_succ]
              refine wpAnyT_takeD (i := 2) (v := ?_) rfl (by kernel_rfl) (by kernel_rfl) (by kernel_rfl) (by kernel_rfl) (fun _ _ _ h => h) (Or.inl ⟨by kernel_rfl, ?_⟩) hS ?_
              rotate_left 1
              · (intro w' hSw; (try dsimp only at hSw); go_simp; try (with_reducible rfl))
              try simp only [Act.put, List.setIfInBounds_toArray, List.set_cons_zero, List.set_cons_succ]
              refine wpAnyT_takeD (i := 3) (v := ?_) rfl (by kernel_rfl) (by kernel_rfl) (by kernel_rfl) (by kernel_rfl) (fun _ _ _ h => h) (Or.inl ⟨by kernel_rfl, ?_⟩) hS ?_
              rotate_left 1
              · (intro w' hSw; (try dsimp only at hSw); go_simp; try (with_reducible rfl))
              try simp only [Act.put, List.setIfInBounds_toArray, List.set_cons_zero, List.set_cons_succ]
              refine wpAnyT_takeD (i := 4) (v := ?_) rfl (by kernel_rfl) (by kernel_rfl) (by kernel_rfl) (by kernel_rfl) (fun _ _ _ h => h) (Or.inl ⟨by kernel_rfl, ?_⟩) hS ?_
              rotate_left 1
              · (intro w' hSw; (try dsimp only at hSw); go_simp; try (with_reducible rfl))
              try simp only [Act.put, List.setIfInBounds_toArray, List.set_cons_zero, List.set_cons_succ]
              refine wpAnyT_takeD (i := 5) (v := ?_) rfl (by kernel_rfl) (by kernel_rfl) (by kernel_rfl) (by kernel_rfl) (fun _ _ _ h => h) (Or.inl ⟨by kernel_rfl, ?_⟩) hS ?_
              rotate_left 1
              · (intro w' hSw; (try dsimp only at hSw); go_simp; try (with_reducible rfl))
              try simp only [Act.put, List.setIfInBounds_toArray, List.set_cons_zero, List.set_cons_succ]
              refine wpAnyT_takeD (i := 6) (v := ?_) rfl (by kernel_rfl) (by kernel_rfl) (by kernel_rfl) (by kernel_rfl) (fun _ _ _ h => h) (Or.inl ⟨by kernel_rfl, ?_⟩) hS ?_
              rotate_left 1
              · (intro w' hSw; (try dsimp only at hSw); go_simp; try (with_reducible rfl))
              try simp only [Act.put, List.setIfInBounds_toArray, List.set_cons_zero, List.set_cons_succ]
              refine wpAnyT_takeD (i := 7) (v := ?_) rfl (by kernel_rfl) (by kernel_rfl) (by kernel_rfl) (by kernel_rfl) (fun _ _ _ h => h) (Or.inl ⟨by kernel_rfl, ?_⟩) hS ?_
              rotate_left 1
              · (intro w' hSw; (try dsimp only at hSw); go_simp; try (with_reducible rfl))
              try simp only [Act.put, List.setIfInBounds_toArray, List.set_cons_zero, List.set_cons_succ]
              refine wpAnyT_takeD (i := 8) (v := ?_) rfl (by kernel_rfl) (by kernel_rfl) (by kernel_rfl) (by kernel_rfl) (fun _ _ _ h => h) (Or.inl ⟨by kernel_rfl, ?_⟩) hS ?_
              rotate_left 1
              · (intro w' hSw; (try dsimp only at hSw); go_simp; try (with_reducible rfl))
              try simp only [Act.put, List.setIfInBounds_toArray, List.set_cons_zero, List.set_cons_succ]
              refine wpAnyT_oneD (i := 9) rfl (by kernel_rfl) (by decide) (fun K hK => ?_)
              go_simp
              refine hK.out _ _ (by go_keep) (fun hS => ?_)
              clear hK
              refine wpAnyT_oneD (i := 10) rfl (by kernel_rfl) (by decide) (fun K hK => ?_)
              refine step_push rfl (.tmp 46) (.tmp 48) 34 rfl w0.heap.size 42 2 16 sliceEd _ _ _ (ho.alloc _) rfl w2.heap.size #[.int .i64 op, .int .i64 act] rfl hnw rfl (by simp [Value.oneCell']) (by omega) (by omega) (by simp; omega) ?_
              intro u' w3 hown3 ht3 hat3 hne3
              obtain ⟨g', cap', rfl, _⟩ := own_form hown3 (by omega)
              obtain ⟨r1, r2, r3, r4, r5⟩ := TRel.grow (ys := y ++ [⟨op, act⟩]) T1.out t2 t3 t4 t5 rfl HU.out ho (by rw [ncells_append]; simpa [ncells] using hown3) (Tch.undrew ht3) hat3
              have r6 := (r4 _ (by omega) hune 0).trans q0
              have r7 := (r4 _ (by omega) hune 1).trans q1
              refine hK.out _ _ ⟨r1, r6, r7, r2⟩ (fun hS => ?_)
              clear hK r4
              refine wpAnyT_takeD (i := 11) (v := ?_) rfl (by kernel_rfl) (by kernel_rfl) (by kernel_rfl) (by kernel_rfl) (fun _ _ _ h => h) (Or.inl ⟨by kernel_rfl, ?_⟩) hS ?_
              rotate_left 1
              · (intro w' hSw; (try dsimp only at hSw); go_simp; try (with_reducible rfl))
              try simp only [Act.put, List.setIfInBounds_toArray, List.set_cons_zero, List.set_cons_succ]
              refine wpAnyT_endD rfl (by kernel_rfl) (by kernel_rfl) (fun K hK => ?_)
              go_simp
              refine hK.out _ _ ?_
              clear hK
              go_wp2
              go_roundw
              case rel => exact ⟨m + 1, by omega, by go_num, by rw [HSN.out, if_pos HKT.out]; rw [List.set_set] at r5; exact r5⟩
              case measure => simp [intOf]; omega
        · have hml : m = x.length := by omega
          have hT1 := hT
          rw [List.take_of_length_le (by omega), ← HSU.out] at hT1
          have HT1 := Lib.hid hT1
          clear hT hT1 hml
          go_wp2
          go_roundw
          case rel => exact ⟨a + 1, by omega, by go_num, HT1.out⟩
          case measure => simp [intOf]; omega
    · have hae : a = ne := by omega
      have hfin : withinR G.edges z a = withinE G.edges z := by rw [hae, H2.out, withinR_full]
      rw [hfin] at hT
      have HTF := Lib.hid hT
      obtain ⟨vs, s1, s2, s3, s4, s5⟩ := hT
      obtain ⟨⟨c0, c1, c2⟩, _, hgl⟩ := blk3 s1
      obtain ⟨⟨r0, r1, r2⟩, ⟨p0, p1, p2⟩, hrl⟩ := blk3 ((hbel.block _ hzr).trans HR0.out)
      have HF := Lib.hid (blk3 (heap_set3 (x := .slice AA 0 cA) (y := .slice (some ⟨r, 0, none⟩) ne ne) (z := .slice AB 0 cB) ((hbel.block _ hzr).trans HR0.out))).1
      have HAE := Lib.hid hae
      have hgr : w.heap.size + 1 < g := by omega
      clear s1 s2 s3 s4 hfin hae
      go_wp2_with fail
      refine bodyPost_ret (v := .agg #[.slice AA 0 cA, .slice (some ⟨r, 0, none⟩) ne ne, .slice AB 0 cB]) ?_ rfl ?_
      · obtain ⟨f0, f1, f2⟩ := HF.out
        simp [results, Try.results72, go_sem, f0, f1, f2]
      · refine ⟨_, _, _, _, _, _, _, _, _, rfl, ?_, ?_, ?_⟩
        · have := TRel.done (G := ⟨[], withinE G.edges z, []⟩) (q := w.heap.size + 1) (x := .slice AA 0 cA) (y := .slice (some ⟨r, 0, none⟩) ne ne) (z := .slice AB 0 cB) HTF.out hzr
          refine this.up ?_
          simp [World.setCell]
        · exact below_set3 (by omega) (hb0.trans (hbel.mono (by omega)))
        · obtain ⟨vs, ho⟩ := TRel.doneO (q := w.heap.size + 1) (x := .slice AA 0 cA) (y := .slice (some ⟨r, 0, none⟩) ne ne) (z := .slice AB 0 cB) HTF.out hzr
          exact ⟨vs, ho.rebase (by omega)⟩
end
end Go.Proofs.Ytfpncpjdmgfkbaa
