/- The walk of layer 27: Truth. -/
import Derived.Test.YtkikkplpalabhaaWk8
import Derived.Test.YtkikkplpalabhaaMe
import Derived.Deep.DeepCutAuto
namespace Go.Proofs.Ytkikkplpalabhaa
open Go.RowKit

/-- Both lists of rows on the way. -/
def TRl (w : World) (N : Nat) (s : List (List Bool) × List (List Bool)) (vl vo : Value) (wr : World) : Prop :=
  ∃ lvs, LSk wr w.heap.size N vl s.1 lvs ∧ Grid w wr vo s.2 ∧ ∀ g, vl.ownBlock = some g → vo.ownBlock ≠ some g
/-- The lasso's box is made. -/
def LCut (w : World) (A1 A2 : Option Addr) (n1 c1 n2 c2 : Nat) (p : Value) (wF : World) : Prop :=
  ∃ lb, p = .pointer (some ⟨lb, 0, none⟩) ∧ LBox wF lb A1 A2 n1 c1 n2 c2 ∧ w.heap.size ≤ lb ∧ Below w.heap.size w wF
theorem lcut_new {w w3 : World} {A1 A2 : Option Addr} {n1 c1 n2 c2 : Nat} (hb : Below w.heap.size w w3) : LCut w A1 A2 n1 c1 n2 c2 (.pointer (some ⟨w3.heap.size, 0, none⟩)) (w3.alloc (.cells #[.slice A1 n1 c1, .slice A2 n2 c2, .int .i64 ((n1 + n2 : Nat) : Int), .int .i64 (n1 : Int)] 72)) :=
  ⟨w3.heap.size, rfl, ⟨by simp, by rw [cell_of_row _ _ _ _ _ (0, 0) (heap_alloc_new w3 _)]; rfl, by rw [cell_of_row _ _ _ _ _ (0, 0) (heap_alloc_new w3 _)]; rfl, by rw [cell_of_row _ _ _ _ _ (0, 0) (heap_alloc_new w3 _)]; rfl, by rw [cell_of_row _ _ _ _ _ (0, 0) (heap_alloc_new w3 _)]; rfl⟩, hb.size, hb.alloc hb.size _⟩
theorem lasso_cells {w : World} {g t : Nat} {a b c d : Value} (h : w.heap[g]? = some (.cells #[a, b, c, d] t (0, 0))) : (w.cell? ⟨g, 0, none⟩ = some a ∧ w.cell? ⟨g, 1, none⟩ = some b ∧ w.cell? ⟨g, 2, none⟩ = some c ∧ w.cell? ⟨g, 3, none⟩ = some d) ∧
    (w.frozen? ⟨g, 0, none⟩ = false ∧ w.frozen? ⟨g, 1, none⟩ = false ∧ w.frozen? ⟨g, 2, none⟩ = false ∧ w.frozen? ⟨g, 3, none⟩ = false) :=
  ⟨⟨by rw [cell_of_row w g _ _ _ _ h]; rfl, by rw [cell_of_row w g _ _ _ _ h]; rfl, by rw [cell_of_row w g _ _ _ _ h]; rfl, by rw [cell_of_row w g _ _ _ _ h]; rfl⟩, ⟨frozen_of_row w g _ _ _ h, frozen_of_row w g _ _ _ h, frozen_of_row w g _ _ _ h, frozen_of_row w g _ _ _ h⟩⟩
theorem lcut_set {w w3 : World} {g : Nat} {A1 A2 : Option Addr} {n1 c1 n2 c2 : Nat} {a b c d : Value} (h : w3.heap[g]? = some (.cells #[a, b, c, d] 72 (0, 0))) (hb : Below w.heap.size w w3) (hg : w.heap.size ≤ g) :
    LCut w A1 A2 n1 c1 n2 c2 (.pointer (some ⟨g, 0, none⟩)) ((((w3.setCell ⟨g, 0, none⟩ (.slice A1 n1 c1)).setCell ⟨g, 1, none⟩ (.slice A2 n2 c2)).setCell ⟨g, 2, none⟩ (.int .i64 ((n1 + n2 : Nat) : Int))).setCell ⟨g, 3, none⟩ (.int .i64 (n1 : Int))) := by
  have h1 := heap_setCell_same w3 g 0 _ _ (.slice A1 n1 c1) h
  have h2 := heap_setCell_same _ g 1 _ _ (.slice A2 n2 c2) h1
  have h3 := heap_setCell_same _ g 2 _ _ (.int .i64 ((n1 + n2 : Nat) : Int)) h2
  have h4 := heap_setCell_same _ g 3 _ _ (.int .i64 (n1 : Int)) h3
  refine ⟨g, rfl, ⟨lt_of_block h4, by rw [cell_of_row _ _ _ _ _ (0, 0) h4]; rfl, by rw [cell_of_row _ _ _ _ _ (0, 0) h4]; rfl, by rw [cell_of_row _ _ _ _ _ (0, 0) h4]; rfl, by rw [cell_of_row _ _ _ _ _ (0, 0) h4]; rfl⟩, hg, ?_⟩
  exact (((hb.setCell (p := ⟨g, 0, none⟩) hg _).setCell (p := ⟨g, 1, none⟩) hg _).setCell (p := ⟨g, 2, none⟩) hg _).setCell (p := ⟨g, 3, none⟩) hg _
/-- The row is put on the stack. -/
structure TMid (w : World) (N : Nat) (left out : List (List Bool)) (vl vo : Value) (w7 : World) (u : Value) (r : List Bool) (lvs : List Value) : Prop where
  lsk : LSk w7 w.heap.size N vl left lvs
  grid : Grid w w7 vo out
  dis : ∀ g, vl.ownBlock = some g → vo.ownBlock ≠ some g
  row : w7.ownsRow w.heap.size 4 1 u N (bcells r)
theorem trl_left {w wr w6 w7 : World} {N d t B6 c6 cl : Nat} {left out : List (List Bool)} {Al A6 : Option Addr} {vo v7 : Value} {lvs : List Value} {r : List Bool} {O : Obj} (hL : LSk wr w.heap.size N (.slice Al d cl) left lvs) (hd : d = left.length) (hG : Grid w wr vo out)
    (hD : ∀ g, (Value.slice Al d cl).ownBlock = some g → vo.ownBlock ≠ some g) (hb6 : Below wr.heap.size wr w6) (hrow : w6.ownsRow B6 4 1 (.slice A6 N c6) N (bcells r)) (hB6 : w.heap.size ≤ B6)
    (hown7 : w7.ownsRow w.heap.size 50 1 v7 (d - t + 1) (lvs.take (d - t) ++ [.slice A6 N c6])) (ht7 : Tch (fun k => (Value.slice Al (d - t) cl).ownBlock = some k) (w6.alloc O) w7)
    (hat7 : v7.ownBlock = (Value.slice Al (d - t) cl).ownBlock ∨ v7.ownBlock = some (w6.alloc O).heap.size) : TMid w N (left.take (d - t) ++ [r]) out v7 vo w7 (.slice A6 N c6) r (lvs.take (d - t) ++ [.slice A6 N c6]) := by
  have hL6 := hL.below hb6
  have hC := hL6.cut (k := d - t) (by omega)
  have hCl : (left.take (d - t)).length = d - t := by rw [List.length_take]; omega
  have ht67 : Tch (fun k => (Value.slice Al (d - t) cl).ownBlock = some k) w6 w7 := Tch.trans ((Tch.refl _ w6).alloc _) ht7 (fun _ _ h => h)
  have hbb := own_bb hrow
  obtain ⟨A', c', hv', hs6⟩ := own_sl hrow
  cases hv'
  have hblk : (Value.slice Al (d - t) cl).ownBlock = (Value.slice Al d cl).ownBlock := ownBlock_eq _ _ _ _ _
  have hG6 := hG.below hb6
  refine ⟨hC.push hs6 hbb (by rw [hCl]; exact hown7) ht67, hG6.tch ht67 (fun g hg => (hC.1.lt g hg).1) (fun g hg hg' => hD g (by rw [← hblk]; exact hg') hg) (fun A hA => bb_apart hC.1 hA), ?_, own_base (own_tch hrow ht67 (fun g hg hg' => own_ne hrow hC.1 (by decide) g hg hg')) hB6⟩
  intro g hg hg'
  rcases hat7 with h | h
  · rw [h, hblk] at hg; exact hD g hg hg'
  · rw [h] at hg
    cases hg
    obtain ⟨ovs, ho1, _⟩ := hG6
    have := (ho1.lt _ hg').2
    simp at this
    omega
theorem trl_out {w w7 w8 : World} {N c6 : Nat} {left out : List (List Bool)} {A6 : Option Addr} {vl vo v8 : Value} {lvs ovs : List Value} {r : List Bool} {O : Obj} (hM : TMid w N left out vl vo w7 (.slice A6 N c6) r lvs) (ho1 : w7.ownsRow w.heap.size 50 1 vo out.length ovs)
    (ho2 : ∀ (j : Nat) (r : List Bool), out[j]? = some r → ∃ u, ovs[j]? = some u ∧ w7.ownsRow w.heap.size 4 1 u r.length (bcells r))
    (hown8 : w8.ownsRow w.heap.size 50 1 v8 (out.length + 1) (ovs ++ [.slice A6 N c6])) (ht8 : Tch (fun k => vo.ownBlock = some k) (w7.alloc O) w8)
    (hat8 : v8.ownBlock = vo.ownBlock ∨ v8.ownBlock = some (w7.alloc O).heap.size) : TRl w N (left, out ++ [r]) vl v8 w8 := by
  have ht78 : Tch (fun k => vo.ownBlock = some k) w7 w8 := Tch.trans ((Tch.refl _ w7).alloc _) ht8 (fun _ _ h => h)
  have hrl : r.length = N := by have := hM.row.1; rw [bcells_len] at this; omega
  refine ⟨lvs, hM.lsk.tch ht78 (fun g hg hg' => hM.dis g hg hg') (fun A hA => bb_apart ho1 hA), hM.grid.push (by rw [hrl]; exact hM.row) ho1 hown8 ht78 ho2, ?_⟩
  intro g hg hg'
  rcases hat8 with h | h
  · rw [h] at hg'; exact hM.dis g hg hg'
  · rw [h] at hg'
    cases hg'
    have := (hM.lsk.1.lt _ hg).2
    simp at this
    omega
theorem lbox_below {w w' : World} {lb n1 c1 n2 c2 N : Nat} {A1 A2 : Option Addr} (h : lb < w.heap.size ∧ w.cell? ⟨lb, 0, none⟩ = some (.slice A1 n1 c1) ∧ w.cell? ⟨lb, 1, none⟩ = some (.slice A2 n2 c2) ∧ w.cell? ⟨lb, 2, none⟩ = some (.int .i64 (N : Int)) ∧ w.cell? ⟨lb, 3, none⟩ = some (.int .i64 (n1 : Int))) (hb : Below w.heap.size w w') :
    lb < w'.heap.size ∧ w'.cell? ⟨lb, 0, none⟩ = some (.slice A1 n1 c1) ∧ w'.cell? ⟨lb, 1, none⟩ = some (.slice A2 n2 c2) ∧ w'.cell? ⟨lb, 2, none⟩ = some (.int .i64 (N : Int)) ∧ w'.cell? ⟨lb, 3, none⟩ = some (.int .i64 (n1 : Int)) :=
  ⟨Nat.lt_of_lt_of_le h.1 hb.size, (hb.cell (p := ⟨lb, 0, none⟩) h.1).trans h.2.1, (hb.cell (p := ⟨lb, 1, none⟩) h.1).trans h.2.2.1, (hb.cell (p := ⟨lb, 2, none⟩) h.1).trans h.2.2.2.1, (hb.cell (p := ⟨lb, 3, none⟩) h.1).trans h.2.2.2.2⟩

set_option maxHeartbeats 8000000 in
set_option maxRecDepth 100000 in
theorem truthP_any (A A1 A2 : Option Addr) (c n1 c1 n2 c2 : Nat) (f : List Nd) (st lo : List Int) (w : World) (hf : Sl w w.heap.size 2 A f.length c (ncells f)) (h : WRd w w.heap.size A1 A2 n1 c1 n2 c2 st lo) (hl : n1 + n2 ≤ 60000) (hlf : f.length ≤ 10000) :
    Calls Try.prog 36 #[.slice A f.length c, .agg #[.slice A1 n1 c1, .slice A2 n2 c2]] w (GridPost w (truthW (wbit st lo) f st lo)) := by
  obtain ⟨hb0, hx0, hx1⟩ := wbox w A1 A2 n1 c1 n2 c2
  have HX := Lib.hid (And.intro hx0 hx1)
  have HC := Lib.hid (fun (w' : World) => pCheck_any A1 A2 n1 c1 n2 c2 st lo w' h.l1 h.l2 hl)
  have HF := Lib.hid (fun (w' : World) (hb : Below w.heap.size w w') => formula_any A c f w' w.heap.size (hf.below hb (Nat.le_refl _)) hb.size (by omega))
  by_cases h0 : n2 = 0
  · have ht : truthW (wbit st lo) f st lo = [] := by
      have : lo = [] := List.eq_nil_of_length_eq_zero (by have := h.l2; omega)
      simp [truthW, this]
    rw [ht]
    have hC := HC.out
    rw [if_pos h0] at hC
    have HC0 := Lib.hid hC
    clear ht h h0 hC
    go_enter Try.func36, Try.ntmps36
    go_wp2_with fail
    refine Calls.mono (HC0.out _) ?_
    rintro e w1 ⟨rfl, hb1⟩
    go_wp2
    go_ret
    exact ⟨_, rfl, (Grid.nil w1).base (hb0.trans (hb1.mono (by simp)))⟩
  have hC := HC.out
  rw [if_neg h0] at hC
  have HC0 := Lib.hid hC
  clear hC
  by_cases hw : wrong f = 0
  · have hwt : (wrong f == 0) = true := by simp [hw]
    have hF := HF.out
    rw [hwt] at hF
    have HF0 := Lib.hid hF
    have HW := Lib.hid hw
    clear hF hw hwt
    have hlo : lo ≠ [] := by intro e; have := h.l2; rw [e] at this; simp at this; omega
    have ht : truthW (wbit st lo) f st lo = rowsF (wbit st lo) (n1 + n2) n1 f := by rw [truthW, if_pos ⟨hlo, HW.out⟩, ← h.l1, ← h.l2]
    rw [ht]
    clear ht
    have HWR := Lib.hid h
    have h2 : 0 < n2 := by omega
    clear h h0 hlo hx0 hx1
    go_enter Try.func36, Try.ntmps36
    go_wp2_with fail
    refine Calls.mono (HC0.out _) ?_
    rintro e w1 ⟨rfl, hb1⟩
    have hb01 : Below w.heap.size w w1 := hb0.trans (hb1.mono (by simp))
    have hw1z : w.heap.size < w1.heap.size := by have := hb1.size; simp at this; omega
    have i0 := (hb1.cell (p := ⟨w.heap.size, 0, none⟩) (by simp)).trans HX.out.1
    have i1 := (hb1.cell (p := ⟨w.heap.size, 1, none⟩) (by simp)).trans HX.out.2
    go_wp2_with fail
    refine Calls.mono (HF0.out _ hb01) ?_
    rintro e w2 ⟨rfl, hb2⟩
    have hb02 : Below w.heap.size w w2 := hb01.trans (hb2.mono hb01.size)
    have hz2 : w.heap.size < w2.heap.size := Nat.lt_of_lt_of_le hw1z hb2.size
    have j0 := (hb2.cell (p := ⟨w.heap.size, 0, none⟩) hw1z).trans i0
    have j1 := (hb2.cell (p := ⟨w.heap.size, 1, none⟩) hw1z).trans i1
    clear i0 i1 hb1 hb2 hw1z HX
    go_wp2_with fail
    go_cut [5] from 4 (fun p wF => LCut w A1 A2 n1 c1 n2 c2 p wF)
    case first =>
      refine wp_region_held_drew (S := fun w' => w'.cell? ⟨w.heap.size, 0, none⟩ = some (.slice A1 n1 c1) ∧ w'.cell? ⟨w.heap.size, 1, none⟩ = some (.slice A2 n2 c2)) (by kernel_rfl) ⟨j0, j1⟩ (fun hS => ?_)
      refine wpAnyH_takeD (i := 0) (v := ?_) rfl (by kernel_rfl) (by kernel_rfl) (by kernel_rfl) (fun _ _ _ h => h) (Or.inl ⟨by kernel_rfl, ?_⟩) hS ?_
      rotate_left 1
      · (intro w' hSw; (try dsimp only at hSw); go_simp; try (with_reducible rfl))
      try simp only [Act.put, List.setIfInBounds_toArray, List.set_cons_zero, List.set_cons_succ]
      refine wpAnyH_takeD (i := 1) (v := ?_) rfl (by kernel_rfl) (by kernel_rfl) (by kernel_rfl) (fun _ _ _ h => h) (Or.inl ⟨by kernel_rfl, ?_⟩) hS ?_
      rotate_left 1
      · (intro w' hSw; (try dsimp only at hSw); go_simp; try (with_reducible rfl))
      try simp only [Act.put, List.setIfInBounds_toArray, List.set_cons_zero, List.set_cons_succ]
      refine wpAnyH_takeD (i := 3) (v := ?_) rfl (by kernel_rfl) (by kernel_rfl) (by kernel_rfl) (fun _ _ _ h => h) (Or.inl ⟨by kernel_rfl, ?_⟩) hS ?_
      rotate_left 1
      · (intro w' hSw; (try dsimp only at hSw); go_simp; try (with_reducible rfl))
      try simp only [Act.put, List.setIfInBounds_toArray, List.set_cons_zero, List.set_cons_succ]
      refine wpAnyH_takeD (i := 4) (v := ?_) rfl (by kernel_rfl) (by kernel_rfl) (by kernel_rfl) (fun _ _ _ h => h) (Or.inl ⟨by kernel_rfl, ?_⟩) hS ?_
      rotate_left 1
      · (intro w' hSw; (try dsimp only at hSw); go_simp; try (with_reducible rfl))
      try simp only [Act.put, List.setIfInBounds_toArray, List.set_cons_zero, List.set_cons_succ]
      refine wpAnyH_takeD (i := 5) (v := ?_) rfl (by kernel_rfl) (by kernel_rfl) (by kernel_rfl) (fun _ _ _ h => h) (Or.inl ⟨by kernel_rfl, ?_⟩) hS ?_
      rotate_left 1
      · (intro w' hSw; (try dsimp only at hSw); go_simp; try (with_reducible rfl))
      try simp only [Act.put, List.setIfInBounds_toArray, List.set_cons_zero, List.set_cons_succ]
      refine wpAnyH_ready (rs := [2, 7]) (by kernel_rfl) (by simp) ?_
      refine (allReadyH_consD (i := 2) rfl (fun K hK => ?_) (allReadyH_consD (i := 7) rfl (fun K hK => ?_) AllReadyH.nil))
      · skip
        go_simp
        refine (pLen_any A1 A2 n1 c1 n2 c2 _ hl).mono ?_
        rintro e w3 ⟨rfl, hb3'⟩
        have hb3 : Below w2.heap.size w2 w3 := below_undrew hb3'
        have k0 := (hb3.cell (p := ⟨w.heap.size, 0, none⟩) hz2).trans j0
        have k1 := (hb3.cell (p := ⟨w.heap.size, 1, none⟩) hz2).trans j1
        have hz3 := hb3.size
        go_wp2_with fail
        refine hK.out _ _ ⟨k0, k1⟩ (fun hS => ?_)
        clear hK
        try simp only [Act.put, List.setIfInBounds_toArray, List.set_cons_zero, List.set_cons_succ]
        refine wpAnyH_takeD (i := 6) (v := ?_) rfl (by kernel_rfl) (by kernel_rfl) (by kernel_rfl) (fun _ _ _ h => h) (Or.inl ⟨by kernel_rfl, ?_⟩) hS ?_
        rotate_left 1
        · (intro w' hSw; (try dsimp only at hSw); go_simp; try (with_reducible rfl))
        try simp only [Act.put, List.setIfInBounds_toArray, List.set_cons_zero, List.set_cons_succ]
        refine wpAnyH_oneD (i := 7) rfl (by kernel_rfl) (fun K hK => ?_)
        go_simp
        have hbz := (Below.refl w3.heap.size w3).alloc (Nat.le_refl _) (.cells #[.slice none 0 0, .slice none 0 0, .int .i64 0, .int .i64 0] 72)
        refine hK.out _ _ ⟨(hbz.cell (p := ⟨w.heap.size, 0, none⟩) (show w.heap.size < w3.heap.size by omega)).trans k0, (hbz.cell (p := ⟨w.heap.size, 1, none⟩) (show w.heap.size < w3.heap.size by omega)).trans k1⟩ (fun hS => ?_)
        clear hK
        try simp only [Act.put, List.setIfInBounds_toArray, List.set_cons_zero, List.set_cons_succ]
        refine wpAnyH_oneD (i := 8) rfl (by kernel_rfl) (fun K hK => ?_)
        go_simp
        have hbz := (Below.refl w3.heap.size w3).alloc (Nat.le_refl _) (.cells #[.slice A1 n1 c1, .slice A2 n2 c2, .int .i64 ((n1 + n2 : Nat) : Int), .int .i64 (n1 : Int)] 72)
        refine hK.out _ _ ⟨(hbz.cell (p := ⟨w.heap.size, 0, none⟩) (show w.heap.size < w3.heap.size by omega)).trans k0, (hbz.cell (p := ⟨w.heap.size, 1, none⟩) (show w.heap.size < w3.heap.size by omega)).trans k1⟩ (fun hS => ?_)
        clear hK
        try simp only [Act.put, List.setIfInBounds_toArray, List.set_cons_zero, List.set_cons_succ]
        refine wpAnyH_done (by kernel_rfl) ?_ _
        go_wp2_with fail
        go_meet
        exact lcut_new (hb02.trans (hb3.mono hb02.size))
      · skip
        go_simp
        have hbz : Below w2.heap.size w2 ((w2.alloc (.cells #[.slice none 0 0, .slice none 0 0, .int .i64 0, .int .i64 0] 72)).drew) := ((Below.refl _ _).alloc (Nat.le_refl _) _).drew
        have y0 := (hbz.cell (p := ⟨w.heap.size, 0, none⟩) hz2).trans j0
        have y1 := (hbz.cell (p := ⟨w.heap.size, 1, none⟩) hz2).trans j1
        have hnz := heap_alloc_new w2 (.cells #[.slice none 0 0, .slice none 0 0, .int .i64 0, .int .i64 0] 72)
        obtain ⟨w2', hw2'⟩ : ∃ W, W = (w2.alloc (.cells #[.slice none 0 0, .slice none 0 0, .int .i64 0, .int .i64 0] 72)).drew := ⟨_, rfl⟩
        have hzn : w2'.heap.size = w2.heap.size + 1 := by rw [hw2']; show (w2.alloc _).heap.size = _; simp
        have hn2 : w2'.heap[w2.heap.size]? = some (.cells #[.slice none 0 0, .slice none 0 0, .int .i64 0, .int .i64 0] 72 (0, 0)) := by rw [hw2']; exact hnz
        rw [← hw2'] at y0 y1 hbz
        rw [← hw2']
        have HZN := Lib.hid hzn
        have hzl : w2.heap.size < w2'.heap.size := by omega
        clear hw2' hzn hnz
        refine hK.out _ _ ⟨y0, y1⟩ (fun hS => ?_)
        clear hK
        try simp only [Act.put, List.setIfInBounds_toArray, List.set_cons_zero, List.set_cons_succ]
        refine wpAnyH_oneD (i := 2) rfl (by kernel_rfl) (fun K hK => ?_)
        go_simp
        refine (pLen_any A1 A2 n1 c1 n2 c2 _ hl).mono ?_
        rintro e w3 ⟨rfl, hb3⟩
        have k0 := (hb3.cell (p := ⟨w.heap.size, 0, none⟩) (show w.heap.size < w2'.heap.size by omega)).trans y0
        have k1 := (hb3.cell (p := ⟨w.heap.size, 1, none⟩) (show w.heap.size < w2'.heap.size by omega)).trans y1
        have hn3 := (hb3.block _ hzl).trans hn2
        have hz3 := hb3.size
        go_wp2_with fail
        refine hK.out _ _ ⟨k0, k1⟩ (fun hS => ?_)
        clear hK
        try simp only [Act.put, List.setIfInBounds_toArray, List.set_cons_zero, List.set_cons_succ]
        refine wpAnyH_takeD (i := 6) (v := ?_) rfl (by kernel_rfl) (by kernel_rfl) (by kernel_rfl) (fun _ _ _ h => h) (Or.inl ⟨by kernel_rfl, ?_⟩) hS ?_
        rotate_left 1
        · (intro w' hSw; (try dsimp only at hSw); go_simp; try (with_reducible rfl))
        try simp only [Act.put, List.setIfInBounds_toArray, List.set_cons_zero, List.set_cons_succ]
        refine wpAnyH_oneD (i := 8) rfl (by kernel_rfl) (fun K hK => ?_)
        have hcs := lasso_cells hn3
        obtain ⟨⟨m0, m1, m2, m3⟩, ⟨f0, f1, f2, f3⟩⟩ := hcs
        go_simp
        refine hK.out _ _ ⟨?_, ?_⟩ (fun hS => ?_)
        · (repeat rw [World.cell?_setCell_other _ _ _ _ (fun e => by have := congrArg Addr.block e; simp at this; omega)]); exact k0
        · (repeat rw [World.cell?_setCell_other _ _ _ _ (fun e => by have := congrArg Addr.block e; simp at this; omega)]); exact k1
        clear hK
        try simp only [Act.put, List.setIfInBounds_toArray, List.set_cons_zero, List.set_cons_succ]
        refine wpAnyH_done (by kernel_rfl) ?_ _
        go_wp2_with fail
        go_meet
        exact lcut_set hn3 (hb02.trans (hbz.mono hb02.size) |>.trans (hb3.mono (by omega))) (by omega)
    case rest =>
      clear j0 j1 hz2 hb01
      obtain ⟨lb, rfl, hLB, hlbw, hbF⟩ := hcut
      clear HC HC0 HF0
      have HTR := Lib.hid (fun (x : Nd) (hx0 : 0 ≤ takes x.op) (hx3 : x.op = 3 → 0 ≤ x.n ∧ x.n < 8) (Aa Ab : Option Addr) (na ca nb cb : Nat) (a b : List Bool) (w' : World) (hb : Below w.heap.size w w') (ht : TArg w' (n1 + n2) x.op Aa Ab na ca nb cb a b) => truth_any x A1 A2 Aa Ab n1 c1 n2 c2 na ca nb cb st lo a b w' ((HWR.out.below hb (Nat.le_refl _)).up hb.size) hl h2 ht hx0 hx3)
      unfold lassoV at HTR
      unfold LBox at hLB
      generalize hN : n1 + n2 = N at *
      have HLB := Lib.hid hLB
      clear hN hLB
      go_wp2
      go_loopw [6, 7, 31] (fun vo vl i wr => ∃ k : Nat, k ≤ f.length ∧ i = .int .i64 k ∧ TRl wc N (tfold (wbit st lo) N n1 f k) vl vo wr) (fun _ _ i _ => f.length - (intOf i).toNat)
      case atStart => exact ⟨0, by omega, rfl, ⟨[], LSk.nil _ _ _, Grid.nil wc, by simp [Value.ownBlock]⟩⟩
      case round =>
        obtain ⟨k, hk, rfl, hrel⟩ := hrel
        have hbc : Below wc.heap.size wc wr := hrel.choose_spec.2.1.choose_spec.2.2
        by_cases hlt : k < f.length
        · have hbr : Below w.heap.size w wr := hbF.trans (hbc.mono hbF.size)
          have hzr := hbr.size
          obtain ⟨b, o, rfl, _, hc0, hc1⟩ := rd_nd (hf.rd.below hbr (Nat.le_refl _)) hlt
          have hok := tfold_ok (bits := wbit st lo) (n := N) (lp := n1) HW.out k hk
          have htk := tfold_takes (bits := wbit st lo) (n := N) (lp := n1) HW.out hlt
          have hst := tfold_step (bits := wbit st lo) (n := N) (lp := n1) hlt
          have hle : (tfold (wbit st lo) N n1 f k).1.length ≤ k := by
            rw [hok.len]; have := runs1_le (f.take k); rw [List.length_take] at this; omega
          have HOK : Hid ((tfold (wbit st lo) N n1 f k).1.length ≤ k ∧ ∀ r ∈ (tfold (wbit st lo) N n1 f k).1, r.length = N) := Lib.hid ⟨hle, hok.row⟩
          have HALL := Lib.hid hok.all
          clear hok hle
          have hbx : Below wr.heap.size wr (wr.alloc (.cells #[.int .i64 f[k].op, .int .i64 f[k].n] 42)) := (Below.refl _ _).alloc (Nat.le_refl _) _
          have hpar := parts27_any f[k].op f[k].n (wr.alloc (.cells #[.int .i64 f[k].op, .int .i64 f[k].n] 42))
          have hpe : partsW f[k] = takes f[k].op := by unfold partsW; rw [if_neg (fun hh => hh.2 (htk.2.2 hh.1))]
          have hTRx := HTR.out f[k] htk.1 htk.2.2
          rw [show (⟨f[k].op, f[k].n⟩ : Nd) = f[k] from rfl, hpe] at hpar
          generalize f[k] = x at *
          generalize tfold (wbit st lo) N n1 f k = s at *
          obtain ⟨left, out⟩ := s
          obtain ⟨op, m⟩ := x
          dsimp only at *
          obtain ⟨lvs, hL, hG, hD⟩ := hrel
          obtain ⟨ht0, htd, _⟩ := htk
          have htb := takes_bd op
          obtain ⟨Al, cl, rfl, hsl⟩ := own_sl hL.1
          have hclm : cl ≤ 9223372036854775807 := by have := hsl.max; unfold maxLen at this; omega
          have hclc := hsl.cap
          rw [tstep] at hst
          dsimp only at hst
          have HPAR := Lib.hid hpar
          have HTR := Lib.hid hTRx
          have hx0 : (wr.alloc (.cells #[.int .i64 op, .int .i64 m] 42)).cell? ⟨wr.heap.size, 0, none⟩ = some (.int .i64 op) := by rw [cell_of_row _ _ _ _ _ (0, 0) (heap_alloc_new wr _)]; rfl
          have hx1 : (wr.alloc (.cells #[.int .i64 op, .int .i64 m] 42)).cell? ⟨wr.heap.size, 1, none⟩ = some (.int .i64 m) := by rw [cell_of_row _ _ _ _ _ (0, 0) (heap_alloc_new wr _)]; rfl
          have HX := Lib.hid (And.intro hx0 hx1)
          clear hpar hTRx hpe hx0 hx1
          have hcase : takes op = 0 ∨ takes op = 1 ∨ takes op = 2 := by omega
          rcases hcase with ht | ht | ht
          all_goals
            have HT := Lib.hid ht
            rw [ht] at hst htd
            simp only [show ¬ ((0 : Int) = 1) by decide, show ¬ ((0 : Int) = 2) by decide, show ¬ ((1 : Int) = 2) by decide, show ¬ ((2 : Int) = 1) by decide, if_true, if_false, show ((0 : Int)).toNat = 0 from rfl, show ((1 : Int)).toNat = 1 from rfl, show ((2 : Int)).toNat = 2 from rfl] at hst
            have HST' := hst
            clear hst
            have hP := HPAR.out
            rw [ht] at hP
            have HP := Lib.hid hP
            clear hP HPAR
            go_wp2_with fail
            refine Calls.mono HP.out ?_
            rintro e w5 ⟨rfl, hb5⟩
            have hbr5 : Below wr.heap.size wr w5 := hbx.trans (hb5.mono (by simp))
            have hbw5 : Below w.heap.size w w5 := hbr.trans (hbr5.mono hzr)
            have hL5 := hL.below hbr5
            have hLB5 := lbox_below HLB.out (hbc.trans (hbr5.mono hbc.size))
            obtain ⟨hlb5, l0, l1, l2, l3⟩ := hLB5
            have hx0 := (hb5.cell (p := ⟨wr.heap.size, 0, none⟩) (by simp)).trans HX.out.1
            have hx1 := (hb5.cell (p := ⟨wr.heap.size, 1, none⟩) (by simp)).trans HX.out.2
            clear hb5
          -- the three ways
          · have HARG : TArg w5 N op none none 0 0 0 0 [] [] := ⟨fun h => by omega, fun h => by omega⟩
            have HCALL := Lib.hid (HTR.out none none 0 0 0 0 [] [] w5 hbw5 HARG)
            clear HARG
            generalize placesL (wbit st lo) N n1 ⟨op, m⟩ [] [] = r at *
            have HSTP := Lib.hid HST'
            clear HST'
            go_wp2_with fail
            refine Calls.mono HCALL.out ?_
            rintro e w6 ⟨v6, rfl, hown6, hb6', _⟩
            have hb6 : Below wr.heap.size wr w6 := hbr5.trans (hb6'.mono hbr5.size)
            obtain ⟨A6, c6, rfl, hs6⟩ := own_sl hown6
            have hL6 := hL.below hb6
            have hCo : w6.ownsRow wc.heap.size 50 1 (.slice Al (left.length - 0) cl) (left.length - 0) (lvs.take (left.length - 0)) := by
              have := (hL6.cut (k := (left.length - 0)) (by omega)).1
              rwa [show (left.take (left.length - 0)).length = (left.length - 0) by rw [List.length_take]; omega] at this
            simp only [Nat.sub_zero] at hCo
            have hsz6 : wc.heap.size ≤ w6.heap.size := Nat.le_trans hbc.size hb6.size
            have hwc5 : wc.heap.size ≤ w5.heap.size := Nat.le_trans hbc.size hbr5.size
            have hol : out.length ≤ 10000 := by have := HALL.out; omega
            have hdl := HOK.out.1
            go_wp2_with (first | (at_builtin; refine wpList_push rfl (.tmp 70) (.tmp 72) 48 rfl wc.heap.size 50 1 24 sliceRows _ _ _ (hCo.alloc _) rfl w6.heap.size #[.slice A6 N c6] rfl (heap_alloc_new w6 _) rfl (by simp [Value.oneCell']) (by omega) (by omega) (by simp; omega) ?_; intro v7 w7 hown7 ht7 hat7 _; have HM := Lib.hid (trl_left (t := 0) hL rfl hG hD hb6 hown6 hwc5 hown7 ht7 hat7); obtain ⟨ovs, ho1, ho2, ho3⟩ := HM.out.grid; have HO2 := Lib.hid ho2; clear ho2; have hsz7 : wc.heap.size ≤ w7.heap.size := ho3.size) | (at_builtin; refine wpList_push rfl (.tmp 74) (.tmp 76) 48 rfl wc.heap.size 50 1 24 sliceRows _ _ _ (ho1.alloc _) rfl w7.heap.size #[.slice A6 N c6] rfl (heap_alloc_new w7 _) rfl (by simp [Value.oneCell']) (by omega) (by omega) (by simp; omega) ?_; intro v8 w8 hown8 ht8 hat8 _; have HF8 := Lib.hid (trl_out HM.out ho1 HO2.out hown8 ht8 hat8)))
            go_roundw
            case rel => exact ⟨k + 1, by omega, by go_num, by rw [HSTP.out]; exact HF8.out⟩
            case measure => simp [intOf]; omega
          · have hd1 : left.length - 1 < left.length := by omega
            obtain ⟨gl, capl, hvl, _, hgl, hcapl, hmaxl⟩ := own_form hL5.1 (by omega)
            cases hvl
            obtain ⟨Aa, ca, hca, hsa⟩ := hL5.at_ hd1
            have hra := HOK.out.2 _ (List.getElem_mem hd1)
            have hga : left.getD (left.length - 1) [] = left[left.length - 1] := by simp [List.getD, hd1]
            rw [hga] at HST'
            have hd1i : (1 : Int) ≤ (left.length : Int) := by omega
            generalize left[left.length - 1] = ra at *
            have HARG : TArg w5 N op Aa none N ca 0 0 ra [] := ⟨fun _ => ⟨rfl, hra, hsa⟩, fun h => by omega⟩
            have HGA := Lib.hid hga
            clear hga hra
            have HCALL := Lib.hid (HTR.out Aa none N ca 0 0 ra [] w5 hbw5 HARG)
            clear HARG
            generalize placesL (wbit st lo) N n1 ⟨op, m⟩ ra [] = r at *
            have HSTP := Lib.hid HST'
            clear HST'
            go_wp2_with fail
            refine Calls.mono HCALL.out ?_
            rintro e w6 ⟨v6, rfl, hown6, hb6', _⟩
            have hb6 : Below wr.heap.size wr w6 := hbr5.trans (hb6'.mono hbr5.size)
            obtain ⟨A6, c6, rfl, hs6⟩ := own_sl hown6
            have hL6 := hL.below hb6
            have hCo : w6.ownsRow wc.heap.size 50 1 (.slice (some ⟨gl, 0, none⟩) (left.length - 1) cl) (left.length - 1) (lvs.take (left.length - 1)) := by
              have := (hL6.cut (k := (left.length - 1)) (by omega)).1
              rwa [show (left.take (left.length - 1)).length = (left.length - 1) by rw [List.length_take]; omega] at this
            have hsz6 : wc.heap.size ≤ w6.heap.size := Nat.le_trans hbc.size hb6.size
            have hwc5 : wc.heap.size ≤ w5.heap.size := Nat.le_trans hbc.size hbr5.size
            have hol : out.length ≤ 10000 := by have := HALL.out; omega
            have hdl := HOK.out.1
            go_wp2_with (first | (at_builtin; refine wpList_push rfl (.tmp 70) (.tmp 72) 48 rfl wc.heap.size 50 1 24 sliceRows _ _ _ (hCo.alloc _) rfl w6.heap.size #[.slice A6 N c6] rfl (heap_alloc_new w6 _) rfl (by simp [Value.oneCell']) (by omega) (by omega) (by simp; omega) ?_; intro v7 w7 hown7 ht7 hat7 _; have HM := Lib.hid (trl_left (t := 1) hL rfl hG hD hb6 hown6 hwc5 hown7 ht7 hat7); obtain ⟨ovs, ho1, ho2, ho3⟩ := HM.out.grid; have HO2 := Lib.hid ho2; clear ho2; have hsz7 : wc.heap.size ≤ w7.heap.size := ho3.size) | (at_builtin; refine wpList_push rfl (.tmp 74) (.tmp 76) 48 rfl wc.heap.size 50 1 24 sliceRows _ _ _ (ho1.alloc _) rfl w7.heap.size #[.slice A6 N c6] rfl (heap_alloc_new w7 _) rfl (by simp [Value.oneCell']) (by omega) (by omega) (by simp; omega) ?_; intro v8 w8 hown8 ht8 hat8 _; have HF8 := Lib.hid (trl_out HM.out ho1 HO2.out hown8 ht8 hat8)))
            go_roundw
            case rel => exact ⟨k + 1, by omega, by go_num, by rw [HSTP.out]; exact HF8.out⟩
            case measure => simp [intOf]; omega
          · have hd1 : left.length - 1 < left.length := by omega
            have hd2 : left.length - 2 < left.length := by omega
            obtain ⟨gl, capl, hvl, _, hgl, hcapl, hmaxl⟩ := own_form hL5.1 (by omega)
            cases hvl
            obtain ⟨Aa, ca, hca, hsa⟩ := hL5.at_ hd2
            obtain ⟨Ab, cb, hcb, hsb⟩ := hL5.at_ hd1
            have hra := HOK.out.2 _ (List.getElem_mem hd2)
            have hrb := HOK.out.2 _ (List.getElem_mem hd1)
            have hga : left.getD (left.length - 2) [] = left[left.length - 2] := by simp [List.getD, hd2]
            have hgb : left.getD (left.length - 1) [] = left[left.length - 1] := by simp [List.getD, hd1]
            rw [hga, hgb] at HST'
            obtain ⟨e2, he2⟩ : ∃ e, e = left.length - 2 := ⟨_, rfl⟩
            obtain ⟨e1, he1⟩ : ∃ e, e = left.length - 1 := ⟨_, rfl⟩
            have u1 : IntKind.i64.wrap ((left.length : Int) - 2) = (e2 : Int) := by rw [IntWalk.i64_in _ (by omega)]; omega
            have u2 : IntKind.i64.wrap ((left.length : Int) - 1) = (e1 : Int) := by rw [IntWalk.i64_in _ (by omega)]; omega
            have u3 : (e2 : Int) < (left.length : Int) := by omega
            have u4 : (e1 : Int) < (left.length : Int) := by omega
            generalize left[left.length - 2] = ra at *
            generalize left[left.length - 1] = rb at *
            rw [← he2] at hca
            rw [← he1] at hcb
            have HARG : ∀ q, TArg (w5.drewN q) N op Aa Ab N ca N cb ra rb := fun q => ⟨fun _ => ⟨rfl, hra, hsa.below (below_drewN (Below.refl _ _) q) (Nat.le_refl _)⟩, fun _ => ⟨rfl, hrb, hsb.below (below_drewN (Below.refl _ _) q) (Nat.le_refl _)⟩⟩
            have HGA := Lib.hid hga
            have HU1 := Lib.hid u1
            have HU2 := Lib.hid u2
            clear hga hgb hra hrb he1 he2 u1 u2
            have HCALL := Lib.hid (fun (q : Nat) => HTR.out Aa Ab N ca N cb ra rb (w5.drewN q) (below_drewN hbw5 q) (HARG q))
            clear HARG
            generalize placesL (wbit st lo) N n1 ⟨op, m⟩ ra rb = r at *
            have HSTP := Lib.hid HST'
            clear HST'
            go_wp2
            have u1 := HU1.out
            have u2 := HU2.out
            go_quiet (fail)
            clear u1 u2
            go_wp2_with fail
            refine Calls.mono (HCALL.out _) ?_
            rintro e w6 ⟨v6, rfl, hown6, hb6', _⟩
            have hb6 : Below wr.heap.size wr w6 := (below_drewN hbr5 _).trans (hb6'.mono hbr5.size)
            obtain ⟨A6, c6, rfl, hs6⟩ := own_sl hown6
            have hL6 := hL.below hb6
            have hCo : w6.ownsRow wc.heap.size 50 1 (.slice (some ⟨gl, 0, none⟩) (left.length - 2) cl) (left.length - 2) (lvs.take (left.length - 2)) := by
              have := (hL6.cut (k := (left.length - 2)) (by omega)).1
              rwa [show (left.take (left.length - 2)).length = (left.length - 2) by rw [List.length_take]; omega] at this
            have hsz6 : wc.heap.size ≤ w6.heap.size := Nat.le_trans hbc.size hb6.size
            have hwc5 : wc.heap.size ≤ w5.heap.size := Nat.le_trans hbc.size hbr5.size
            have hol : out.length ≤ 10000 := by have := HALL.out; omega
            have hdl := HOK.out.1
            go_wp2_with (first | (at_builtin; refine wpList_push rfl (.tmp 70) (.tmp 72) 48 rfl wc.heap.size 50 1 24 sliceRows _ _ _ (hCo.alloc _) rfl w6.heap.size #[.slice A6 N c6] rfl (heap_alloc_new w6 _) rfl (by simp [Value.oneCell']) (by omega) (by omega) (by simp; omega) ?_; intro v7 w7 hown7 ht7 hat7 _; have HM := Lib.hid (trl_left (t := 2) hL rfl hG hD hb6 hown6 hwc5 hown7 ht7 hat7); obtain ⟨ovs, ho1, ho2, ho3⟩ := HM.out.grid; have HO2 := Lib.hid ho2; clear ho2; have hsz7 : wc.heap.size ≤ w7.heap.size := ho3.size) | (at_builtin; refine wpList_push rfl (.tmp 74) (.tmp 76) 48 rfl wc.heap.size 50 1 24 sliceRows _ _ _ (ho1.alloc _) rfl w7.heap.size #[.slice A6 N c6] rfl (heap_alloc_new w7 _) rfl (by simp [Value.oneCell']) (by omega) (by omega) (by simp; omega) ?_; intro v8 w8 hown8 ht8 hat8 _; have HF8 := Lib.hid (trl_out HM.out ho1 HO2.out hown8 ht8 hat8)))
            go_roundw
            case rel => exact ⟨k + 1, by omega, by go_num, by rw [HSTP.out]; exact HF8.out⟩
            case measure => simp [intOf]; omega
        · have hkl : k = f.length := by omega
          subst hkl
          obtain ⟨lvs, hL, hG, hD⟩ := hrel
          rw [tfold_end] at hG
          go_wp2
          go_ret
          exact ⟨_, rfl, hG.base hbF⟩
  · have hwt : (wrong f == 0) = false := by simpa using hw
    have hF := HF.out
    rw [hwt] at hF
    have HF0 := Lib.hid hF
    have ht : truthW (wbit st lo) f st lo = [] := by simp [truthW, hw]
    rw [ht]
    clear ht hF hw hwt h
    go_enter Try.func36, Try.ntmps36
    go_wp2_with fail
    refine Calls.mono (HC0.out _) ?_
    rintro e w1 ⟨rfl, hb1⟩
    have hb01 : Below w.heap.size w w1 := hb0.trans (hb1.mono (by simp))
    go_wp2_with fail
    refine Calls.mono (HF0.out _ hb01) ?_
    rintro e w2 ⟨rfl, hb2⟩
    have hb02 : Below w.heap.size w w2 := hb01.trans (hb2.mono hb01.size)
    go_wp2
    go_ret
    exact ⟨_, rfl, (Grid.nil w2).base hb02⟩
end Go.Proofs.Ytkikkplpalabhaa
