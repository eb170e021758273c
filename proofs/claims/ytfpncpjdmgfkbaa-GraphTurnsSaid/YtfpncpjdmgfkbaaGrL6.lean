/- The law GraphTurns. -/
import Derived.Test.YtfpncpjdmgfkbaaGrL0
import Derived.Deep.DeepCutAuto
namespace Go.Proofs.Ytfpncpjdmgfkbaa
open Go.RowKit

theorem sl_store {w : World} {B n c g T : Nat} {A : Option Addr} {xs : List Value} {s0 s1 s2 x y z : Value} (h : Sl w B 1 A n c xs) (hx : ∀ u ∈ xs, ∃ k i, u = .int k i) (hg : w.heap[g]? = some (.cells #[s0, s1, s2] T (0, 0))) (hs : ∀ k i, s0 ≠ .int k i ∧ s1 ≠ .int k i ∧ s2 ≠ .int k i) :
    Sl (((w.setCell ⟨g, 0, none⟩ x).setCell ⟨g, 1, none⟩ y).setCell ⟨g, 2, none⟩ z) B 1 A n c xs := by
  refine { h with rd := ?_ }
  rcases h.rd with h0 | ⟨b, o, hA, hb, hc⟩
  · exact .inl h0
  · by_cases e : b = g
    · subst e
      left
      cases xs with
      | nil => rfl
      | cons u us =>
        exfalso
        have h1 := hc 0 u rfl
        obtain ⟨k, i, rfl⟩ := hx u (by simp)
        rw [Nat.add_zero, cell_of_row w b o _ _ _ hg] at h1
        match o, h1 with
        | 0, h1 => exact (hs k i).1 (by simpa using h1)
        | 1, h1 => exact (hs k i).2.1 (by simpa using h1)
        | 2, h1 => exact (hs k i).2.2 (by simpa using h1)
        | n + 3, h1 => simp at h1
    · exact .inr ⟨b, o, hA, hb, fun j u hj => (far3 w g b (o + j) x y z (fun h => e h.symm)).trans (hc j u hj)⟩
theorem graph_store {w : World} {g base ni ci ne ce nl cl n0 n1 n2 k0 k1 k2 : Nat} {ai ae al a0 a1 a2 : Option Addr} {G : Gph} {vs : List Value} {x y z : Value} (h : GrRd w w.heap.size ai ni ci ae ne ce al nl cl G) (ho : Own2 w base 42 34 2 (.slice ae ne ce) (G.edges.map ncells) vs)
    (hg : w.heap[g]? = some (.cells #[.slice a0 n0 k0, .slice a1 n1 k1, .slice a2 n2 k2] 26 (0, 0))) :
    GrRd (((w.setCell ⟨g, 0, none⟩ x).setCell ⟨g, 1, none⟩ y).setCell ⟨g, 2, none⟩ z) w.heap.size ai ni ci ae ne ce al nl cl G ∧ Own2 (((w.setCell ⟨g, 0, none⟩ x).setCell ⟨g, 1, none⟩ y).setCell ⟨g, 2, none⟩ z) base 42 34 2 (.slice ae ne ce) (G.edges.map ncells) vs := by
  have hz : ((((w.setCell ⟨g, 0, none⟩ x).setCell ⟨g, 1, none⟩ y).setCell ⟨g, 2, none⟩ z)).heap.size = w.heap.size := by simp [World.setCell]
  have k := ho.tch (tch_set3 (g := g) (x := x) (y := y) (z := z)) (fun k hk e => own_ne_blk ho.main hg (by decide) (e ▸ hk)) (fun j u k hu hk e => by
    have hj : j < (G.edges.map ncells).length := by rw [← ho.len]; exact (List.getElem?_eq_some_iff.1 hu).1
    obtain ⟨u', n, hu', hr⟩ := ho.row j _ (List.getElem?_eq_getElem hj)
    rw [hu] at hu'; cases hu'
    exact own_ne_blk hr hg (by decide) (e ▸ hk))
  obtain ⟨A, c, e, s⟩ := k.sl2
  cases e
  rw [hz] at s
  exact ⟨⟨sl_store h.hi (fun u hu => by obtain ⟨i, _, rfl⟩ := List.mem_map.1 hu; exact ⟨_, _, rfl⟩) hg (by simp), s, sl_store h.hl (fun u hu => by obtain ⟨i, _, rfl⟩ := List.mem_map.1 hu; exact ⟨_, _, rfl⟩) hg (by simp)⟩, k⟩

theorem tot_bd {E : List (List Nd)} (h : ∀ l ∈ E, l.length ≤ 50) : ∀ l ∈ totalE E, l.length ≤ 50 := by
  intro l hl
  simp only [totalE, List.mem_map, List.mem_range] at hl
  obtain ⟨a, ha, rfl⟩ := hl
  have hx : (E.getD a []).length ≤ 50 := by simp only [List.getD, List.getElem?_eq_getElem ha, Option.getD_some]; exact h _ (List.getElem_mem ha)
  unfold totRow
  split
  · simp
  · exact Nat.le_trans (List.length_filter_le _ _) hx
theorem sameG_refl (G : Gph) : sameG G G = true := by simp [sameG]
/-- Both graphs made, in boxes. -/
def TwoRel (w w0 : World) (ai ae al : Option Addr) (ni ci ne ce nl cl : Nat) (G : Gph) (p q : Value) (wF : World) : Prop :=
  ∃ g3 g4 bi mi di be me de bl ml dl pi qi ri pe qe re pl ql rl, p = .pointer (some ⟨g3, 0, none⟩) ∧ q = .pointer (some ⟨g4, 0, none⟩) ∧ wF.heap[g3]? = some (.cells #[.slice bi mi di, .slice be me de, .slice bl ml dl] 26 (0, 0)) ∧ wF.heap[g4]? = some (.cells #[.slice pi qi ri, .slice pe qe re, .slice pl ql rl] 26 (0, 0)) ∧
    GrRd wF wF.heap.size bi mi di be me de bl ml dl ⟨G.init, turnE G.edges, G.labels⟩ ∧ GrRd wF wF.heap.size pi qi ri pe qe re pl ql rl ⟨G.init, totalE G.edges, G.labels⟩ ∧
    (wF.cell? ⟨w.heap.size, 0, none⟩ = some (.slice ai ni ci) ∧ wF.cell? ⟨w.heap.size, 1, none⟩ = some (.slice ae ne ce) ∧ wF.cell? ⟨w.heap.size, 2, none⟩ = some (.slice al nl cl)) ∧ Below w0.heap.size w0 wF

set_option maxHeartbeats 4000000 in
set_option maxRecDepth 100000 in
theorem GraphTurns_any (ai ae al : Option Addr) (ni ci ne ce nl cl : Nat) (G : Gph) (w : World) (B : Nat) (hG : GrRd w B ai ni ci ae ne ce al nl cl G) (hB : B ≤ w.heap.size) :
    Calls Try.prog 5 #[.agg #[.slice ai ni ci, .slice ae ne ce, .slice al nl cl]] w (Tru w true) := by
  obtain ⟨w0, hw0, hb0, hz0, g0, g1, g2⟩ := boxed3 w (.slice ai ni ci) (.slice ae ne ce) (.slice al nl cl) 26
  have HW0 := Lib.hid hw0
  have hG0 := hG.below hb0 hB
  have hB0 : B ≤ w0.heap.size := by omega
  have hzg : w.heap.size < w0.heap.size := by omega
  clear hw0 hG hz0
  go_enter Try.func5, Try.ntmps5
  go_wp2_with fail
  rw [← HW0.out]
  refine (heavy_any ai ae al ni ci ne ce nl cl G w0 B hG0 hB0).mono ?_
  rintro e wa ⟨rfl, hba⟩
  have hza := hba.size
  cases hv : heavyG G
  · obtain ⟨k1, k2, k3, kr, k4⟩ := lens_bd hG0 hv
    have ga0 := (hba.cell (p := ⟨w.heap.size, 0, none⟩) hzg).trans g0
    have ga1 := (hba.cell (p := ⟨w.heap.size, 1, none⟩) hzg).trans g1
    have ga2 := (hba.cell (p := ⟨w.heap.size, 2, none⟩) hzg).trans g2
    have HL2 := Lib.hid hG0.lens
    clear hv g0 g1 g2 HW0
    go_wp2_with fail
    go_cut [3, 4] from 5 (fun p q wF => TwoRel w w0 ai ae al ni ci ne ce nl cl G p q wF)
    case first =>
      refine wp_region_held_drew (S := fun w' => w'.cell? ⟨w.heap.size, 0, none⟩ = some (.slice ai ni ci) ∧ w'.cell? ⟨w.heap.size, 1, none⟩ = some (.slice ae ne ce) ∧ w'.cell? ⟨w.heap.size, 2, none⟩ = some (.slice al nl cl)) (by kernel_rfl) ⟨ga0, ga1, ga2⟩ (fun hS => ?_)
      refine wpAnyH_takeD (i := 0) (v := ?_) rfl (by kernel_rfl) (by kernel_rfl) (by kernel_rfl) (fun _ _ _ h => h) (Or.inl ⟨by kernel_rfl, ?_⟩) hS ?_
      rotate_left 1
      · (intro w' hSw; (try dsimp only at hSw); go_simp; try (with_reducible rfl))
      try simp only [Act.put, List.setIfInBounds_toArray, List.set_cons_zero, List.set_cons_succ]
      refine wpAnyH_takeD (i := 2) (v := ?_) rfl (by kernel_rfl) (by kernel_rfl) (by kernel_rfl) (fun _ _ _ h => h) (Or.inl ⟨by kernel_rfl, ?_⟩) hS ?_
      rotate_left 1
      · (intro w' hSw; (try dsimp only at hSw); go_simp; try (with_reducible rfl))
      try simp only [Act.put, List.setIfInBounds_toArray, List.set_cons_zero, List.set_cons_succ]
      obtain ⟨W0, hW0⟩ : ∃ W, W = wa.drew := ⟨_, rfl⟩
      have hBW0 : Below w0.heap.size w0 W0 := by rw [hW0]; exact Below.drew hba
      have hzW0 := hBW0.size
      have cW0_0 : W0.cell? ⟨w.heap.size, 0, none⟩ = some (.slice ai ni ci) := by rw [hW0]; exact ga0
      have cW0_1 : W0.cell? ⟨w.heap.size, 1, none⟩ = some (.slice ae ne ce) := by rw [hW0]; exact ga1
      have cW0_2 : W0.cell? ⟨w.heap.size, 2, none⟩ = some (.slice al nl cl) := by rw [hW0]; exact ga2
      rw [← hW0]
      clear hS ga0 ga1 ga2 hW0 hba hza
      refine wpAnyH_ready (rs := [1, 4, 5]) (by kernel_rfl) (by simp) ?_
      refine (allReadyH_consD (i := 1) rfl (fun K hK => ?_) (allReadyH_consD (i := 4) rfl (fun K hK => ?_) (allReadyH_consD (i := 5) rfl (fun K hK => ?_) AllReadyH.nil)))
      · skip
        go_simp
        refine (turnP_any ai ae al ni ci ne ce nl cl G W0 B (hG0.below hBW0 hB0) (Nat.le_trans hB0 hBW0.size) (by omega) (by omega) (by omega) 50 kr k4 (by omega)).mono ?_
        rintro e W1 ⟨bi, mi, di, be, me, de, bl, ml, dl, rfl, hTW1, hbW1, vsT, oTW1⟩
        have cW1_0 := (hbW1.cell (p := ⟨w.heap.size, 0, none⟩) (show w.heap.size < W0.heap.size by omega)).trans cW0_0
        have cW1_1 := (hbW1.cell (p := ⟨w.heap.size, 1, none⟩) (show w.heap.size < W0.heap.size by omega)).trans cW0_1
        have cW1_2 := (hbW1.cell (p := ⟨w.heap.size, 2, none⟩) (show w.heap.size < W0.heap.size by omega)).trans cW0_2
        have hBW1 : Below w0.heap.size w0 W1 := hBW0.trans (hbW1.mono hBW0.size)
        have hzW1 := hBW1.size
        have hzzW1 := hbW1.size
        go_wp2_with fail
        refine hK.out _ _ ⟨cW1_0, cW1_1, cW1_2⟩ (fun hS => ?_)
        clear hK
        try simp only [Act.put, List.setIfInBounds_toArray, List.set_cons_zero, List.set_cons_succ]
        refine wpAnyH_ready (rs := [3, 4, 5]) (by kernel_rfl) (by simp) ?_
        refine (allReadyH_consD (i := 3) rfl (fun K hK => ?_) (allReadyH_consD (i := 4) rfl (fun K hK => ?_) (allReadyH_consD (i := 5) rfl (fun K hK => ?_) AllReadyH.nil)))
        · skip
          go_simp
          refine (totalP_any ai ae al ni ci ne ce nl cl G W1 B (hG0.below hBW1 hB0) (Nat.le_trans hB0 hBW1.size) (by omega) (by omega) (by omega) 50 kr k4 (by omega)).mono ?_
          rintro e W2 ⟨pi, qi, ri, pe, qe, re, pl, ql, rl, rfl, hUW2, hbW2, vsU, oUW2⟩
          have cW2_0 := (hbW2.cell (p := ⟨w.heap.size, 0, none⟩) (show w.heap.size < W1.heap.size by omega)).trans cW1_0
          have cW2_1 := (hbW2.cell (p := ⟨w.heap.size, 1, none⟩) (show w.heap.size < W1.heap.size by omega)).trans cW1_1
          have cW2_2 := (hbW2.cell (p := ⟨w.heap.size, 2, none⟩) (show w.heap.size < W1.heap.size by omega)).trans cW1_2
          have hBW2 : Below w0.heap.size w0 W2 := hBW1.trans (hbW2.mono hBW1.size)
          have hzW2 := hBW2.size
          have hzzW2 := hbW2.size
          have hTW2 := (hTW1.below hbW2 (Nat.le_refl _)).up hbW2.size
          have oTW2 := oTW1.below hbW2
          go_wp2_with fail
          refine hK.out _ _ ⟨cW2_0, cW2_1, cW2_2⟩ (fun hS => ?_)
          clear hK
          try simp only [Act.put, List.setIfInBounds_toArray, List.set_cons_zero, List.set_cons_succ]
          refine wpAnyH_ready (rs := [4, 5]) (by kernel_rfl) (by simp) ?_
          refine (allReadyH_consD (i := 4) rfl (fun K hK => ?_) (allReadyH_consD (i := 5) rfl (fun K hK => ?_) AllReadyH.nil))
          · skip
            go_simp
            obtain ⟨W3, hwW3⟩ : ∃ W, W = W2.alloc (.cells #[.slice none 0 0, .slice none 0 0, .slice none 0 0] 26) := ⟨_, rfl⟩
            rw [← hwW3]
            have hbW3 : Below W2.heap.size W2 W3 := by rw [hwW3]; exact below_alW _
            have b3W3 : W3.heap[W2.heap.size]? = some (.cells #[.slice none 0 0, .slice none 0 0, .slice none 0 0] 26 (0, 0)) := by rw [hwW3]; exact heap_alloc_new _ _
            have hsW3 : W2.heap.size + 1 ≤ W3.heap.size := by rw [hwW3]; simp
            clear hwW3
            have cW3_0 := (hbW3.cell (p := ⟨w.heap.size, 0, none⟩) (show w.heap.size < W2.heap.size by omega)).trans cW2_0
            have cW3_1 := (hbW3.cell (p := ⟨w.heap.size, 1, none⟩) (show w.heap.size < W2.heap.size by omega)).trans cW2_1
            have cW3_2 := (hbW3.cell (p := ⟨w.heap.size, 2, none⟩) (show w.heap.size < W2.heap.size by omega)).trans cW2_2
            have hBW3 : Below w0.heap.size w0 W3 := hBW2.trans (hbW3.mono hBW2.size)
            have hzW3 := hBW3.size
            have hzzW3 := hbW3.size
            have hTW3 := (hTW2.below hbW3 (Nat.le_refl _)).up hbW3.size
            have oTW3 := oTW2.below hbW3
            have hUW3 := (hUW2.below hbW3 (Nat.le_refl _)).up hbW3.size
            have oUW3 := oUW2.below hbW3
            refine hK.out _ _ ⟨cW3_0, cW3_1, cW3_2⟩ (fun hS => ?_)
            clear hK
            try simp only [Act.put, List.setIfInBounds_toArray, List.set_cons_zero, List.set_cons_succ]
            refine wpAnyH_oneD (i := 5) rfl (by kernel_rfl) (fun K hK => ?_)
            go_simp
            obtain ⟨W4, hwW4⟩ : ∃ W, W = W3.alloc (.cells #[.slice none 0 0, .slice none 0 0, .slice none 0 0] 26) := ⟨_, rfl⟩
            rw [← hwW4]
            have hbW4 : Below W3.heap.size W3 W4 := by rw [hwW4]; exact below_alW _
            have b4W4 : W4.heap[W3.heap.size]? = some (.cells #[.slice none 0 0, .slice none 0 0, .slice none 0 0] 26 (0, 0)) := by rw [hwW4]; exact heap_alloc_new _ _
            have hsW4 : W3.heap.size + 1 ≤ W4.heap.size := by rw [hwW4]; simp
            clear hwW4
            have cW4_0 := (hbW4.cell (p := ⟨w.heap.size, 0, none⟩) (show w.heap.size < W3.heap.size by omega)).trans cW3_0
            have cW4_1 := (hbW4.cell (p := ⟨w.heap.size, 1, none⟩) (show w.heap.size < W3.heap.size by omega)).trans cW3_1
            have cW4_2 := (hbW4.cell (p := ⟨w.heap.size, 2, none⟩) (show w.heap.size < W3.heap.size by omega)).trans cW3_2
            have hBW4 : Below w0.heap.size w0 W4 := hBW3.trans (hbW4.mono hBW3.size)
            have hzW4 := hBW4.size
            have hzzW4 := hbW4.size
            have hTW4 := (hTW3.below hbW4 (Nat.le_refl _)).up hbW4.size
            have oTW4 := oTW3.below hbW4
            have hUW4 := (hUW3.below hbW4 (Nat.le_refl _)).up hbW4.size
            have oUW4 := oUW3.below hbW4
            have b3W4 := (hbW4.block _ (lt_of_block b3W3)).trans b3W3
            refine hK.out _ _ ⟨cW4_0, cW4_1, cW4_2⟩ (fun hS => ?_)
            clear hK
            try simp only [Act.put, List.setIfInBounds_toArray, List.set_cons_zero, List.set_cons_succ]
            refine wpAnyH_oneD (i := 6) rfl (by kernel_rfl) (fun K hK => ?_)
            obtain ⟨⟨xW50, xW51, xW52⟩, ⟨yW50, yW51, yW52⟩, hlW5⟩ := blk3 b3W4
            go_simp
            clear xW50 xW51 xW52 yW50 yW51 yW52
            have hneW5 : W3.heap.size ≠ W2.heap.size := by omega
            have b3W5 := heap_set3 (x := .slice bi mi di) (y := .slice be me de) (z := .slice bl ml dl) b3W4
            have b4W5 := heap_set3o (g := W2.heap.size) (x := .slice bi mi di) (y := .slice be me de) (z := .slice bl ml dl) hneW5 b4W4
            have sTW5 := graph_store (x := .slice bi mi di) (y := .slice be me de) (z := .slice bl ml dl) hTW4 oTW4 b3W4
            have sUW5 := graph_store (x := .slice bi mi di) (y := .slice be me de) (z := .slice bl ml dl) hUW4 oUW4 b3W4
            have hBW5 := below_set3 (g := W2.heap.size) (x := .slice bi mi di) (y := .slice be me de) (z := .slice bl ml dl) (show w0.heap.size ≤ W2.heap.size by omega) hBW4
            have hzsW5 : (((W4.setCell ⟨W2.heap.size, 0, none⟩ (.slice bi mi di)).setCell ⟨W2.heap.size, 1, none⟩ (.slice be me de)).setCell ⟨W2.heap.size, 2, none⟩ (.slice bl ml dl)).heap.size = W4.heap.size := by simp [World.setCell]
            have cW5_0 := (far3 W4 (W2.heap.size) w.heap.size 0 (.slice bi mi di) (.slice be me de) (.slice bl ml dl) (by omega)).trans cW4_0
            have cW5_1 := (far3 W4 (W2.heap.size) w.heap.size 1 (.slice bi mi di) (.slice be me de) (.slice bl ml dl) (by omega)).trans cW4_1
            have cW5_2 := (far3 W4 (W2.heap.size) w.heap.size 2 (.slice bi mi di) (.slice be me de) (.slice bl ml dl) (by omega)).trans cW4_2
            generalize ((W4.setCell ⟨W2.heap.size, 0, none⟩ (.slice bi mi di)).setCell ⟨W2.heap.size, 1, none⟩ (.slice be me de)).setCell ⟨W2.heap.size, 2, none⟩ (.slice bl ml dl) = W5 at *
            have hTW5 := sTW5.1
            have oTW5 := sTW5.2
            have hUW5 := sUW5.1
            have oUW5 := sUW5.2
            rw [← hzsW5] at hTW5 hUW5
            refine hK.out _ _ ⟨cW5_0, cW5_1, cW5_2⟩ (fun hS => ?_)
            clear hK
            try simp only [Act.put, List.setIfInBounds_toArray, List.set_cons_zero, List.set_cons_succ]
            refine wpAnyH_oneD (i := 7) rfl (by kernel_rfl) (fun K hK => ?_)
            obtain ⟨⟨xW60, xW61, xW62⟩, ⟨yW60, yW61, yW62⟩, hlW6⟩ := blk3 b4W5
            go_simp
            clear xW60 xW61 xW62 yW60 yW61 yW62
            have hneW6 : W2.heap.size ≠ W3.heap.size := by omega
            have b4W6 := heap_set3 (x := .slice pi qi ri) (y := .slice pe qe re) (z := .slice pl ql rl) b4W5
            have b3W6 := heap_set3o (g := W3.heap.size) (x := .slice pi qi ri) (y := .slice pe qe re) (z := .slice pl ql rl) hneW6 b3W5
            have sTW6 := graph_store (x := .slice pi qi ri) (y := .slice pe qe re) (z := .slice pl ql rl) hTW5 oTW5 b4W5
            have sUW6 := graph_store (x := .slice pi qi ri) (y := .slice pe qe re) (z := .slice pl ql rl) hUW5 oUW5 b4W5
            have hBW6 := below_set3 (g := W3.heap.size) (x := .slice pi qi ri) (y := .slice pe qe re) (z := .slice pl ql rl) (show w0.heap.size ≤ W3.heap.size by omega) hBW5
            have hzsW6 : (((W5.setCell ⟨W3.heap.size, 0, none⟩ (.slice pi qi ri)).setCell ⟨W3.heap.size, 1, none⟩ (.slice pe qe re)).setCell ⟨W3.heap.size, 2, none⟩ (.slice pl ql rl)).heap.size = W5.heap.size := by simp [World.setCell]
            have cW6_0 := (far3 W5 (W3.heap.size) w.heap.size 0 (.slice pi qi ri) (.slice pe qe re) (.slice pl ql rl) (by omega)).trans cW5_0
            have cW6_1 := (far3 W5 (W3.heap.size) w.heap.size 1 (.slice pi qi ri) (.slice pe qe re) (.slice pl ql rl) (by omega)).trans cW5_1
            have cW6_2 := (far3 W5 (W3.heap.size) w.heap.size 2 (.slice pi qi ri) (.slice pe qe re) (.slice pl ql rl) (by omega)).trans cW5_2
            generalize ((W5.setCell ⟨W3.heap.size, 0, none⟩ (.slice pi qi ri)).setCell ⟨W3.heap.size, 1, none⟩ (.slice pe qe re)).setCell ⟨W3.heap.size, 2, none⟩ (.slice pl ql rl) = W6 at *
            have hTW6 := sTW6.1
            have oTW6 := sTW6.2
            have hUW6 := sUW6.1
            have oUW6 := sUW6.2
            rw [← hzsW6] at hTW6 hUW6
            refine hK.out _ _ ⟨cW6_0, cW6_1, cW6_2⟩ (fun hS => ?_)
            clear hK
            try simp only [Act.put, List.setIfInBounds_toArray, List.set_cons_zero, List.set_cons_succ]
            refine wpAnyH_done (by kernel_rfl) ?_ _
            clear hS
            go_wp2_with fail
            go_meet
            exact ⟨_, _, bi, mi, di, be, me, de, bl, ml, dl, pi, qi, ri, pe, qe, re, pl, ql, rl, rfl, rfl, b3W6, b4W6, hTW6, hUW6, ⟨cW6_0, cW6_1, cW6_2⟩, hBW6⟩
          · skip
            go_simp
            obtain ⟨W7, hwW7⟩ : ∃ W, W = W2.alloc (.cells #[.slice none 0 0, .slice none 0 0, .slice none 0 0] 26) := ⟨_, rfl⟩
            rw [← hwW7]
            have hbW7 : Below W2.heap.size W2 W7 := by rw [hwW7]; exact below_alW _
            have b4W7 : W7.heap[W2.heap.size]? = some (.cells #[.slice none 0 0, .slice none 0 0, .slice none 0 0] 26 (0, 0)) := by rw [hwW7]; exact heap_alloc_new _ _
            have hsW7 : W2.heap.size + 1 ≤ W7.heap.size := by rw [hwW7]; simp
            clear hwW7
            have cW7_0 := (hbW7.cell (p := ⟨w.heap.size, 0, none⟩) (show w.heap.size < W2.heap.size by omega)).trans cW2_0
            have cW7_1 := (hbW7.cell (p := ⟨w.heap.size, 1, none⟩) (show w.heap.size < W2.heap.size by omega)).trans cW2_1
            have cW7_2 := (hbW7.cell (p := ⟨w.heap.size, 2, none⟩) (show w.heap.size < W2.heap.size by omega)).trans cW2_2
            have hBW7 : Below w0.heap.size w0 W7 := hBW2.trans (hbW7.mono hBW2.size)
            have hzW7 := hBW7.size
            have hzzW7 := hbW7.size
            have hTW7 := (hTW2.below hbW7 (Nat.le_refl _)).up hbW7.size
            have oTW7 := oTW2.below hbW7
            have hUW7 := (hUW2.below hbW7 (Nat.le_refl _)).up hbW7.size
            have oUW7 := oUW2.below hbW7
            refine hK.out _ _ ⟨cW7_0, cW7_1, cW7_2⟩ (fun hS => ?_)
            clear hK
            try simp only [Act.put, List.setIfInBounds_toArray, List.set_cons_zero, List.set_cons_succ]
            refine wpAnyH_oneD (i := 4) rfl (by kernel_rfl) (fun K hK => ?_)
            go_simp
            obtain ⟨W8, hwW8⟩ : ∃ W, W = W7.alloc (.cells #[.slice none 0 0, .slice none 0 0, .slice none 0 0] 26) := ⟨_, rfl⟩
            rw [← hwW8]
            have hbW8 : Below W7.heap.size W7 W8 := by rw [hwW8]; exact below_alW _
            have b3W8 : W8.heap[W7.heap.size]? = some (.cells #[.slice none 0 0, .slice none 0 0, .slice none 0 0] 26 (0, 0)) := by rw [hwW8]; exact heap_alloc_new _ _
            have hsW8 : W7.heap.size + 1 ≤ W8.heap.size := by rw [hwW8]; simp
            clear hwW8
            have cW8_0 := (hbW8.cell (p := ⟨w.heap.size, 0, none⟩) (show w.heap.size < W7.heap.size by omega)).trans cW7_0
            have cW8_1 := (hbW8.cell (p := ⟨w.heap.size, 1, none⟩) (show w.heap.size < W7.heap.size by omega)).trans cW7_1
            have cW8_2 := (hbW8.cell (p := ⟨w.heap.size, 2, none⟩) (show w.heap.size < W7.heap.size by omega)).trans cW7_2
            have hBW8 : Below w0.heap.size w0 W8 := hBW7.trans (hbW8.mono hBW7.size)
            have hzW8 := hBW8.size
            have hzzW8 := hbW8.size
            have hTW8 := (hTW7.below hbW8 (Nat.le_refl _)).up hbW8.size
            have oTW8 := oTW7.below hbW8
            have hUW8 := (hUW7.below hbW8 (Nat.le_refl _)).up hbW8.size
            have oUW8 := oUW7.below hbW8
            have b4W8 := (hbW8.block _ (lt_of_block b4W7)).trans b4W7
            refine hK.out _ _ ⟨cW8_0, cW8_1, cW8_2⟩ (fun hS => ?_)
            clear hK
            try simp only [Act.put, List.setIfInBounds_toArray, List.set_cons_zero, List.set_cons_succ]
            refine wpAnyH_oneD (i := 6) rfl (by kernel_rfl) (fun K hK => ?_)
            obtain ⟨⟨xW90, xW91, xW92⟩, ⟨yW90, yW91, yW92⟩, hlW9⟩ := blk3 b3W8
            go_simp
            clear xW90 xW91 xW92 yW90 yW91 yW92
            have hneW9 : W2.heap.size ≠ W7.heap.size := by omega
            have b3W9 := heap_set3 (x := .slice bi mi di) (y := .slice be me de) (z := .slice bl ml dl) b3W8
            have b4W9 := heap_set3o (g := W7.heap.size) (x := .slice bi mi di) (y := .slice be me de) (z := .slice bl ml dl) hneW9 b4W8
            have sTW9 := graph_store (x := .slice bi mi di) (y := .slice be me de) (z := .slice bl ml dl) hTW8 oTW8 b3W8
            have sUW9 := graph_store (x := .slice bi mi di) (y := .slice be me de) (z := .slice bl ml dl) hUW8 oUW8 b3W8
            have hBW9 := below_set3 (g := W7.heap.size) (x := .slice bi mi di) (y := .slice be me de) (z := .slice bl ml dl) (show w0.heap.size ≤ W7.heap.size by omega) hBW8
            have hzsW9 : (((W8.setCell ⟨W7.heap.size, 0, none⟩ (.slice bi mi di)).setCell ⟨W7.heap.size, 1, none⟩ (.slice be me de)).setCell ⟨W7.heap.size, 2, none⟩ (.slice bl ml dl)).heap.size = W8.heap.size := by simp [World.setCell]
            have cW9_0 := (far3 W8 (W7.heap.size) w.heap.size 0 (.slice bi mi di) (.slice be me de) (.slice bl ml dl) (by omega)).trans cW8_0
            have cW9_1 := (far3 W8 (W7.heap.size) w.heap.size 1 (.slice bi mi di) (.slice be me de) (.slice bl ml dl) (by omega)).trans cW8_1
            have cW9_2 := (far3 W8 (W7.heap.size) w.heap.size 2 (.slice bi mi di) (.slice be me de) (.slice bl ml dl) (by omega)).trans cW8_2
            generalize ((W8.setCell ⟨W7.heap.size, 0, none⟩ (.slice bi mi di)).setCell ⟨W7.heap.size, 1, none⟩ (.slice be me de)).setCell ⟨W7.heap.size, 2, none⟩ (.slice bl ml dl) = W9 at *
            have hTW9 := sTW9.1
            have oTW9 := sTW9.2
            have hUW9 := sUW9.1
            have oUW9 := sUW9.2
            rw [← hzsW9] at hTW9 hUW9
            refine hK.out _ _ ⟨cW9_0, cW9_1, cW9_2⟩ (fun hS => ?_)
            clear hK
            try simp only [Act.put, List.setIfInBounds_toArray, List.set_cons_zero, List.set_cons_succ]
            refine wpAnyH_oneD (i := 7) rfl (by kernel_rfl) (fun K hK => ?_)
            obtain ⟨⟨xW100, xW101, xW102⟩, ⟨yW100, yW101, yW102⟩, hlW10⟩ := blk3 b4W9
            go_simp
            clear xW100 xW101 xW102 yW100 yW101 yW102
            have hneW10 : W7.heap.size ≠ W2.heap.size := by omega
            have b4W10 := heap_set3 (x := .slice pi qi ri) (y := .slice pe qe re) (z := .slice pl ql rl) b4W9
            have b3W10 := heap_set3o (g := W2.heap.size) (x := .slice pi qi ri) (y := .slice pe qe re) (z := .slice pl ql rl) hneW10 b3W9
            have sTW10 := graph_store (x := .slice pi qi ri) (y := .slice pe qe re) (z := .slice pl ql rl) hTW9 oTW9 b4W9
            have sUW10 := graph_store (x := .slice pi qi ri) (y := .slice pe qe re) (z := .slice pl ql rl) hUW9 oUW9 b4W9
            have hBW10 := below_set3 (g := W2.heap.size) (x := .slice pi qi ri) (y := .slice pe qe re) (z := .slice pl ql rl) (show w0.heap.size ≤ W2.heap.size by omega) hBW9
            have hzsW10 : (((W9.setCell ⟨W2.heap.size, 0, none⟩ (.slice pi qi ri)).setCell ⟨W2.heap.size, 1, none⟩ (.slice pe qe re)).setCell ⟨W2.heap.size, 2, none⟩ (.slice pl ql rl)).heap.size = W9.heap.size := by simp [World.setCell]
            have cW10_0 := (far3 W9 (W2.heap.size) w.heap.size 0 (.slice pi qi ri) (.slice pe qe re) (.slice pl ql rl) (by omega)).trans cW9_0
            have cW10_1 := (far3 W9 (W2.heap.size) w.heap.size 1 (.slice pi qi ri) (.slice pe qe re) (.slice pl ql rl) (by omega)).trans cW9_1
            have cW10_2 := (far3 W9 (W2.heap.size) w.heap.size 2 (.slice pi qi ri) (.slice pe qe re) (.slice pl ql rl) (by omega)).trans cW9_2
            generalize ((W9.setCell ⟨W2.heap.size, 0, none⟩ (.slice pi qi ri)).setCell ⟨W2.heap.size, 1, none⟩ (.slice pe qe re)).setCell ⟨W2.heap.size, 2, none⟩ (.slice pl ql rl) = W10 at *
            have hTW10 := sTW10.1
            have oTW10 := sTW10.2
            have hUW10 := sUW10.1
            have oUW10 := sUW10.2
            rw [← hzsW10] at hTW10 hUW10
            refine hK.out _ _ ⟨cW10_0, cW10_1, cW10_2⟩ (fun hS => ?_)
            clear hK
            try simp only [Act.put, List.setIfInBounds_toArray, List.set_cons_zero, List.set_cons_succ]
            refine wpAnyH_done (by kernel_rfl) ?_ _
            clear hS
            go_wp2_with fail
            go_meet
            exact ⟨_, _, bi, mi, di, be, me, de, bl, ml, dl, pi, qi, ri, pe, qe, re, pl, ql, rl, rfl, rfl, b3W10, b4W10, hTW10, hUW10, ⟨cW10_0, cW10_1, cW10_2⟩, hBW10⟩
        · skip
          go_simp
          obtain ⟨W11, hwW11⟩ : ∃ W, W = W1.alloc (.cells #[.slice none 0 0, .slice none 0 0, .slice none 0 0] 26) := ⟨_, rfl⟩
          rw [← hwW11]
          have hbW11 : Below W1.heap.size W1 W11 := by rw [hwW11]; exact below_alW _
          have b3W11 : W11.heap[W1.heap.size]? = some (.cells #[.slice none 0 0, .slice none 0 0, .slice none 0 0] 26 (0, 0)) := by rw [hwW11]; exact heap_alloc_new _ _
          have hsW11 : W1.heap.size + 1 ≤ W11.heap.size := by rw [hwW11]; simp
          clear hwW11
          have cW11_0 := (hbW11.cell (p := ⟨w.heap.size, 0, none⟩) (show w.heap.size < W1.heap.size by omega)).trans cW1_0
          have cW11_1 := (hbW11.cell (p := ⟨w.heap.size, 1, none⟩) (show w.heap.size < W1.heap.size by omega)).trans cW1_1
          have cW11_2 := (hbW11.cell (p := ⟨w.heap.size, 2, none⟩) (show w.heap.size < W1.heap.size by omega)).trans cW1_2
          have hBW11 : Below w0.heap.size w0 W11 := hBW1.trans (hbW11.mono hBW1.size)
          have hzW11 := hBW11.size
          have hzzW11 := hbW11.size
          have hTW11 := (hTW1.below hbW11 (Nat.le_refl _)).up hbW11.size
          have oTW11 := oTW1.below hbW11
          refine hK.out _ _ ⟨cW11_0, cW11_1, cW11_2⟩ (fun hS => ?_)
          clear hK
          try simp only [Act.put, List.setIfInBounds_toArray, List.set_cons_zero, List.set_cons_succ]
          refine wpAnyH_ready (rs := [3, 5]) (by kernel_rfl) (by simp) ?_
          refine (allReadyH_consD (i := 3) rfl (fun K hK => ?_) (allReadyH_consD (i := 5) rfl (fun K hK => ?_) AllReadyH.nil))
          · skip
            go_simp
            refine (totalP_any ai ae al ni ci ne ce nl cl G W11 B (hG0.below hBW11 hB0) (Nat.le_trans hB0 hBW11.size) (by omega) (by omega) (by omega) 50 kr k4 (by omega)).mono ?_
            rintro e W12 ⟨pi, qi, ri, pe, qe, re, pl, ql, rl, rfl, hUW12, hbW12, vsU, oUW12⟩
            have cW12_0 := (hbW12.cell (p := ⟨w.heap.size, 0, none⟩) (show w.heap.size < W11.heap.size by omega)).trans cW11_0
            have cW12_1 := (hbW12.cell (p := ⟨w.heap.size, 1, none⟩) (show w.heap.size < W11.heap.size by omega)).trans cW11_1
            have cW12_2 := (hbW12.cell (p := ⟨w.heap.size, 2, none⟩) (show w.heap.size < W11.heap.size by omega)).trans cW11_2
            have hBW12 : Below w0.heap.size w0 W12 := hBW11.trans (hbW12.mono hBW11.size)
            have hzW12 := hBW12.size
            have hzzW12 := hbW12.size
            have hTW12 := (hTW11.below hbW12 (Nat.le_refl _)).up hbW12.size
            have oTW12 := oTW11.below hbW12
            have b3W12 := (hbW12.block _ (lt_of_block b3W11)).trans b3W11
            go_wp2_with fail
            refine hK.out _ _ ⟨cW12_0, cW12_1, cW12_2⟩ (fun hS => ?_)
            clear hK
            try simp only [Act.put, List.setIfInBounds_toArray, List.set_cons_zero, List.set_cons_succ]
            refine wpAnyH_oneD (i := 5) rfl (by kernel_rfl) (fun K hK => ?_)
            go_simp
            obtain ⟨W13, hwW13⟩ : ∃ W, W = W12.alloc (.cells #[.slice none 0 0, .slice none 0 0, .slice none 0 0] 26) := ⟨_, rfl⟩
            rw [← hwW13]
            have hbW13 : Below W12.heap.size W12 W13 := by rw [hwW13]; exact below_alW _
            have b4W13 : W13.heap[W12.heap.size]? = some (.cells #[.slice none 0 0, .slice none 0 0, .slice none 0 0] 26 (0, 0)) := by rw [hwW13]; exact heap_alloc_new _ _
            have hsW13 : W12.heap.size + 1 ≤ W13.heap.size := by rw [hwW13]; simp
            clear hwW13
            have cW13_0 := (hbW13.cell (p := ⟨w.heap.size, 0, none⟩) (show w.heap.size < W12.heap.size by omega)).trans cW12_0
            have cW13_1 := (hbW13.cell (p := ⟨w.heap.size, 1, none⟩) (show w.heap.size < W12.heap.size by omega)).trans cW12_1
            have cW13_2 := (hbW13.cell (p := ⟨w.heap.size, 2, none⟩) (show w.heap.size < W12.heap.size by omega)).trans cW12_2
            have hBW13 : Below w0.heap.size w0 W13 := hBW12.trans (hbW13.mono hBW12.size)
            have hzW13 := hBW13.size
            have hzzW13 := hbW13.size
            have hTW13 := (hTW12.below hbW13 (Nat.le_refl _)).up hbW13.size
            have oTW13 := oTW12.below hbW13
            have hUW13 := (hUW12.below hbW13 (Nat.le_refl _)).up hbW13.size
            have oUW13 := oUW12.below hbW13
            have b3W13 := (hbW13.block _ (lt_of_block b3W12)).trans b3W12
            refine hK.out _ _ ⟨cW13_0, cW13_1, cW13_2⟩ (fun hS => ?_)
            clear hK
            try simp only [Act.put, List.setIfInBounds_toArray, List.set_cons_zero, List.set_cons_succ]
            refine wpAnyH_oneD (i := 6) rfl (by kernel_rfl) (fun K hK => ?_)
            obtain ⟨⟨xW140, xW141, xW142⟩, ⟨yW140, yW141, yW142⟩, hlW14⟩ := blk3 b3W13
            go_simp
            clear xW140 xW141 xW142 yW140 yW141 yW142
            have hneW14 : W12.heap.size ≠ W1.heap.size := by omega
            have b3W14 := heap_set3 (x := .slice bi mi di) (y := .slice be me de) (z := .slice bl ml dl) b3W13
            have b4W14 := heap_set3o (g := W1.heap.size) (x := .slice bi mi di) (y := .slice be me de) (z := .slice bl ml dl) hneW14 b4W13
            have sTW14 := graph_store (x := .slice bi mi di) (y := .slice be me de) (z := .slice bl ml dl) hTW13 oTW13 b3W13
            have sUW14 := graph_store (x := .slice bi mi di) (y := .slice be me de) (z := .slice bl ml dl) hUW13 oUW13 b3W13
            have hBW14 := below_set3 (g := W1.heap.size) (x := .slice bi mi di) (y := .slice be me de) (z := .slice bl ml dl) (show w0.heap.size ≤ W1.heap.size by omega) hBW13
            have hzsW14 : (((W13.setCell ⟨W1.heap.size, 0, none⟩ (.slice bi mi di)).setCell ⟨W1.heap.size, 1, none⟩ (.slice be me de)).setCell ⟨W1.heap.size, 2, none⟩ (.slice bl ml dl)).heap.size = W13.heap.size := by simp [World.setCell]
            have cW14_0 := (far3 W13 (W1.heap.size) w.heap.size 0 (.slice bi mi di) (.slice be me de) (.slice bl ml dl) (by omega)).trans cW13_0
            have cW14_1 := (far3 W13 (W1.heap.size) w.heap.size 1 (.slice bi mi di) (.slice be me de) (.slice bl ml dl) (by omega)).trans cW13_1
            have cW14_2 := (far3 W13 (W1.heap.size) w.heap.size 2 (.slice bi mi di) (.slice be me de) (.slice bl ml dl) (by omega)).trans cW13_2
            generalize ((W13.setCell ⟨W1.heap.size, 0, none⟩ (.slice bi mi di)).setCell ⟨W1.heap.size, 1, none⟩ (.slice be me de)).setCell ⟨W1.heap.size, 2, none⟩ (.slice bl ml dl) = W14 at *
            have hTW14 := sTW14.1
            have oTW14 := sTW14.2
            have hUW14 := sUW14.1
            have oUW14 := sUW14.2
            rw [← hzsW14] at hTW14 hUW14
            refine hK.out _ _ ⟨cW14_0, cW14_1, cW14_2⟩ (fun hS => ?_)
            clear hK
            try simp only [Act.put, List.setIfInBounds_toArray, List.set_cons_zero, List.set_cons_succ]
            refine wpAnyH_oneD (i := 7) rfl (by kernel_rfl) (fun K hK => ?_)
            obtain ⟨⟨xW150, xW151, xW152⟩, ⟨yW150, yW151, yW152⟩, hlW15⟩ := blk3 b4W14
            go_simp
            clear xW150 xW151 xW152 yW150 yW151 yW152
            have hneW15 : W1.heap.size ≠ W12.heap.size := by omega
            have b4W15 := heap_set3 (x := .slice pi qi ri) (y := .slice pe qe re) (z := .slice pl ql rl) b4W14
            have b3W15 := heap_set3o (g := W12.heap.size) (x := .slice pi qi ri) (y := .slice pe qe re) (z := .slice pl ql rl) hneW15 b3W14
            have sTW15 := graph_store (x := .slice pi qi ri) (y := .slice pe qe re) (z := .slice pl ql rl) hTW14 oTW14 b4W14
            have sUW15 := graph_store (x := .slice pi qi ri) (y := .slice pe qe re) (z := .slice pl ql rl) hUW14 oUW14 b4W14
            have hBW15 := below_set3 (g := W12.heap.size) (x := .slice pi qi ri) (y := .slice pe qe re) (z := .slice pl ql rl) (show w0.heap.size ≤ W12.heap.size by omega) hBW14
            have hzsW15 : (((W14.setCell ⟨W12.heap.size, 0, none⟩ (.slice pi qi ri)).setCell ⟨W12.heap.size, 1, none⟩ (.slice pe qe re)).setCell ⟨W12.heap.size, 2, none⟩ (.slice pl ql rl)).heap.size = W14.heap.size := by simp [World.setCell]
            have cW15_0 := (far3 W14 (W12.heap.size) w.heap.size 0 (.slice pi qi ri) (.slice pe qe re) (.slice pl ql rl) (by omega)).trans cW14_0
            have cW15_1 := (far3 W14 (W12.heap.size) w.heap.size 1 (.slice pi qi ri) (.slice pe qe re) (.slice pl ql rl) (by omega)).trans cW14_1
            have cW15_2 := (far3 W14 (W12.heap.size) w.heap.size 2 (.slice pi qi ri) (.slice pe qe re) (.slice pl ql rl) (by omega)).trans cW14_2
            generalize ((W14.setCell ⟨W12.heap.size, 0, none⟩ (.slice pi qi ri)).setCell ⟨W12.heap.size, 1, none⟩ (.slice pe qe re)).setCell ⟨W12.heap.size, 2, none⟩ (.slice pl ql rl) = W15 at *
            have hTW15 := sTW15.1
            have oTW15 := sTW15.2
            have hUW15 := sUW15.1
            have oUW15 := sUW15.2
            rw [← hzsW15] at hTW15 hUW15
            refine hK.out _ _ ⟨cW15_0, cW15_1, cW15_2⟩ (fun hS => ?_)
            clear hK
            try simp only [Act.put, List.setIfInBounds_toArray, List.set_cons_zero, List.set_cons_succ]
            refine wpAnyH_done (by kernel_rfl) ?_ _
            clear hS
            go_wp2_with fail
            go_meet
            exact ⟨_, _, bi, mi, di, be, me, de, bl, ml, dl, pi, qi, ri, pe, qe, re, pl, ql, rl, rfl, rfl, b3W15, b4W15, hTW15, hUW15, ⟨cW15_0, cW15_1, cW15_2⟩, hBW15⟩
          · skip
            go_simp
            obtain ⟨W16, hwW16⟩ : ∃ W, W = W11.alloc (.cells #[.slice none 0 0, .slice none 0 0, .slice none 0 0] 26) := ⟨_, rfl⟩
            rw [← hwW16]
            have hbW16 : Below W11.heap.size W11 W16 := by rw [hwW16]; exact below_alW _
            have b4W16 : W16.heap[W11.heap.size]? = some (.cells #[.slice none 0 0, .slice none 0 0, .slice none 0 0] 26 (0, 0)) := by rw [hwW16]; exact heap_alloc_new _ _
            have hsW16 : W11.heap.size + 1 ≤ W16.heap.size := by rw [hwW16]; simp
            clear hwW16
            have cW16_0 := (hbW16.cell (p := ⟨w.heap.size, 0, none⟩) (show w.heap.size < W11.heap.size by omega)).trans cW11_0
            have cW16_1 := (hbW16.cell (p := ⟨w.heap.size, 1, none⟩) (show w.heap.size < W11.heap.size by omega)).trans cW11_1
            have cW16_2 := (hbW16.cell (p := ⟨w.heap.size, 2, none⟩) (show w.heap.size < W11.heap.size by omega)).trans cW11_2
            have hBW16 : Below w0.heap.size w0 W16 := hBW11.trans (hbW16.mono hBW11.size)
            have hzW16 := hBW16.size
            have hzzW16 := hbW16.size
            have hTW16 := (hTW11.below hbW16 (Nat.le_refl _)).up hbW16.size
            have oTW16 := oTW11.below hbW16
            have b3W16 := (hbW16.block _ (lt_of_block b3W11)).trans b3W11
            refine hK.out _ _ ⟨cW16_0, cW16_1, cW16_2⟩ (fun hS => ?_)
            clear hK
            try simp only [Act.put, List.setIfInBounds_toArray, List.set_cons_zero, List.set_cons_succ]
            refine wpAnyH_oneD (i := 3) rfl (by kernel_rfl) (fun K hK => ?_)
            go_simp
            refine (totalP_any ai ae al ni ci ne ce nl cl G W16 B (hG0.below hBW16 hB0) (Nat.le_trans hB0 hBW16.size) (by omega) (by omega) (by omega) 50 kr k4 (by omega)).mono ?_
            rintro e W17 ⟨pi, qi, ri, pe, qe, re, pl, ql, rl, rfl, hUW17, hbW17, vsU, oUW17⟩
            have cW17_0 := (hbW17.cell (p := ⟨w.heap.size, 0, none⟩) (show w.heap.size < W16.heap.size by omega)).trans cW16_0
            have cW17_1 := (hbW17.cell (p := ⟨w.heap.size, 1, none⟩) (show w.heap.size < W16.heap.size by omega)).trans cW16_1
            have cW17_2 := (hbW17.cell (p := ⟨w.heap.size, 2, none⟩) (show w.heap.size < W16.heap.size by omega)).trans cW16_2
            have hBW17 : Below w0.heap.size w0 W17 := hBW16.trans (hbW17.mono hBW16.size)
            have hzW17 := hBW17.size
            have hzzW17 := hbW17.size
            have hTW17 := (hTW16.below hbW17 (Nat.le_refl _)).up hbW17.size
            have oTW17 := oTW16.below hbW17
            have b3W17 := (hbW17.block _ (lt_of_block b3W16)).trans b3W16
            have b4W17 := (hbW17.block _ (lt_of_block b4W16)).trans b4W16
            go_wp2_with fail
            refine hK.out _ _ ⟨cW17_0, cW17_1, cW17_2⟩ (fun hS => ?_)
            clear hK
            try simp only [Act.put, List.setIfInBounds_toArray, List.set_cons_zero, List.set_cons_succ]
            refine wpAnyH_oneD (i := 6) rfl (by kernel_rfl) (fun K hK => ?_)
            obtain ⟨⟨xW180, xW181, xW182⟩, ⟨yW180, yW181, yW182⟩, hlW18⟩ := blk3 b3W17
            go_simp
            clear xW180 xW181 xW182 yW180 yW181 yW182
            have hneW18 : W11.heap.size ≠ W1.heap.size := by omega
            have b3W18 := heap_set3 (x := .slice bi mi di) (y := .slice be me de) (z := .slice bl ml dl) b3W17
            have b4W18 := heap_set3o (g := W1.heap.size) (x := .slice bi mi di) (y := .slice be me de) (z := .slice bl ml dl) hneW18 b4W17
            have sTW18 := graph_store (x := .slice bi mi di) (y := .slice be me de) (z := .slice bl ml dl) hTW17 oTW17 b3W17
            have sUW18 := graph_store (x := .slice bi mi di) (y := .slice be me de) (z := .slice bl ml dl) hUW17 oUW17 b3W17
            have hBW18 := below_set3 (g := W1.heap.size) (x := .slice bi mi di) (y := .slice be me de) (z := .slice bl ml dl) (show w0.heap.size ≤ W1.heap.size by omega) hBW17
            have hzsW18 : (((W17.setCell ⟨W1.heap.size, 0, none⟩ (.slice bi mi di)).setCell ⟨W1.heap.size, 1, none⟩ (.slice be me de)).setCell ⟨W1.heap.size, 2, none⟩ (.slice bl ml dl)).heap.size = W17.heap.size := by simp [World.setCell]
            have cW18_0 := (far3 W17 (W1.heap.size) w.heap.size 0 (.slice bi mi di) (.slice be me de) (.slice bl ml dl) (by omega)).trans cW17_0
            have cW18_1 := (far3 W17 (W1.heap.size) w.heap.size 1 (.slice bi mi di) (.slice be me de) (.slice bl ml dl) (by omega)).trans cW17_1
            have cW18_2 := (far3 W17 (W1.heap.size) w.heap.size 2 (.slice bi mi di) (.slice be me de) (.slice bl ml dl) (by omega)).trans cW17_2
            generalize ((W17.setCell ⟨W1.heap.size, 0, none⟩ (.slice bi mi di)).setCell ⟨W1.heap.size, 1, none⟩ (.slice be me de)).setCell ⟨W1.heap.size, 2, none⟩ (.slice bl ml dl) = W18 at *
            have hTW18 := sTW18.1
            have oTW18 := sTW18.2
            have hUW18 := sUW18.1
            have oUW18 := sUW18.2
            rw [← hzsW18] at hTW18 hUW18
            refine hK.out _ _ ⟨cW18_0, cW18_1, cW18_2⟩ (fun hS => ?_)
            clear hK
            try simp only [Act.put, List.setIfInBounds_toArray, List.set_cons_zero, List.set_cons_succ]
            refine wpAnyH_oneD (i := 7) rfl (by kernel_rfl) (fun K hK => ?_)
            obtain ⟨⟨xW190, xW191, xW192⟩, ⟨yW190, yW191, yW192⟩, hlW19⟩ := blk3 b4W18
            go_simp
            clear xW190 xW191 xW192 yW190 yW191 yW192
            have hneW19 : W1.heap.size ≠ W11.heap.size := by omega
            have b4W19 := heap_set3 (x := .slice pi qi ri) (y := .slice pe qe re) (z := .slice pl ql rl) b4W18
            have b3W19 := heap_set3o (g := W11.heap.size) (x := .slice pi qi ri) (y := .slice pe qe re) (z := .slice pl ql rl) hneW19 b3W18
            have sTW19 := graph_store (x := .slice pi qi ri) (y := .slice pe qe re) (z := .slice pl ql rl) hTW18 oTW18 b4W18
            have sUW19 := graph_store (x := .slice pi qi ri) (y := .slice pe qe re) (z := .slice pl ql rl) hUW18 oUW18 b4W18
            have hBW19 := below_set3 (g := W11.heap.size) (x := .slice pi qi ri) (y := .slice pe qe re) (z := .slice pl ql rl) (show w0.heap.size ≤ W11.heap.size by omega) hBW18
            have hzsW19 : (((W18.setCell ⟨W11.heap.size, 0, none⟩ (.slice pi qi ri)).setCell ⟨W11.heap.size, 1, none⟩ (.slice pe qe re)).setCell ⟨W11.heap.size, 2, none⟩ (.slice pl ql rl)).heap.size = W18.heap.size := by simp [World.setCell]
            have cW19_0 := (far3 W18 (W11.heap.size) w.heap.size 0 (.slice pi qi ri) (.slice pe qe re) (.slice pl ql rl) (by omega)).trans cW18_0
            have cW19_1 := (far3 W18 (W11.heap.size) w.heap.size 1 (.slice pi qi ri) (.slice pe qe re) (.slice pl ql rl) (by omega)).trans cW18_1
            have cW19_2 := (far3 W18 (W11.heap.size) w.heap.size 2 (.slice pi qi ri) (.slice pe qe re) (.slice pl ql rl) (by omega)).trans cW18_2
            generalize ((W18.setCell ⟨W11.heap.size, 0, none⟩ (.slice pi qi ri)).setCell ⟨W11.heap.size, 1, none⟩ (.slice pe qe re)).setCell ⟨W11.heap.size, 2, none⟩ (.slice pl ql rl) = W19 at *
            have hTW19 := sTW19.1
            have oTW19 := sTW19.2
            have hUW19 := sUW19.1
            have oUW19 := sUW19.2
            rw [← hzsW19] at hTW19 hUW19
            refine hK.out _ _ ⟨cW19_0, cW19_1, cW19_2⟩ (fun hS => ?_)
            clear hK
            try simp only [Act.put, List.setIfInBounds_toArray, List.set_cons_zero, List.set_cons_succ]
            refine wpAnyH_done (by kernel_rfl) ?_ _
            clear hS
            go_wp2_with fail
            go_meet
            exact ⟨_, _, bi, mi, di, be, me, de, bl, ml, dl, pi, qi, ri, pe, qe, re, pl, ql, rl, rfl, rfl, b3W19, b4W19, hTW19, hUW19, ⟨cW19_0, cW19_1, cW19_2⟩, hBW19⟩
        · skip
          go_simp
          obtain ⟨W20, hwW20⟩ : ∃ W, W = W1.alloc (.cells #[.slice none 0 0, .slice none 0 0, .slice none 0 0] 26) := ⟨_, rfl⟩
          rw [← hwW20]
          have hbW20 : Below W1.heap.size W1 W20 := by rw [hwW20]; exact below_alW _
          have b4W20 : W20.heap[W1.heap.size]? = some (.cells #[.slice none 0 0, .slice none 0 0, .slice none 0 0] 26 (0, 0)) := by rw [hwW20]; exact heap_alloc_new _ _
          have hsW20 : W1.heap.size + 1 ≤ W20.heap.size := by rw [hwW20]; simp
          clear hwW20
          have cW20_0 := (hbW20.cell (p := ⟨w.heap.size, 0, none⟩) (show w.heap.size < W1.heap.size by omega)).trans cW1_0
          have cW20_1 := (hbW20.cell (p := ⟨w.heap.size, 1, none⟩) (show w.heap.size < W1.heap.size by omega)).trans cW1_1
          have cW20_2 := (hbW20.cell (p := ⟨w.heap.size, 2, none⟩) (show w.heap.size < W1.heap.size by omega)).trans cW1_2
          have hBW20 : Below w0.heap.size w0 W20 := hBW1.trans (hbW20.mono hBW1.size)
          have hzW20 := hBW20.size
          have hzzW20 := hbW20.size
          have hTW20 := (hTW1.below hbW20 (Nat.le_refl _)).up hbW20.size
          have oTW20 := oTW1.below hbW20
          refine hK.out _ _ ⟨cW20_0, cW20_1, cW20_2⟩ (fun hS => ?_)
          clear hK
          try simp only [Act.put, List.setIfInBounds_toArray, List.set_cons_zero, List.set_cons_succ]
          refine wpAnyH_ready (rs := [3, 4]) (by kernel_rfl) (by simp) ?_
          refine (allReadyH_consD (i := 3) rfl (fun K hK => ?_) (allReadyH_consD (i := 4) rfl (fun K hK => ?_) AllReadyH.nil))
          · skip
            go_simp
            refine (totalP_any ai ae al ni ci ne ce nl cl G W20 B (hG0.below hBW20 hB0) (Nat.le_trans hB0 hBW20.size) (by omega) (by omega) (by omega) 50 kr k4 (by omega)).mono ?_
            rintro e W21 ⟨pi, qi, ri, pe, qe, re, pl, ql, rl, rfl, hUW21, hbW21, vsU, oUW21⟩
            have cW21_0 := (hbW21.cell (p := ⟨w.heap.size, 0, none⟩) (show w.heap.size < W20.heap.size by omega)).trans cW20_0
            have cW21_1 := (hbW21.cell (p := ⟨w.heap.size, 1, none⟩) (show w.heap.size < W20.heap.size by omega)).trans cW20_1
            have cW21_2 := (hbW21.cell (p := ⟨w.heap.size, 2, none⟩) (show w.heap.size < W20.heap.size by omega)).trans cW20_2
            have hBW21 : Below w0.heap.size w0 W21 := hBW20.trans (hbW21.mono hBW20.size)
            have hzW21 := hBW21.size
            have hzzW21 := hbW21.size
            have hTW21 := (hTW20.below hbW21 (Nat.le_refl _)).up hbW21.size
            have oTW21 := oTW20.below hbW21
            have b4W21 := (hbW21.block _ (lt_of_block b4W20)).trans b4W20
            go_wp2_with fail
            refine hK.out _ _ ⟨cW21_0, cW21_1, cW21_2⟩ (fun hS => ?_)
            clear hK
            try simp only [Act.put, List.setIfInBounds_toArray, List.set_cons_zero, List.set_cons_succ]
            refine wpAnyH_oneD (i := 4) rfl (by kernel_rfl) (fun K hK => ?_)
            go_simp
            obtain ⟨W22, hwW22⟩ : ∃ W, W = W21.alloc (.cells #[.slice none 0 0, .slice none 0 0, .slice none 0 0] 26) := ⟨_, rfl⟩
            rw [← hwW22]
            have hbW22 : Below W21.heap.size W21 W22 := by rw [hwW22]; exact below_alW _
            have b3W22 : W22.heap[W21.heap.size]? = some (.cells #[.slice none 0 0, .slice none 0 0, .slice none 0 0] 26 (0, 0)) := by rw [hwW22]; exact heap_alloc_new _ _
            have hsW22 : W21.heap.size + 1 ≤ W22.heap.size := by rw [hwW22]; simp
            clear hwW22
            have cW22_0 := (hbW22.cell (p := ⟨w.heap.size, 0, none⟩) (show w.heap.size < W21.heap.size by omega)).trans cW21_0
            have cW22_1 := (hbW22.cell (p := ⟨w.heap.size, 1, none⟩) (show w.heap.size < W21.heap.size by omega)).trans cW21_1
            have cW22_2 := (hbW22.cell (p := ⟨w.heap.size, 2, none⟩) (show w.heap.size < W21.heap.size by omega)).trans cW21_2
            have hBW22 : Below w0.heap.size w0 W22 := hBW21.trans (hbW22.mono hBW21.size)
            have hzW22 := hBW22.size
            have hzzW22 := hbW22.size
            have hTW22 := (hTW21.below hbW22 (Nat.le_refl _)).up hbW22.size
            have oTW22 := oTW21.below hbW22
            have hUW22 := (hUW21.below hbW22 (Nat.le_refl _)).up hbW22.size
            have oUW22 := oUW21.below hbW22
            have b4W22 := (hbW22.block _ (lt_of_block b4W21)).trans b4W21
            refine hK.out _ _ ⟨cW22_0, cW22_1, cW22_2⟩ (fun hS => ?_)
            clear hK
            try simp only [Act.put, List.setIfInBounds_toArray, List.set_cons_zero, List.set_cons_succ]
            refine wpAnyH_oneD (i := 6) rfl (by kernel_rfl) (fun K hK => ?_)
            obtain ⟨⟨xW230, xW231, xW232⟩, ⟨yW230, yW231, yW232⟩, hlW23⟩ := blk3 b3W22
            go_simp
            clear xW230 xW231 xW232 yW230 yW231 yW232
            have hneW23 : W1.heap.size ≠ W21.heap.size := by omega
            have b3W23 := heap_set3 (x := .slice bi mi di) (y := .slice be me de) (z := .slice bl ml dl) b3W22
            have b4W23 := heap_set3o (g := W21.heap.size) (x := .slice bi mi di) (y := .slice be me de) (z := .slice bl ml dl) hneW23 b4W22
            have sTW23 := graph_store (x := .slice bi mi di) (y := .slice be me de) (z := .slice bl ml dl) hTW22 oTW22 b3W22
            have sUW23 := graph_store (x := .slice bi mi di) (y := .slice be me de) (z := .slice bl ml dl) hUW22 oUW22 b3W22
            have hBW23 := below_set3 (g := W21.heap.size) (x := .slice bi mi di) (y := .slice be me de) (z := .slice bl ml dl) (show w0.heap.size ≤ W21.heap.size by omega) hBW22
            have hzsW23 : (((W22.setCell ⟨W21.heap.size, 0, none⟩ (.slice bi mi di)).setCell ⟨W21.heap.size, 1, none⟩ (.slice be me de)).setCell ⟨W21.heap.size, 2, none⟩ (.slice bl ml dl)).heap.size = W22.heap.size := by simp [World.setCell]
            have cW23_0 := (far3 W22 (W21.heap.size) w.heap.size 0 (.slice bi mi di) (.slice be me de) (.slice bl ml dl) (by omega)).trans cW22_0
            have cW23_1 := (far3 W22 (W21.heap.size) w.heap.size 1 (.slice bi mi di) (.slice be me de) (.slice bl ml dl) (by omega)).trans cW22_1
            have cW23_2 := (far3 W22 (W21.heap.size) w.heap.size 2 (.slice bi mi di) (.slice be me de) (.slice bl ml dl) (by omega)).trans cW22_2
            generalize ((W22.setCell ⟨W21.heap.size, 0, none⟩ (.slice bi mi di)).setCell ⟨W21.heap.size, 1, none⟩ (.slice be me de)).setCell ⟨W21.heap.size, 2, none⟩ (.slice bl ml dl) = W23 at *
            have hTW23 := sTW23.1
            have oTW23 := sTW23.2
            have hUW23 := sUW23.1
            have oUW23 := sUW23.2
            rw [← hzsW23] at hTW23 hUW23
            refine hK.out _ _ ⟨cW23_0, cW23_1, cW23_2⟩ (fun hS => ?_)
            clear hK
            try simp only [Act.put, List.setIfInBounds_toArray, List.set_cons_zero, List.set_cons_succ]
            refine wpAnyH_oneD (i := 7) rfl (by kernel_rfl) (fun K hK => ?_)
            obtain ⟨⟨xW240, xW241, xW242⟩, ⟨yW240, yW241, yW242⟩, hlW24⟩ := blk3 b4W23
            go_simp
            clear xW240 xW241 xW242 yW240 yW241 yW242
            have hneW24 : W21.heap.size ≠ W1.heap.size := by omega
            have b4W24 := heap_set3 (x := .slice pi qi ri) (y := .slice pe qe re) (z := .slice pl ql rl) b4W23
            have b3W24 := heap_set3o (g := W1.heap.size) (x := .slice pi qi ri) (y := .slice pe qe re) (z := .slice pl ql rl) hneW24 b3W23
            have sTW24 := graph_store (x := .slice pi qi ri) (y := .slice pe qe re) (z := .slice pl ql rl) hTW23 oTW23 b4W23
            have sUW24 := graph_store (x := .slice pi qi ri) (y := .slice pe qe re) (z := .slice pl ql rl) hUW23 oUW23 b4W23
            have hBW24 := below_set3 (g := W1.heap.size) (x := .slice pi qi ri) (y := .slice pe qe re) (z := .slice pl ql rl) (show w0.heap.size ≤ W1.heap.size by omega) hBW23
            have hzsW24 : (((W23.setCell ⟨W1.heap.size, 0, none⟩ (.slice pi qi ri)).setCell ⟨W1.heap.size, 1, none⟩ (.slice pe qe re)).setCell ⟨W1.heap.size, 2, none⟩ (.slice pl ql rl)).heap.size = W23.heap.size := by simp [World.setCell]
            have cW24_0 := (far3 W23 (W1.heap.size) w.heap.size 0 (.slice pi qi ri) (.slice pe qe re) (.slice pl ql rl) (by omega)).trans cW23_0
            have cW24_1 := (far3 W23 (W1.heap.size) w.heap.size 1 (.slice pi qi ri) (.slice pe qe re) (.slice pl ql rl) (by omega)).trans cW23_1
            have cW24_2 := (far3 W23 (W1.heap.size) w.heap.size 2 (.slice pi qi ri) (.slice pe qe re) (.slice pl ql rl) (by omega)).trans cW23_2
            generalize ((W23.setCell ⟨W1.heap.size, 0, none⟩ (.slice pi qi ri)).setCell ⟨W1.heap.size, 1, none⟩ (.slice pe qe re)).setCell ⟨W1.heap.size, 2, none⟩ (.slice pl ql rl) = W24 at *
            have hTW24 := sTW24.1
            have oTW24 := sTW24.2
            have hUW24 := sUW24.1
            have oUW24 := sUW24.2
            rw [← hzsW24] at hTW24 hUW24
            refine hK.out _ _ ⟨cW24_0, cW24_1, cW24_2⟩ (fun hS => ?_)
            clear hK
            try simp only [Act.put, List.setIfInBounds_toArray, List.set_cons_zero, List.set_cons_succ]
            refine wpAnyH_done (by kernel_rfl) ?_ _
            clear hS
            go_wp2_with fail
            go_meet
            exact ⟨_, _, bi, mi, di, be, me, de, bl, ml, dl, pi, qi, ri, pe, qe, re, pl, ql, rl, rfl, rfl, b3W24, b4W24, hTW24, hUW24, ⟨cW24_0, cW24_1, cW24_2⟩, hBW24⟩
          · skip
            go_simp
            obtain ⟨W25, hwW25⟩ : ∃ W, W = W20.alloc (.cells #[.slice none 0 0, .slice none 0 0, .slice none 0 0] 26) := ⟨_, rfl⟩
            rw [← hwW25]
            have hbW25 : Below W20.heap.size W20 W25 := by rw [hwW25]; exact below_alW _
            have b3W25 : W25.heap[W20.heap.size]? = some (.cells #[.slice none 0 0, .slice none 0 0, .slice none 0 0] 26 (0, 0)) := by rw [hwW25]; exact heap_alloc_new _ _
            have hsW25 : W20.heap.size + 1 ≤ W25.heap.size := by rw [hwW25]; simp
            clear hwW25
            have cW25_0 := (hbW25.cell (p := ⟨w.heap.size, 0, none⟩) (show w.heap.size < W20.heap.size by omega)).trans cW20_0
            have cW25_1 := (hbW25.cell (p := ⟨w.heap.size, 1, none⟩) (show w.heap.size < W20.heap.size by omega)).trans cW20_1
            have cW25_2 := (hbW25.cell (p := ⟨w.heap.size, 2, none⟩) (show w.heap.size < W20.heap.size by omega)).trans cW20_2
            have hBW25 : Below w0.heap.size w0 W25 := hBW20.trans (hbW25.mono hBW20.size)
            have hzW25 := hBW25.size
            have hzzW25 := hbW25.size
            have hTW25 := (hTW20.below hbW25 (Nat.le_refl _)).up hbW25.size
            have oTW25 := oTW20.below hbW25
            have b4W25 := (hbW25.block _ (lt_of_block b4W20)).trans b4W20
            refine hK.out _ _ ⟨cW25_0, cW25_1, cW25_2⟩ (fun hS => ?_)
            clear hK
            try simp only [Act.put, List.setIfInBounds_toArray, List.set_cons_zero, List.set_cons_succ]
            refine wpAnyH_oneD (i := 3) rfl (by kernel_rfl) (fun K hK => ?_)
            go_simp
            refine (totalP_any ai ae al ni ci ne ce nl cl G W25 B (hG0.below hBW25 hB0) (Nat.le_trans hB0 hBW25.size) (by omega) (by omega) (by omega) 50 kr k4 (by omega)).mono ?_
            rintro e W26 ⟨pi, qi, ri, pe, qe, re, pl, ql, rl, rfl, hUW26, hbW26, vsU, oUW26⟩
            have cW26_0 := (hbW26.cell (p := ⟨w.heap.size, 0, none⟩) (show w.heap.size < W25.heap.size by omega)).trans cW25_0
            have cW26_1 := (hbW26.cell (p := ⟨w.heap.size, 1, none⟩) (show w.heap.size < W25.heap.size by omega)).trans cW25_1
            have cW26_2 := (hbW26.cell (p := ⟨w.heap.size, 2, none⟩) (show w.heap.size < W25.heap.size by omega)).trans cW25_2
            have hBW26 : Below w0.heap.size w0 W26 := hBW25.trans (hbW26.mono hBW25.size)
            have hzW26 := hBW26.size
            have hzzW26 := hbW26.size
            have hTW26 := (hTW25.below hbW26 (Nat.le_refl _)).up hbW26.size
            have oTW26 := oTW25.below hbW26
            have b3W26 := (hbW26.block _ (lt_of_block b3W25)).trans b3W25
            have b4W26 := (hbW26.block _ (lt_of_block b4W25)).trans b4W25
            go_wp2_with fail
            refine hK.out _ _ ⟨cW26_0, cW26_1, cW26_2⟩ (fun hS => ?_)
            clear hK
            try simp only [Act.put, List.setIfInBounds_toArray, List.set_cons_zero, List.set_cons_succ]
            refine wpAnyH_oneD (i := 6) rfl (by kernel_rfl) (fun K hK => ?_)
            obtain ⟨⟨xW270, xW271, xW272⟩, ⟨yW270, yW271, yW272⟩, hlW27⟩ := blk3 b3W26
            go_simp
            clear xW270 xW271 xW272 yW270 yW271 yW272
            have hneW27 : W1.heap.size ≠ W20.heap.size := by omega
            have b3W27 := heap_set3 (x := .slice bi mi di) (y := .slice be me de) (z := .slice bl ml dl) b3W26
            have b4W27 := heap_set3o (g := W20.heap.size) (x := .slice bi mi di) (y := .slice be me de) (z := .slice bl ml dl) hneW27 b4W26
            have sTW27 := graph_store (x := .slice bi mi di) (y := .slice be me de) (z := .slice bl ml dl) hTW26 oTW26 b3W26
            have sUW27 := graph_store (x := .slice bi mi di) (y := .slice be me de) (z := .slice bl ml dl) hUW26 oUW26 b3W26
            have hBW27 := below_set3 (g := W20.heap.size) (x := .slice bi mi di) (y := .slice be me de) (z := .slice bl ml dl) (show w0.heap.size ≤ W20.heap.size by omega) hBW26
            have hzsW27 : (((W26.setCell ⟨W20.heap.size, 0, none⟩ (.slice bi mi di)).setCell ⟨W20.heap.size, 1, none⟩ (.slice be me de)).setCell ⟨W20.heap.size, 2, none⟩ (.slice bl ml dl)).heap.size = W26.heap.size := by simp [World.setCell]
            have cW27_0 := (far3 W26 (W20.heap.size) w.heap.size 0 (.slice bi mi di) (.slice be me de) (.slice bl ml dl) (by omega)).trans cW26_0
            have cW27_1 := (far3 W26 (W20.heap.size) w.heap.size 1 (.slice bi mi di) (.slice be me de) (.slice bl ml dl) (by omega)).trans cW26_1
            have cW27_2 := (far3 W26 (W20.heap.size) w.heap.size 2 (.slice bi mi di) (.slice be me de) (.slice bl ml dl) (by omega)).trans cW26_2
            generalize ((W26.setCell ⟨W20.heap.size, 0, none⟩ (.slice bi mi di)).setCell ⟨W20.heap.size, 1, none⟩ (.slice be me de)).setCell ⟨W20.heap.size, 2, none⟩ (.slice bl ml dl) = W27 at *
            have hTW27 := sTW27.1
            have oTW27 := sTW27.2
            have hUW27 := sUW27.1
            have oUW27 := sUW27.2
            rw [← hzsW27] at hTW27 hUW27
            refine hK.out _ _ ⟨cW27_0, cW27_1, cW27_2⟩ (fun hS => ?_)
            clear hK
            try simp only [Act.put, List.setIfInBounds_toArray, List.set_cons_zero, List.set_cons_succ]
            refine wpAnyH_oneD (i := 7) rfl (by kernel_rfl) (fun K hK => ?_)
            obtain ⟨⟨xW280, xW281, xW282⟩, ⟨yW280, yW281, yW282⟩, hlW28⟩ := blk3 b4W27
            go_simp
            clear xW280 xW281 xW282 yW280 yW281 yW282
            have hneW28 : W20.heap.size ≠ W1.heap.size := by omega
            have b4W28 := heap_set3 (x := .slice pi qi ri) (y := .slice pe qe re) (z := .slice pl ql rl) b4W27
            have b3W28 := heap_set3o (g := W1.heap.size) (x := .slice pi qi ri) (y := .slice pe qe re) (z := .slice pl ql rl) hneW28 b3W27
            have sTW28 := graph_store (x := .slice pi qi ri) (y := .slice pe qe re) (z := .slice pl ql rl) hTW27 oTW27 b4W27
            have sUW28 := graph_store (x := .slice pi qi ri) (y := .slice pe qe re) (z := .slice pl ql rl) hUW27 oUW27 b4W27
            have hBW28 := below_set3 (g := W1.heap.size) (x := .slice pi qi ri) (y := .slice pe qe re) (z := .slice pl ql rl) (show w0.heap.size ≤ W1.heap.size by omega) hBW27
            have hzsW28 : (((W27.setCell ⟨W1.heap.size, 0, none⟩ (.slice pi qi ri)).setCell ⟨W1.heap.size, 1, none⟩ (.slice pe qe re)).setCell ⟨W1.heap.size, 2, none⟩ (.slice pl ql rl)).heap.size = W27.heap.size := by simp [World.setCell]
            have cW28_0 := (far3 W27 (W1.heap.size) w.heap.size 0 (.slice pi qi ri) (.slice pe qe re) (.slice pl ql rl) (by omega)).trans cW27_0
            have cW28_1 := (far3 W27 (W1.heap.size) w.heap.size 1 (.slice pi qi ri) (.slice pe qe re) (.slice pl ql rl) (by omega)).trans cW27_1
            have cW28_2 := (far3 W27 (W1.heap.size) w.heap.size 2 (.slice pi qi ri) (.slice pe qe re) (.slice pl ql rl) (by omega)).trans cW27_2
            generalize ((W27.setCell ⟨W1.heap.size, 0, none⟩ (.slice pi qi ri)).setCell ⟨W1.heap.size, 1, none⟩ (.slice pe qe re)).setCell ⟨W1.heap.size, 2, none⟩ (.slice pl ql rl) = W28 at *
            have hTW28 := sTW28.1
            have oTW28 := sTW28.2
            have hUW28 := sUW28.1
            have oUW28 := sUW28.2
            rw [← hzsW28] at hTW28 hUW28
            refine hK.out _ _ ⟨cW28_0, cW28_1, cW28_2⟩ (fun hS => ?_)
            clear hK
            try simp only [Act.put, List.setIfInBounds_toArray, List.set_cons_zero, List.set_cons_succ]
            refine wpAnyH_done (by kernel_rfl) ?_ _
            clear hS
            go_wp2_with fail
            go_meet
            exact ⟨_, _, bi, mi, di, be, me, de, bl, ml, dl, pi, qi, ri, pe, qe, re, pl, ql, rl, rfl, rfl, b3W28, b4W28, hTW28, hUW28, ⟨cW28_0, cW28_1, cW28_2⟩, hBW28⟩
      · skip
        go_simp
        obtain ⟨W29, hwW29⟩ : ∃ W, W = W0.alloc (.cells #[.slice none 0 0, .slice none 0 0, .slice none 0 0] 26) := ⟨_, rfl⟩
        rw [← hwW29]
        have hbW29 : Below W0.heap.size W0 W29 := by rw [hwW29]; exact below_alW _
        have b3W29 : W29.heap[W0.heap.size]? = some (.cells #[.slice none 0 0, .slice none 0 0, .slice none 0 0] 26 (0, 0)) := by rw [hwW29]; exact heap_alloc_new _ _
        have hsW29 : W0.heap.size + 1 ≤ W29.heap.size := by rw [hwW29]; simp
        clear hwW29
        have cW29_0 := (hbW29.cell (p := ⟨w.heap.size, 0, none⟩) (show w.heap.size < W0.heap.size by omega)).trans cW0_0
        have cW29_1 := (hbW29.cell (p := ⟨w.heap.size, 1, none⟩) (show w.heap.size < W0.heap.size by omega)).trans cW0_1
        have cW29_2 := (hbW29.cell (p := ⟨w.heap.size, 2, none⟩) (show w.heap.size < W0.heap.size by omega)).trans cW0_2
        have hBW29 : Below w0.heap.size w0 W29 := hBW0.trans (hbW29.mono hBW0.size)
        have hzW29 := hBW29.size
        have hzzW29 := hbW29.size
        refine hK.out _ _ ⟨cW29_0, cW29_1, cW29_2⟩ (fun hS => ?_)
        clear hK
        try simp only [Act.put, List.setIfInBounds_toArray, List.set_cons_zero, List.set_cons_succ]
        refine wpAnyH_ready (rs := [1, 5]) (by kernel_rfl) (by simp) ?_
        refine (allReadyH_consD (i := 1) rfl (fun K hK => ?_) (allReadyH_consD (i := 5) rfl (fun K hK => ?_) AllReadyH.nil))
        · skip
          go_simp
          refine (turnP_any ai ae al ni ci ne ce nl cl G W29 B (hG0.below hBW29 hB0) (Nat.le_trans hB0 hBW29.size) (by omega) (by omega) (by omega) 50 kr k4 (by omega)).mono ?_
          rintro e W30 ⟨bi, mi, di, be, me, de, bl, ml, dl, rfl, hTW30, hbW30, vsT, oTW30⟩
          have cW30_0 := (hbW30.cell (p := ⟨w.heap.size, 0, none⟩) (show w.heap.size < W29.heap.size by omega)).trans cW29_0
          have cW30_1 := (hbW30.cell (p := ⟨w.heap.size, 1, none⟩) (show w.heap.size < W29.heap.size by omega)).trans cW29_1
          have cW30_2 := (hbW30.cell (p := ⟨w.heap.size, 2, none⟩) (show w.heap.size < W29.heap.size by omega)).trans cW29_2
          have hBW30 : Below w0.heap.size w0 W30 := hBW29.trans (hbW30.mono hBW29.size)
          have hzW30 := hBW30.size
          have hzzW30 := hbW30.size
          have b3W30 := (hbW30.block _ (lt_of_block b3W29)).trans b3W29
          go_wp2_with fail
          refine hK.out _ _ ⟨cW30_0, cW30_1, cW30_2⟩ (fun hS => ?_)
          clear hK
          try simp only [Act.put, List.setIfInBounds_toArray, List.set_cons_zero, List.set_cons_succ]
          refine wpAnyH_ready (rs := [3, 5]) (by kernel_rfl) (by simp) ?_
          refine (allReadyH_consD (i := 3) rfl (fun K hK => ?_) (allReadyH_consD (i := 5) rfl (fun K hK => ?_) AllReadyH.nil))
          · skip
            go_simp
            refine (totalP_any ai ae al ni ci ne ce nl cl G W30 B (hG0.below hBW30 hB0) (Nat.le_trans hB0 hBW30.size) (by omega) (by omega) (by omega) 50 kr k4 (by omega)).mono ?_
            rintro e W31 ⟨pi, qi, ri, pe, qe, re, pl, ql, rl, rfl, hUW31, hbW31, vsU, oUW31⟩
            have cW31_0 := (hbW31.cell (p := ⟨w.heap.size, 0, none⟩) (show w.heap.size < W30.heap.size by omega)).trans cW30_0
            have cW31_1 := (hbW31.cell (p := ⟨w.heap.size, 1, none⟩) (show w.heap.size < W30.heap.size by omega)).trans cW30_1
            have cW31_2 := (hbW31.cell (p := ⟨w.heap.size, 2, none⟩) (show w.heap.size < W30.heap.size by omega)).trans cW30_2
            have hBW31 : Below w0.heap.size w0 W31 := hBW30.trans (hbW31.mono hBW30.size)
            have hzW31 := hBW31.size
            have hzzW31 := hbW31.size
            have hTW31 := (hTW30.below hbW31 (Nat.le_refl _)).up hbW31.size
            have oTW31 := oTW30.below hbW31
            have b3W31 := (hbW31.block _ (lt_of_block b3W30)).trans b3W30
            go_wp2_with fail
            refine hK.out _ _ ⟨cW31_0, cW31_1, cW31_2⟩ (fun hS => ?_)
            clear hK
            try simp only [Act.put, List.setIfInBounds_toArray, List.set_cons_zero, List.set_cons_succ]
            refine wpAnyH_oneD (i := 5) rfl (by kernel_rfl) (fun K hK => ?_)
            go_simp
            obtain ⟨W32, hwW32⟩ : ∃ W, W = W31.alloc (.cells #[.slice none 0 0, .slice none 0 0, .slice none 0 0] 26) := ⟨_, rfl⟩
            rw [← hwW32]
            have hbW32 : Below W31.heap.size W31 W32 := by rw [hwW32]; exact below_alW _
            have b4W32 : W32.heap[W31.heap.size]? = some (.cells #[.slice none 0 0, .slice none 0 0, .slice none 0 0] 26 (0, 0)) := by rw [hwW32]; exact heap_alloc_new _ _
            have hsW32 : W31.heap.size + 1 ≤ W32.heap.size := by rw [hwW32]; simp
            clear hwW32
            have cW32_0 := (hbW32.cell (p := ⟨w.heap.size, 0, none⟩) (show w.heap.size < W31.heap.size by omega)).trans cW31_0
            have cW32_1 := (hbW32.cell (p := ⟨w.heap.size, 1, none⟩) (show w.heap.size < W31.heap.size by omega)).trans cW31_1
            have cW32_2 := (hbW32.cell (p := ⟨w.heap.size, 2, none⟩) (show w.heap.size < W31.heap.size by omega)).trans cW31_2
            have hBW32 : Below w0.heap.size w0 W32 := hBW31.trans (hbW32.mono hBW31.size)
            have hzW32 := hBW32.size
            have hzzW32 := hbW32.size
            have hTW32 := (hTW31.below hbW32 (Nat.le_refl _)).up hbW32.size
            have oTW32 := oTW31.below hbW32
            have hUW32 := (hUW31.below hbW32 (Nat.le_refl _)).up hbW32.size
            have oUW32 := oUW31.below hbW32
            have b3W32 := (hbW32.block _ (lt_of_block b3W31)).trans b3W31
            refine hK.out _ _ ⟨cW32_0, cW32_1, cW32_2⟩ (fun hS => ?_)
            clear hK
            try simp only [Act.put, List.setIfInBounds_toArray, List.set_cons_zero, List.set_cons_succ]
            refine wpAnyH_oneD (i := 6) rfl (by kernel_rfl) (fun K hK => ?_)
            obtain ⟨⟨xW330, xW331, xW332⟩, ⟨yW330, yW331, yW332⟩, hlW33⟩ := blk3 b3W32
            go_simp
            clear xW330 xW331 xW332 yW330 yW331 yW332
            have hneW33 : W31.heap.size ≠ W0.heap.size := by omega
            have b3W33 := heap_set3 (x := .slice bi mi di) (y := .slice be me de) (z := .slice bl ml dl) b3W32
            have b4W33 := heap_set3o (g := W0.heap.size) (x := .slice bi mi di) (y := .slice be me de) (z := .slice bl ml dl) hneW33 b4W32
            have sTW33 := graph_store (x := .slice bi mi di) (y := .slice be me de) (z := .slice bl ml dl) hTW32 oTW32 b3W32
            have sUW33 := graph_store (x := .slice bi mi di) (y := .slice be me de) (z := .slice bl ml dl) hUW32 oUW32 b3W32
            have hBW33 := below_set3 (g := W0.heap.size) (x := .slice bi mi di) (y := .slice be me de) (z := .slice bl ml dl) (show w0.heap.size ≤ W0.heap.size by omega) hBW32
            have hzsW33 : (((W32.setCell ⟨W0.heap.size, 0, none⟩ (.slice bi mi di)).setCell ⟨W0.heap.size, 1, none⟩ (.slice be me de)).setCell ⟨W0.heap.size, 2, none⟩ (.slice bl ml dl)).heap.size = W32.heap.size := by simp [World.setCell]
            have cW33_0 := (far3 W32 (W0.heap.size) w.heap.size 0 (.slice bi mi di) (.slice be me de) (.slice bl ml dl) (by omega)).trans cW32_0
            have cW33_1 := (far3 W32 (W0.heap.size) w.heap.size 1 (.slice bi mi di) (.slice be me de) (.slice bl ml dl) (by omega)).trans cW32_1
            have cW33_2 := (far3 W32 (W0.heap.size) w.heap.size 2 (.slice bi mi di) (.slice be me de) (.slice bl ml dl) (by omega)).trans cW32_2
            generalize ((W32.setCell ⟨W0.heap.size, 0, none⟩ (.slice bi mi di)).setCell ⟨W0.heap.size, 1, none⟩ (.slice be me de)).setCell ⟨W0.heap.size, 2, none⟩ (.slice bl ml dl) = W33 at *
            have hTW33 := sTW33.1
            have oTW33 := sTW33.2
            have hUW33 := sUW33.1
            have oUW33 := sUW33.2
            rw [← hzsW33] at hTW33 hUW33
            refine hK.out _ _ ⟨cW33_0, cW33_1, cW33_2⟩ (fun hS => ?_)
            clear hK
            try simp only [Act.put, List.setIfInBounds_toArray, List.set_cons_zero, List.set_cons_succ]
            refine wpAnyH_oneD (i := 7) rfl (by kernel_rfl) (fun K hK => ?_)
            obtain ⟨⟨xW340, xW341, xW342⟩, ⟨yW340, yW341, yW342⟩, hlW34⟩ := blk3 b4W33
            go_simp
            clear xW340 xW341 xW342 yW340 yW341 yW342
            have hneW34 : W0.heap.size ≠ W31.heap.size := by omega
            have b4W34 := heap_set3 (x := .slice pi qi ri) (y := .slice pe qe re) (z := .slice pl ql rl) b4W33
            have b3W34 := heap_set3o (g := W31.heap.size) (x := .slice pi qi ri) (y := .slice pe qe re) (z := .slice pl ql rl) hneW34 b3W33
            have sTW34 := graph_store (x := .slice pi qi ri) (y := .slice pe qe re) (z := .slice pl ql rl) hTW33 oTW33 b4W33
            have sUW34 := graph_store (x := .slice pi qi ri) (y := .slice pe qe re) (z := .slice pl ql rl) hUW33 oUW33 b4W33
            have hBW34 := below_set3 (g := W31.heap.size) (x := .slice pi qi ri) (y := .slice pe qe re) (z := .slice pl ql rl) (show w0.heap.size ≤ W31.heap.size by omega) hBW33
            have hzsW34 : (((W33.setCell ⟨W31.heap.size, 0, none⟩ (.slice pi qi ri)).setCell ⟨W31.heap.size, 1, none⟩ (.slice pe qe re)).setCell ⟨W31.heap.size, 2, none⟩ (.slice pl ql rl)).heap.size = W33.heap.size := by simp [World.setCell]
            have cW34_0 := (far3 W33 (W31.heap.size) w.heap.size 0 (.slice pi qi ri) (.slice pe qe re) (.slice pl ql rl) (by omega)).trans cW33_0
            have cW34_1 := (far3 W33 (W31.heap.size) w.heap.size 1 (.slice pi qi ri) (.slice pe qe re) (.slice pl ql rl) (by omega)).trans cW33_1
            have cW34_2 := (far3 W33 (W31.heap.size) w.heap.size 2 (.slice pi qi ri) (.slice pe qe re) (.slice pl ql rl) (by omega)).trans cW33_2
            generalize ((W33.setCell ⟨W31.heap.size, 0, none⟩ (.slice pi qi ri)).setCell ⟨W31.heap.size, 1, none⟩ (.slice pe qe re)).setCell ⟨W31.heap.size, 2, none⟩ (.slice pl ql rl) = W34 at *
            have hTW34 := sTW34.1
            have oTW34 := sTW34.2
            have hUW34 := sUW34.1
            have oUW34 := sUW34.2
            rw [← hzsW34] at hTW34 hUW34
            refine hK.out _ _ ⟨cW34_0, cW34_1, cW34_2⟩ (fun hS => ?_)
            clear hK
            try simp only [Act.put, List.setIfInBounds_toArray, List.set_cons_zero, List.set_cons_succ]
            refine wpAnyH_done (by kernel_rfl) ?_ _
            clear hS
            go_wp2_with fail
            go_meet
            exact ⟨_, _, bi, mi, di, be, me, de, bl, ml, dl, pi, qi, ri, pe, qe, re, pl, ql, rl, rfl, rfl, b3W34, b4W34, hTW34, hUW34, ⟨cW34_0, cW34_1, cW34_2⟩, hBW34⟩
          · skip
            go_simp
            obtain ⟨W35, hwW35⟩ : ∃ W, W = W30.alloc (.cells #[.slice none 0 0, .slice none 0 0, .slice none 0 0] 26) := ⟨_, rfl⟩
            rw [← hwW35]
            have hbW35 : Below W30.heap.size W30 W35 := by rw [hwW35]; exact below_alW _
            have b4W35 : W35.heap[W30.heap.size]? = some (.cells #[.slice none 0 0, .slice none 0 0, .slice none 0 0] 26 (0, 0)) := by rw [hwW35]; exact heap_alloc_new _ _
            have hsW35 : W30.heap.size + 1 ≤ W35.heap.size := by rw [hwW35]; simp
            clear hwW35
            have cW35_0 := (hbW35.cell (p := ⟨w.heap.size, 0, none⟩) (show w.heap.size < W30.heap.size by omega)).trans cW30_0
            have cW35_1 := (hbW35.cell (p := ⟨w.heap.size, 1, none⟩) (show w.heap.size < W30.heap.size by omega)).trans cW30_1
            have cW35_2 := (hbW35.cell (p := ⟨w.heap.size, 2, none⟩) (show w.heap.size < W30.heap.size by omega)).trans cW30_2
            have hBW35 : Below w0.heap.size w0 W35 := hBW30.trans (hbW35.mono hBW30.size)
            have hzW35 := hBW35.size
            have hzzW35 := hbW35.size
            have hTW35 := (hTW30.below hbW35 (Nat.le_refl _)).up hbW35.size
            have oTW35 := oTW30.below hbW35
            have b3W35 := (hbW35.block _ (lt_of_block b3W30)).trans b3W30
            refine hK.out _ _ ⟨cW35_0, cW35_1, cW35_2⟩ (fun hS => ?_)
            clear hK
            try simp only [Act.put, List.setIfInBounds_toArray, List.set_cons_zero, List.set_cons_succ]
            refine wpAnyH_oneD (i := 3) rfl (by kernel_rfl) (fun K hK => ?_)
            go_simp
            refine (totalP_any ai ae al ni ci ne ce nl cl G W35 B (hG0.below hBW35 hB0) (Nat.le_trans hB0 hBW35.size) (by omega) (by omega) (by omega) 50 kr k4 (by omega)).mono ?_
            rintro e W36 ⟨pi, qi, ri, pe, qe, re, pl, ql, rl, rfl, hUW36, hbW36, vsU, oUW36⟩
            have cW36_0 := (hbW36.cell (p := ⟨w.heap.size, 0, none⟩) (show w.heap.size < W35.heap.size by omega)).trans cW35_0
            have cW36_1 := (hbW36.cell (p := ⟨w.heap.size, 1, none⟩) (show w.heap.size < W35.heap.size by omega)).trans cW35_1
            have cW36_2 := (hbW36.cell (p := ⟨w.heap.size, 2, none⟩) (show w.heap.size < W35.heap.size by omega)).trans cW35_2
            have hBW36 : Below w0.heap.size w0 W36 := hBW35.trans (hbW36.mono hBW35.size)
            have hzW36 := hBW36.size
            have hzzW36 := hbW36.size
            have hTW36 := (hTW35.below hbW36 (Nat.le_refl _)).up hbW36.size
            have oTW36 := oTW35.below hbW36
            have b3W36 := (hbW36.block _ (lt_of_block b3W35)).trans b3W35
            have b4W36 := (hbW36.block _ (lt_of_block b4W35)).trans b4W35
            go_wp2_with fail
            refine hK.out _ _ ⟨cW36_0, cW36_1, cW36_2⟩ (fun hS => ?_)
            clear hK
            try simp only [Act.put, List.setIfInBounds_toArray, List.set_cons_zero, List.set_cons_succ]
            refine wpAnyH_oneD (i := 6) rfl (by kernel_rfl) (fun K hK => ?_)
            obtain ⟨⟨xW370, xW371, xW372⟩, ⟨yW370, yW371, yW372⟩, hlW37⟩ := blk3 b3W36
            go_simp
            clear xW370 xW371 xW372 yW370 yW371 yW372
            have hneW37 : W30.heap.size ≠ W0.heap.size := by omega
            have b3W37 := heap_set3 (x := .slice bi mi di) (y := .slice be me de) (z := .slice bl ml dl) b3W36
            have b4W37 := heap_set3o (g := W0.heap.size) (x := .slice bi mi di) (y := .slice be me de) (z := .slice bl ml dl) hneW37 b4W36
            have sTW37 := graph_store (x := .slice bi mi di) (y := .slice be me de) (z := .slice bl ml dl) hTW36 oTW36 b3W36
            have sUW37 := graph_store (x := .slice bi mi di) (y := .slice be me de) (z := .slice bl ml dl) hUW36 oUW36 b3W36
            have hBW37 := below_set3 (g := W0.heap.size) (x := .slice bi mi di) (y := .slice be me de) (z := .slice bl ml dl) (show w0.heap.size ≤ W0.heap.size by omega) hBW36
            have hzsW37 : (((W36.setCell ⟨W0.heap.size, 0, none⟩ (.slice bi mi di)).setCell ⟨W0.heap.size, 1, none⟩ (.slice be me de)).setCell ⟨W0.heap.size, 2, none⟩ (.slice bl ml dl)).heap.size = W36.heap.size := by simp [World.setCell]
            have cW37_0 := (far3 W36 (W0.heap.size) w.heap.size 0 (.slice bi mi di) (.slice be me de) (.slice bl ml dl) (by omega)).trans cW36_0
            have cW37_1 := (far3 W36 (W0.heap.size) w.heap.size 1 (.slice bi mi di) (.slice be me de) (.slice bl ml dl) (by omega)).trans cW36_1
            have cW37_2 := (far3 W36 (W0.heap.size) w.heap.size 2 (.slice bi mi di) (.slice be me de) (.slice bl ml dl) (by omega)).trans cW36_2
            generalize ((W36.setCell ⟨W0.heap.size, 0, none⟩ (.slice bi mi di)).setCell ⟨W0.heap.size, 1, none⟩ (.slice be me de)).setCell ⟨W0.heap.size, 2, none⟩ (.slice bl ml dl) = W37 at *
            have hTW37 := sTW37.1
            have oTW37 := sTW37.2
            have hUW37 := sUW37.1
            have oUW37 := sUW37.2
            rw [← hzsW37] at hTW37 hUW37
            refine hK.out _ _ ⟨cW37_0, cW37_1, cW37_2⟩ (fun hS => ?_)
            clear hK
            try simp only [Act.put, List.setIfInBounds_toArray, List.set_cons_zero, List.set_cons_succ]
            refine wpAnyH_oneD (i := 7) rfl (by kernel_rfl) (fun K hK => ?_)
            obtain ⟨⟨xW380, xW381, xW382⟩, ⟨yW380, yW381, yW382⟩, hlW38⟩ := blk3 b4W37
            go_simp
            clear xW380 xW381 xW382 yW380 yW381 yW382
            have hneW38 : W0.heap.size ≠ W30.heap.size := by omega
            have b4W38 := heap_set3 (x := .slice pi qi ri) (y := .slice pe qe re) (z := .slice pl ql rl) b4W37
            have b3W38 := heap_set3o (g := W30.heap.size) (x := .slice pi qi ri) (y := .slice pe qe re) (z := .slice pl ql rl) hneW38 b3W37
            have sTW38 := graph_store (x := .slice pi qi ri) (y := .slice pe qe re) (z := .slice pl ql rl) hTW37 oTW37 b4W37
            have sUW38 := graph_store (x := .slice pi qi ri) (y := .slice pe qe re) (z := .slice pl ql rl) hUW37 oUW37 b4W37
            have hBW38 := below_set3 (g := W30.heap.size) (x := .slice pi qi ri) (y := .slice pe qe re) (z := .slice pl ql rl) (show w0.heap.size ≤ W30.heap.size by omega) hBW37
            have hzsW38 : (((W37.setCell ⟨W30.heap.size, 0, none⟩ (.slice pi qi ri)).setCell ⟨W30.heap.size, 1, none⟩ (.slice pe qe re)).setCell ⟨W30.heap.size, 2, none⟩ (.slice pl ql rl)).heap.size = W37.heap.size := by simp [World.setCell]
            have cW38_0 := (far3 W37 (W30.heap.size) w.heap.size 0 (.slice pi qi ri) (.slice pe qe re) (.slice pl ql rl) (by omega)).trans cW37_0
            have cW38_1 := (far3 W37 (W30.heap.size) w.heap.size 1 (.slice pi qi ri) (.slice pe qe re) (.slice pl ql rl) (by omega)).trans cW37_1
            have cW38_2 := (far3 W37 (W30.heap.size) w.heap.size 2 (.slice pi qi ri) (.slice pe qe re) (.slice pl ql rl) (by omega)).trans cW37_2
            generalize ((W37.setCell ⟨W30.heap.size, 0, none⟩ (.slice pi qi ri)).setCell ⟨W30.heap.size, 1, none⟩ (.slice pe qe re)).setCell ⟨W30.heap.size, 2, none⟩ (.slice pl ql rl) = W38 at *
            have hTW38 := sTW38.1
            have oTW38 := sTW38.2
            have hUW38 := sUW38.1
            have oUW38 := sUW38.2
            rw [← hzsW38] at hTW38 hUW38
            refine hK.out _ _ ⟨cW38_0, cW38_1, cW38_2⟩ (fun hS => ?_)
            clear hK
            try simp only [Act.put, List.setIfInBounds_toArray, List.set_cons_zero, List.set_cons_succ]
            refine wpAnyH_done (by kernel_rfl) ?_ _
            clear hS
            go_wp2_with fail
            go_meet
            exact ⟨_, _, bi, mi, di, be, me, de, bl, ml, dl, pi, qi, ri, pe, qe, re, pl, ql, rl, rfl, rfl, b3W38, b4W38, hTW38, hUW38, ⟨cW38_0, cW38_1, cW38_2⟩, hBW38⟩
        · skip
          go_simp
          obtain ⟨W39, hwW39⟩ : ∃ W, W = W29.alloc (.cells #[.slice none 0 0, .slice none 0 0, .slice none 0 0] 26) := ⟨_, rfl⟩
          rw [← hwW39]
          have hbW39 : Below W29.heap.size W29 W39 := by rw [hwW39]; exact below_alW _
          have b4W39 : W39.heap[W29.heap.size]? = some (.cells #[.slice none 0 0, .slice none 0 0, .slice none 0 0] 26 (0, 0)) := by rw [hwW39]; exact heap_alloc_new _ _
          have hsW39 : W29.heap.size + 1 ≤ W39.heap.size := by rw [hwW39]; simp
          clear hwW39
          have cW39_0 := (hbW39.cell (p := ⟨w.heap.size, 0, none⟩) (show w.heap.size < W29.heap.size by omega)).trans cW29_0
          have cW39_1 := (hbW39.cell (p := ⟨w.heap.size, 1, none⟩) (show w.heap.size < W29.heap.size by omega)).trans cW29_1
          have cW39_2 := (hbW39.cell (p := ⟨w.heap.size, 2, none⟩) (show w.heap.size < W29.heap.size by omega)).trans cW29_2
          have hBW39 : Below w0.heap.size w0 W39 := hBW29.trans (hbW39.mono hBW29.size)
          have hzW39 := hBW39.size
          have hzzW39 := hbW39.size
          have b3W39 := (hbW39.block _ (lt_of_block b3W29)).trans b3W29
          refine hK.out _ _ ⟨cW39_0, cW39_1, cW39_2⟩ (fun hS => ?_)
          clear hK
          try simp only [Act.put, List.setIfInBounds_toArray, List.set_cons_zero, List.set_cons_succ]
          refine wpAnyH_oneD (i := 1) rfl (by kernel_rfl) (fun K hK => ?_)
          go_simp
          refine (turnP_any ai ae al ni ci ne ce nl cl G W39 B (hG0.below hBW39 hB0) (Nat.le_trans hB0 hBW39.size) (by omega) (by omega) (by omega) 50 kr k4 (by omega)).mono ?_
          rintro e W40 ⟨bi, mi, di, be, me, de, bl, ml, dl, rfl, hTW40, hbW40, vsT, oTW40⟩
          have cW40_0 := (hbW40.cell (p := ⟨w.heap.size, 0, none⟩) (show w.heap.size < W39.heap.size by omega)).trans cW39_0
          have cW40_1 := (hbW40.cell (p := ⟨w.heap.size, 1, none⟩) (show w.heap.size < W39.heap.size by omega)).trans cW39_1
          have cW40_2 := (hbW40.cell (p := ⟨w.heap.size, 2, none⟩) (show w.heap.size < W39.heap.size by omega)).trans cW39_2
          have hBW40 : Below w0.heap.size w0 W40 := hBW39.trans (hbW40.mono hBW39.size)
          have hzW40 := hBW40.size
          have hzzW40 := hbW40.size
          have b3W40 := (hbW40.block _ (lt_of_block b3W39)).trans b3W39
          have b4W40 := (hbW40.block _ (lt_of_block b4W39)).trans b4W39
          go_wp2_with fail
          refine hK.out _ _ ⟨cW40_0, cW40_1, cW40_2⟩ (fun hS => ?_)
          clear hK
          try simp only [Act.put, List.setIfInBounds_toArray, List.set_cons_zero, List.set_cons_succ]
          refine wpAnyH_oneD (i := 3) rfl (by kernel_rfl) (fun K hK => ?_)
          go_simp
          refine (totalP_any ai ae al ni ci ne ce nl cl G W40 B (hG0.below hBW40 hB0) (Nat.le_trans hB0 hBW40.size) (by omega) (by omega) (by omega) 50 kr k4 (by omega)).mono ?_
          rintro e W41 ⟨pi, qi, ri, pe, qe, re, pl, ql, rl, rfl, hUW41, hbW41, vsU, oUW41⟩
          have cW41_0 := (hbW41.cell (p := ⟨w.heap.size, 0, none⟩) (show w.heap.size < W40.heap.size by omega)).trans cW40_0
          have cW41_1 := (hbW41.cell (p := ⟨w.heap.size, 1, none⟩) (show w.heap.size < W40.heap.size by omega)).trans cW40_1
          have cW41_2 := (hbW41.cell (p := ⟨w.heap.size, 2, none⟩) (show w.heap.size < W40.heap.size by omega)).trans cW40_2
          have hBW41 : Below w0.heap.size w0 W41 := hBW40.trans (hbW41.mono hBW40.size)
          have hzW41 := hBW41.size
          have hzzW41 := hbW41.size
          have hTW41 := (hTW40.below hbW41 (Nat.le_refl _)).up hbW41.size
          have oTW41 := oTW40.below hbW41
          have b3W41 := (hbW41.block _ (lt_of_block b3W40)).trans b3W40
          have b4W41 := (hbW41.block _ (lt_of_block b4W40)).trans b4W40
          go_wp2_with fail
          refine hK.out _ _ ⟨cW41_0, cW41_1, cW41_2⟩ (fun hS => ?_)
          clear hK
          try simp only [Act.put, List.setIfInBounds_toArray, List.set_cons_zero, List.set_cons_succ]
          refine wpAnyH_oneD (i := 6) rfl (by kernel_rfl) (fun K hK => ?_)
          obtain ⟨⟨xW420, xW421, xW422⟩, ⟨yW420, yW421, yW422⟩, hlW42⟩ := blk3 b3W41
          go_simp
          clear xW420 xW421 xW422 yW420 yW421 yW422
          have hneW42 : W29.heap.size ≠ W0.heap.size := by omega
          have b3W42 := heap_set3 (x := .slice bi mi di) (y := .slice be me de) (z := .slice bl ml dl) b3W41
          have b4W42 := heap_set3o (g := W0.heap.size) (x := .slice bi mi di) (y := .slice be me de) (z := .slice bl ml dl) hneW42 b4W41
          have sTW42 := graph_store (x := .slice bi mi di) (y := .slice be me de) (z := .slice bl ml dl) hTW41 oTW41 b3W41
          have sUW42 := graph_store (x := .slice bi mi di) (y := .slice be me de) (z := .slice bl ml dl) hUW41 oUW41 b3W41
          have hBW42 := below_set3 (g := W0.heap.size) (x := .slice bi mi di) (y := .slice be me de) (z := .slice bl ml dl) (show w0.heap.size ≤ W0.heap.size by omega) hBW41
          have hzsW42 : (((W41.setCell ⟨W0.heap.size, 0, none⟩ (.slice bi mi di)).setCell ⟨W0.heap.size, 1, none⟩ (.slice be me de)).setCell ⟨W0.heap.size, 2, none⟩ (.slice bl ml dl)).heap.size = W41.heap.size := by simp [World.setCell]
          have cW42_0 := (far3 W41 (W0.heap.size) w.heap.size 0 (.slice bi mi di) (.slice be me de) (.slice bl ml dl) (by omega)).trans cW41_0
          have cW42_1 := (far3 W41 (W0.heap.size) w.heap.size 1 (.slice bi mi di) (.slice be me de) (.slice bl ml dl) (by omega)).trans cW41_1
          have cW42_2 := (far3 W41 (W0.heap.size) w.heap.size 2 (.slice bi mi di) (.slice be me de) (.slice bl ml dl) (by omega)).trans cW41_2
          generalize ((W41.setCell ⟨W0.heap.size, 0, none⟩ (.slice bi mi di)).setCell ⟨W0.heap.size, 1, none⟩ (.slice be me de)).setCell ⟨W0.heap.size, 2, none⟩ (.slice bl ml dl) = W42 at *
          have hTW42 := sTW42.1
          have oTW42 := sTW42.2
          have hUW42 := sUW42.1
          have oUW42 := sUW42.2
          rw [← hzsW42] at hTW42 hUW42
          refine hK.out _ _ ⟨cW42_0, cW42_1, cW42_2⟩ (fun hS => ?_)
          clear hK
          try simp only [Act.put, List.setIfInBounds_toArray, List.set_cons_zero, List.set_cons_succ]
          refine wpAnyH_oneD (i := 7) rfl (by kernel_rfl) (fun K hK => ?_)
          obtain ⟨⟨xW430, xW431, xW432⟩, ⟨yW430, yW431, yW432⟩, hlW43⟩ := blk3 b4W42
          go_simp
          clear xW430 xW431 xW432 yW430 yW431 yW432
          have hneW43 : W0.heap.size ≠ W29.heap.size := by omega
          have b4W43 := heap_set3 (x := .slice pi qi ri) (y := .slice pe qe re) (z := .slice pl ql rl) b4W42
          have b3W43 := heap_set3o (g := W29.heap.size) (x := .slice pi qi ri) (y := .slice pe qe re) (z := .slice pl ql rl) hneW43 b3W42
          have sTW43 := graph_store (x := .slice pi qi ri) (y := .slice pe qe re) (z := .slice pl ql rl) hTW42 oTW42 b4W42
          have sUW43 := graph_store (x := .slice pi qi ri) (y := .slice pe qe re) (z := .slice pl ql rl) hUW42 oUW42 b4W42
          have hBW43 := below_set3 (g := W29.heap.size) (x := .slice pi qi ri) (y := .slice pe qe re) (z := .slice pl ql rl) (show w0.heap.size ≤ W29.heap.size by omega) hBW42
          have hzsW43 : (((W42.setCell ⟨W29.heap.size, 0, none⟩ (.slice pi qi ri)).setCell ⟨W29.heap.size, 1, none⟩ (.slice pe qe re)).setCell ⟨W29.heap.size, 2, none⟩ (.slice pl ql rl)).heap.size = W42.heap.size := by simp [World.setCell]
          have cW43_0 := (far3 W42 (W29.heap.size) w.heap.size 0 (.slice pi qi ri) (.slice pe qe re) (.slice pl ql rl) (by omega)).trans cW42_0
          have cW43_1 := (far3 W42 (W29.heap.size) w.heap.size 1 (.slice pi qi ri) (.slice pe qe re) (.slice pl ql rl) (by omega)).trans cW42_1
          have cW43_2 := (far3 W42 (W29.heap.size) w.heap.size 2 (.slice pi qi ri) (.slice pe qe re) (.slice pl ql rl) (by omega)).trans cW42_2
          generalize ((W42.setCell ⟨W29.heap.size, 0, none⟩ (.slice pi qi ri)).setCell ⟨W29.heap.size, 1, none⟩ (.slice pe qe re)).setCell ⟨W29.heap.size, 2, none⟩ (.slice pl ql rl) = W43 at *
          have hTW43 := sTW43.1
          have oTW43 := sTW43.2
          have hUW43 := sUW43.1
          have oUW43 := sUW43.2
          rw [← hzsW43] at hTW43 hUW43
          refine hK.out _ _ ⟨cW43_0, cW43_1, cW43_2⟩ (fun hS => ?_)
          clear hK
          try simp only [Act.put, List.setIfInBounds_toArray, List.set_cons_zero, List.set_cons_succ]
          refine wpAnyH_done (by kernel_rfl) ?_ _
          clear hS
          go_wp2_with fail
          go_meet
          exact ⟨_, _, bi, mi, di, be, me, de, bl, ml, dl, pi, qi, ri, pe, qe, re, pl, ql, rl, rfl, rfl, b3W43, b4W43, hTW43, hUW43, ⟨cW43_0, cW43_1, cW43_2⟩, hBW43⟩
      · skip
        go_simp
        obtain ⟨W44, hwW44⟩ : ∃ W, W = W0.alloc (.cells #[.slice none 0 0, .slice none 0 0, .slice none 0 0] 26) := ⟨_, rfl⟩
        rw [← hwW44]
        have hbW44 : Below W0.heap.size W0 W44 := by rw [hwW44]; exact below_alW _
        have b4W44 : W44.heap[W0.heap.size]? = some (.cells #[.slice none 0 0, .slice none 0 0, .slice none 0 0] 26 (0, 0)) := by rw [hwW44]; exact heap_alloc_new _ _
        have hsW44 : W0.heap.size + 1 ≤ W44.heap.size := by rw [hwW44]; simp
        clear hwW44
        have cW44_0 := (hbW44.cell (p := ⟨w.heap.size, 0, none⟩) (show w.heap.size < W0.heap.size by omega)).trans cW0_0
        have cW44_1 := (hbW44.cell (p := ⟨w.heap.size, 1, none⟩) (show w.heap.size < W0.heap.size by omega)).trans cW0_1
        have cW44_2 := (hbW44.cell (p := ⟨w.heap.size, 2, none⟩) (show w.heap.size < W0.heap.size by omega)).trans cW0_2
        have hBW44 : Below w0.heap.size w0 W44 := hBW0.trans (hbW44.mono hBW0.size)
        have hzW44 := hBW44.size
        have hzzW44 := hbW44.size
        refine hK.out _ _ ⟨cW44_0, cW44_1, cW44_2⟩ (fun hS => ?_)
        clear hK
        try simp only [Act.put, List.setIfInBounds_toArray, List.set_cons_zero, List.set_cons_succ]
        refine wpAnyH_ready (rs := [1, 4]) (by kernel_rfl) (by simp) ?_
        refine (allReadyH_consD (i := 1) rfl (fun K hK => ?_) (allReadyH_consD (i := 4) rfl (fun K hK => ?_) AllReadyH.nil))
        · skip
          go_simp
          refine (turnP_any ai ae al ni ci ne ce nl cl G W44 B (hG0.below hBW44 hB0) (Nat.le_trans hB0 hBW44.size) (by omega) (by omega) (by omega) 50 kr k4 (by omega)).mono ?_
          rintro e W45 ⟨bi, mi, di, be, me, de, bl, ml, dl, rfl, hTW45, hbW45, vsT, oTW45⟩
          have cW45_0 := (hbW45.cell (p := ⟨w.heap.size, 0, none⟩) (show w.heap.size < W44.heap.size by omega)).trans cW44_0
          have cW45_1 := (hbW45.cell (p := ⟨w.heap.size, 1, none⟩) (show w.heap.size < W44.heap.size by omega)).trans cW44_1
          have cW45_2 := (hbW45.cell (p := ⟨w.heap.size, 2, none⟩) (show w.heap.size < W44.heap.size by omega)).trans cW44_2
          have hBW45 : Below w0.heap.size w0 W45 := hBW44.trans (hbW45.mono hBW44.size)
          have hzW45 := hBW45.size
          have hzzW45 := hbW45.size
          have b4W45 := (hbW45.block _ (lt_of_block b4W44)).trans b4W44
          go_wp2_with fail
          refine hK.out _ _ ⟨cW45_0, cW45_1, cW45_2⟩ (fun hS => ?_)
          clear hK
          try simp only [Act.put, List.setIfInBounds_toArray, List.set_cons_zero, List.set_cons_succ]
          refine wpAnyH_ready (rs := [3, 4]) (by kernel_rfl) (by simp) ?_
          refine (allReadyH_consD (i := 3) rfl (fun K hK => ?_) (allReadyH_consD (i := 4) rfl (fun K hK => ?_) AllReadyH.nil))
          · skip
            go_simp
            refine (totalP_any ai ae al ni ci ne ce nl cl G W45 B (hG0.below hBW45 hB0) (Nat.le_trans hB0 hBW45.size) (by omega) (by omega) (by omega) 50 kr k4 (by omega)).mono ?_
            rintro e W46 ⟨pi, qi, ri, pe, qe, re, pl, ql, rl, rfl, hUW46, hbW46, vsU, oUW46⟩
            have cW46_0 := (hbW46.cell (p := ⟨w.heap.size, 0, none⟩) (show w.heap.size < W45.heap.size by omega)).trans cW45_0
            have cW46_1 := (hbW46.cell (p := ⟨w.heap.size, 1, none⟩) (show w.heap.size < W45.heap.size by omega)).trans cW45_1
            have cW46_2 := (hbW46.cell (p := ⟨w.heap.size, 2, none⟩) (show w.heap.size < W45.heap.size by omega)).trans cW45_2
            have hBW46 : Below w0.heap.size w0 W46 := hBW45.trans (hbW46.mono hBW45.size)
            have hzW46 := hBW46.size
            have hzzW46 := hbW46.size
            have hTW46 := (hTW45.below hbW46 (Nat.le_refl _)).up hbW46.size
            have oTW46 := oTW45.below hbW46
            have b4W46 := (hbW46.block _ (lt_of_block b4W45)).trans b4W45
            go_wp2_with fail
            refine hK.out _ _ ⟨cW46_0, cW46_1, cW46_2⟩ (fun hS => ?_)
            clear hK
            try simp only [Act.put, List.setIfInBounds_toArray, List.set_cons_zero, List.set_cons_succ]
            refine wpAnyH_oneD (i := 4) rfl (by kernel_rfl) (fun K hK => ?_)
            go_simp
            obtain ⟨W47, hwW47⟩ : ∃ W, W = W46.alloc (.cells #[.slice none 0 0, .slice none 0 0, .slice none 0 0] 26) := ⟨_, rfl⟩
            rw [← hwW47]
            have hbW47 : Below W46.heap.size W46 W47 := by rw [hwW47]; exact below_alW _
            have b3W47 : W47.heap[W46.heap.size]? = some (.cells #[.slice none 0 0, .slice none 0 0, .slice none 0 0] 26 (0, 0)) := by rw [hwW47]; exact heap_alloc_new _ _
            have hsW47 : W46.heap.size + 1 ≤ W47.heap.size := by rw [hwW47]; simp
            clear hwW47
            have cW47_0 := (hbW47.cell (p := ⟨w.heap.size, 0, none⟩) (show w.heap.size < W46.heap.size by omega)).trans cW46_0
            have cW47_1 := (hbW47.cell (p := ⟨w.heap.size, 1, none⟩) (show w.heap.size < W46.heap.size by omega)).trans cW46_1
            have cW47_2 := (hbW47.cell (p := ⟨w.heap.size, 2, none⟩) (show w.heap.size < W46.heap.size by omega)).trans cW46_2
            have hBW47 : Below w0.heap.size w0 W47 := hBW46.trans (hbW47.mono hBW46.size)
            have hzW47 := hBW47.size
            have hzzW47 := hbW47.size
            have hTW47 := (hTW46.below hbW47 (Nat.le_refl _)).up hbW47.size
            have oTW47 := oTW46.below hbW47
            have hUW47 := (hUW46.below hbW47 (Nat.le_refl _)).up hbW47.size
            have oUW47 := oUW46.below hbW47
            have b4W47 := (hbW47.block _ (lt_of_block b4W46)).trans b4W46
            refine hK.out _ _ ⟨cW47_0, cW47_1, cW47_2⟩ (fun hS => ?_)
            clear hK
            try simp only [Act.put, List.setIfInBounds_toArray, List.set_cons_zero, List.set_cons_succ]
            refine wpAnyH_oneD (i := 6) rfl (by kernel_rfl) (fun K hK => ?_)
            obtain ⟨⟨xW480, xW481, xW482⟩, ⟨yW480, yW481, yW482⟩, hlW48⟩ := blk3 b3W47
            go_simp
            clear xW480 xW481 xW482 yW480 yW481 yW482
            have hneW48 : W0.heap.size ≠ W46.heap.size := by omega
            have b3W48 := heap_set3 (x := .slice bi mi di) (y := .slice be me de) (z := .slice bl ml dl) b3W47
            have b4W48 := heap_set3o (g := W46.heap.size) (x := .slice bi mi di) (y := .slice be me de) (z := .slice bl ml dl) hneW48 b4W47
            have sTW48 := graph_store (x := .slice bi mi di) (y := .slice be me de) (z := .slice bl ml dl) hTW47 oTW47 b3W47
            have sUW48 := graph_store (x := .slice bi mi di) (y := .slice be me de) (z := .slice bl ml dl) hUW47 oUW47 b3W47
            have hBW48 := below_set3 (g := W46.heap.size) (x := .slice bi mi di) (y := .slice be me de) (z := .slice bl ml dl) (show w0.heap.size ≤ W46.heap.size by omega) hBW47
            have hzsW48 : (((W47.setCell ⟨W46.heap.size, 0, none⟩ (.slice bi mi di)).setCell ⟨W46.heap.size, 1, none⟩ (.slice be me de)).setCell ⟨W46.heap.size, 2, none⟩ (.slice bl ml dl)).heap.size = W47.heap.size := by simp [World.setCell]
            have cW48_0 := (far3 W47 (W46.heap.size) w.heap.size 0 (.slice bi mi di) (.slice be me de) (.slice bl ml dl) (by omega)).trans cW47_0
            have cW48_1 := (far3 W47 (W46.heap.size) w.heap.size 1 (.slice bi mi di) (.slice be me de) (.slice bl ml dl) (by omega)).trans cW47_1
            have cW48_2 := (far3 W47 (W46.heap.size) w.heap.size 2 (.slice bi mi di) (.slice be me de) (.slice bl ml dl) (by omega)).trans cW47_2
            generalize ((W47.setCell ⟨W46.heap.size, 0, none⟩ (.slice bi mi di)).setCell ⟨W46.heap.size, 1, none⟩ (.slice be me de)).setCell ⟨W46.heap.size, 2, none⟩ (.slice bl ml dl) = W48 at *
            have hTW48 := sTW48.1
            have oTW48 := sTW48.2
            have hUW48 := sUW48.1
            have oUW48 := sUW48.2
            rw [← hzsW48] at hTW48 hUW48
            refine hK.out _ _ ⟨cW48_0, cW48_1, cW48_2⟩ (fun hS => ?_)
            clear hK
            try simp only [Act.put, List.setIfInBounds_toArray, List.set_cons_zero, List.set_cons_succ]
            refine wpAnyH_oneD (i := 7) rfl (by kernel_rfl) (fun K hK => ?_)
            obtain ⟨⟨xW490, xW491, xW492⟩, ⟨yW490, yW491, yW492⟩, hlW49⟩ := blk3 b4W48
            go_simp
            clear xW490 xW491 xW492 yW490 yW491 yW492
            have hneW49 : W46.heap.size ≠ W0.heap.size := by omega
            have b4W49 := heap_set3 (x := .slice pi qi ri) (y := .slice pe qe re) (z := .slice pl ql rl) b4W48
            have b3W49 := heap_set3o (g := W0.heap.size) (x := .slice pi qi ri) (y := .slice pe qe re) (z := .slice pl ql rl) hneW49 b3W48
            have sTW49 := graph_store (x := .slice pi qi ri) (y := .slice pe qe re) (z := .slice pl ql rl) hTW48 oTW48 b4W48
            have sUW49 := graph_store (x := .slice pi qi ri) (y := .slice pe qe re) (z := .slice pl ql rl) hUW48 oUW48 b4W48
            have hBW49 := below_set3 (g := W0.heap.size) (x := .slice pi qi ri) (y := .slice pe qe re) (z := .slice pl ql rl) (show w0.heap.size ≤ W0.heap.size by omega) hBW48
            have hzsW49 : (((W48.setCell ⟨W0.heap.size, 0, none⟩ (.slice pi qi ri)).setCell ⟨W0.heap.size, 1, none⟩ (.slice pe qe re)).setCell ⟨W0.heap.size, 2, none⟩ (.slice pl ql rl)).heap.size = W48.heap.size := by simp [World.setCell]
            have cW49_0 := (far3 W48 (W0.heap.size) w.heap.size 0 (.slice pi qi ri) (.slice pe qe re) (.slice pl ql rl) (by omega)).trans cW48_0
            have cW49_1 := (far3 W48 (W0.heap.size) w.heap.size 1 (.slice pi qi ri) (.slice pe qe re) (.slice pl ql rl) (by omega)).trans cW48_1
            have cW49_2 := (far3 W48 (W0.heap.size) w.heap.size 2 (.slice pi qi ri) (.slice pe qe re) (.slice pl ql rl) (by omega)).trans cW48_2
            generalize ((W48.setCell ⟨W0.heap.size, 0, none⟩ (.slice pi qi ri)).setCell ⟨W0.heap.size, 1, none⟩ (.slice pe qe re)).setCell ⟨W0.heap.size, 2, none⟩ (.slice pl ql rl) = W49 at *
            have hTW49 := sTW49.1
            have oTW49 := sTW49.2
            have hUW49 := sUW49.1
            have oUW49 := sUW49.2
            rw [← hzsW49] at hTW49 hUW49
            refine hK.out _ _ ⟨cW49_0, cW49_1, cW49_2⟩ (fun hS => ?_)
            clear hK
            try simp only [Act.put, List.setIfInBounds_toArray, List.set_cons_zero, List.set_cons_succ]
            refine wpAnyH_done (by kernel_rfl) ?_ _
            clear hS
            go_wp2_with fail
            go_meet
            exact ⟨_, _, bi, mi, di, be, me, de, bl, ml, dl, pi, qi, ri, pe, qe, re, pl, ql, rl, rfl, rfl, b3W49, b4W49, hTW49, hUW49, ⟨cW49_0, cW49_1, cW49_2⟩, hBW49⟩
          · skip
            go_simp
            obtain ⟨W50, hwW50⟩ : ∃ W, W = W45.alloc (.cells #[.slice none 0 0, .slice none 0 0, .slice none 0 0] 26) := ⟨_, rfl⟩
            rw [← hwW50]
            have hbW50 : Below W45.heap.size W45 W50 := by rw [hwW50]; exact below_alW _
            have b3W50 : W50.heap[W45.heap.size]? = some (.cells #[.slice none 0 0, .slice none 0 0, .slice none 0 0] 26 (0, 0)) := by rw [hwW50]; exact heap_alloc_new _ _
            have hsW50 : W45.heap.size + 1 ≤ W50.heap.size := by rw [hwW50]; simp
            clear hwW50
            have cW50_0 := (hbW50.cell (p := ⟨w.heap.size, 0, none⟩) (show w.heap.size < W45.heap.size by omega)).trans cW45_0
            have cW50_1 := (hbW50.cell (p := ⟨w.heap.size, 1, none⟩) (show w.heap.size < W45.heap.size by omega)).trans cW45_1
            have cW50_2 := (hbW50.cell (p := ⟨w.heap.size, 2, none⟩) (show w.heap.size < W45.heap.size by omega)).trans cW45_2
            have hBW50 : Below w0.heap.size w0 W50 := hBW45.trans (hbW50.mono hBW45.size)
            have hzW50 := hBW50.size
            have hzzW50 := hbW50.size
            have hTW50 := (hTW45.below hbW50 (Nat.le_refl _)).up hbW50.size
            have oTW50 := oTW45.below hbW50
            have b4W50 := (hbW50.block _ (lt_of_block b4W45)).trans b4W45
            refine hK.out _ _ ⟨cW50_0, cW50_1, cW50_2⟩ (fun hS => ?_)
            clear hK
            try simp only [Act.put, List.setIfInBounds_toArray, List.set_cons_zero, List.set_cons_succ]
            refine wpAnyH_oneD (i := 3) rfl (by kernel_rfl) (fun K hK => ?_)
            go_simp
            refine (totalP_any ai ae al ni ci ne ce nl cl G W50 B (hG0.below hBW50 hB0) (Nat.le_trans hB0 hBW50.size) (by omega) (by omega) (by omega) 50 kr k4 (by omega)).mono ?_
            rintro e W51 ⟨pi, qi, ri, pe, qe, re, pl, ql, rl, rfl, hUW51, hbW51, vsU, oUW51⟩
            have cW51_0 := (hbW51.cell (p := ⟨w.heap.size, 0, none⟩) (show w.heap.size < W50.heap.size by omega)).trans cW50_0
            have cW51_1 := (hbW51.cell (p := ⟨w.heap.size, 1, none⟩) (show w.heap.size < W50.heap.size by omega)).trans cW50_1
            have cW51_2 := (hbW51.cell (p := ⟨w.heap.size, 2, none⟩) (show w.heap.size < W50.heap.size by omega)).trans cW50_2
            have hBW51 : Below w0.heap.size w0 W51 := hBW50.trans (hbW51.mono hBW50.size)
            have hzW51 := hBW51.size
            have hzzW51 := hbW51.size
            have hTW51 := (hTW50.below hbW51 (Nat.le_refl _)).up hbW51.size
            have oTW51 := oTW50.below hbW51
            have b3W51 := (hbW51.block _ (lt_of_block b3W50)).trans b3W50
            have b4W51 := (hbW51.block _ (lt_of_block b4W50)).trans b4W50
            go_wp2_with fail
            refine hK.out _ _ ⟨cW51_0, cW51_1, cW51_2⟩ (fun hS => ?_)
            clear hK
            try simp only [Act.put, List.setIfInBounds_toArray, List.set_cons_zero, List.set_cons_succ]
            refine wpAnyH_oneD (i := 6) rfl (by kernel_rfl) (fun K hK => ?_)
            obtain ⟨⟨xW520, xW521, xW522⟩, ⟨yW520, yW521, yW522⟩, hlW52⟩ := blk3 b3W51
            go_simp
            clear xW520 xW521 xW522 yW520 yW521 yW522
            have hneW52 : W0.heap.size ≠ W45.heap.size := by omega
            have b3W52 := heap_set3 (x := .slice bi mi di) (y := .slice be me de) (z := .slice bl ml dl) b3W51
            have b4W52 := heap_set3o (g := W45.heap.size) (x := .slice bi mi di) (y := .slice be me de) (z := .slice bl ml dl) hneW52 b4W51
            have sTW52 := graph_store (x := .slice bi mi di) (y := .slice be me de) (z := .slice bl ml dl) hTW51 oTW51 b3W51
            have sUW52 := graph_store (x := .slice bi mi di) (y := .slice be me de) (z := .slice bl ml dl) hUW51 oUW51 b3W51
            have hBW52 := below_set3 (g := W45.heap.size) (x := .slice bi mi di) (y := .slice be me de) (z := .slice bl ml dl) (show w0.heap.size ≤ W45.heap.size by omega) hBW51
            have hzsW52 : (((W51.setCell ⟨W45.heap.size, 0, none⟩ (.slice bi mi di)).setCell ⟨W45.heap.size, 1, none⟩ (.slice be me de)).setCell ⟨W45.heap.size, 2, none⟩ (.slice bl ml dl)).heap.size = W51.heap.size := by simp [World.setCell]
            have cW52_0 := (far3 W51 (W45.heap.size) w.heap.size 0 (.slice bi mi di) (.slice be me de) (.slice bl ml dl) (by omega)).trans cW51_0
            have cW52_1 := (far3 W51 (W45.heap.size) w.heap.size 1 (.slice bi mi di) (.slice be me de) (.slice bl ml dl) (by omega)).trans cW51_1
            have cW52_2 := (far3 W51 (W45.heap.size) w.heap.size 2 (.slice bi mi di) (.slice be me de) (.slice bl ml dl) (by omega)).trans cW51_2
            generalize ((W51.setCell ⟨W45.heap.size, 0, none⟩ (.slice bi mi di)).setCell ⟨W45.heap.size, 1, none⟩ (.slice be me de)).setCell ⟨W45.heap.size, 2, none⟩ (.slice bl ml dl) = W52 at *
            have hTW52 := sTW52.1
            have oTW52 := sTW52.2
            have hUW52 := sUW52.1
            have oUW52 := sUW52.2
            rw [← hzsW52] at hTW52 hUW52
            refine hK.out _ _ ⟨cW52_0, cW52_1, cW52_2⟩ (fun hS => ?_)
            clear hK
            try simp only [Act.put, List.setIfInBounds_toArray, List.set_cons_zero, List.set_cons_succ]
            refine wpAnyH_oneD (i := 7) rfl (by kernel_rfl) (fun K hK => ?_)
            obtain ⟨⟨xW530, xW531, xW532⟩, ⟨yW530, yW531, yW532⟩, hlW53⟩ := blk3 b4W52
            go_simp
            clear xW530 xW531 xW532 yW530 yW531 yW532
            have hneW53 : W45.heap.size ≠ W0.heap.size := by omega
            have b4W53 := heap_set3 (x := .slice pi qi ri) (y := .slice pe qe re) (z := .slice pl ql rl) b4W52
            have b3W53 := heap_set3o (g := W0.heap.size) (x := .slice pi qi ri) (y := .slice pe qe re) (z := .slice pl ql rl) hneW53 b3W52
            have sTW53 := graph_store (x := .slice pi qi ri) (y := .slice pe qe re) (z := .slice pl ql rl) hTW52 oTW52 b4W52
            have sUW53 := graph_store (x := .slice pi qi ri) (y := .slice pe qe re) (z := .slice pl ql rl) hUW52 oUW52 b4W52
            have hBW53 := below_set3 (g := W0.heap.size) (x := .slice pi qi ri) (y := .slice pe qe re) (z := .slice pl ql rl) (show w0.heap.size ≤ W0.heap.size by omega) hBW52
            have hzsW53 : (((W52.setCell ⟨W0.heap.size, 0, none⟩ (.slice pi qi ri)).setCell ⟨W0.heap.size, 1, none⟩ (.slice pe qe re)).setCell ⟨W0.heap.size, 2, none⟩ (.slice pl ql rl)).heap.size = W52.heap.size := by simp [World.setCell]
            have cW53_0 := (far3 W52 (W0.heap.size) w.heap.size 0 (.slice pi qi ri) (.slice pe qe re) (.slice pl ql rl) (by omega)).trans cW52_0
            have cW53_1 := (far3 W52 (W0.heap.size) w.heap.size 1 (.slice pi qi ri) (.slice pe qe re) (.slice pl ql rl) (by omega)).trans cW52_1
            have cW53_2 := (far3 W52 (W0.heap.size) w.heap.size 2 (.slice pi qi ri) (.slice pe qe re) (.slice pl ql rl) (by omega)).trans cW52_2
            generalize ((W52.setCell ⟨W0.heap.size, 0, none⟩ (.slice pi qi ri)).setCell ⟨W0.heap.size, 1, none⟩ (.slice pe qe re)).setCell ⟨W0.heap.size, 2, none⟩ (.slice pl ql rl) = W53 at *
            have hTW53 := sTW53.1
            have oTW53 := sTW53.2
            have hUW53 := sUW53.1
            have oUW53 := sUW53.2
            rw [← hzsW53] at hTW53 hUW53
            refine hK.out _ _ ⟨cW53_0, cW53_1, cW53_2⟩ (fun hS => ?_)
            clear hK
            try simp only [Act.put, List.setIfInBounds_toArray, List.set_cons_zero, List.set_cons_succ]
            refine wpAnyH_done (by kernel_rfl) ?_ _
            clear hS
            go_wp2_with fail
            go_meet
            exact ⟨_, _, bi, mi, di, be, me, de, bl, ml, dl, pi, qi, ri, pe, qe, re, pl, ql, rl, rfl, rfl, b3W53, b4W53, hTW53, hUW53, ⟨cW53_0, cW53_1, cW53_2⟩, hBW53⟩
        · skip
          go_simp
          obtain ⟨W54, hwW54⟩ : ∃ W, W = W44.alloc (.cells #[.slice none 0 0, .slice none 0 0, .slice none 0 0] 26) := ⟨_, rfl⟩
          rw [← hwW54]
          have hbW54 : Below W44.heap.size W44 W54 := by rw [hwW54]; exact below_alW _
          have b3W54 : W54.heap[W44.heap.size]? = some (.cells #[.slice none 0 0, .slice none 0 0, .slice none 0 0] 26 (0, 0)) := by rw [hwW54]; exact heap_alloc_new _ _
          have hsW54 : W44.heap.size + 1 ≤ W54.heap.size := by rw [hwW54]; simp
          clear hwW54
          have cW54_0 := (hbW54.cell (p := ⟨w.heap.size, 0, none⟩) (show w.heap.size < W44.heap.size by omega)).trans cW44_0
          have cW54_1 := (hbW54.cell (p := ⟨w.heap.size, 1, none⟩) (show w.heap.size < W44.heap.size by omega)).trans cW44_1
          have cW54_2 := (hbW54.cell (p := ⟨w.heap.size, 2, none⟩) (show w.heap.size < W44.heap.size by omega)).trans cW44_2
          have hBW54 : Below w0.heap.size w0 W54 := hBW44.trans (hbW54.mono hBW44.size)
          have hzW54 := hBW54.size
          have hzzW54 := hbW54.size
          have b4W54 := (hbW54.block _ (lt_of_block b4W44)).trans b4W44
          refine hK.out _ _ ⟨cW54_0, cW54_1, cW54_2⟩ (fun hS => ?_)
          clear hK
          try simp only [Act.put, List.setIfInBounds_toArray, List.set_cons_zero, List.set_cons_succ]
          refine wpAnyH_oneD (i := 1) rfl (by kernel_rfl) (fun K hK => ?_)
          go_simp
          refine (turnP_any ai ae al ni ci ne ce nl cl G W54 B (hG0.below hBW54 hB0) (Nat.le_trans hB0 hBW54.size) (by omega) (by omega) (by omega) 50 kr k4 (by omega)).mono ?_
          rintro e W55 ⟨bi, mi, di, be, me, de, bl, ml, dl, rfl, hTW55, hbW55, vsT, oTW55⟩
          have cW55_0 := (hbW55.cell (p := ⟨w.heap.size, 0, none⟩) (show w.heap.size < W54.heap.size by omega)).trans cW54_0
          have cW55_1 := (hbW55.cell (p := ⟨w.heap.size, 1, none⟩) (show w.heap.size < W54.heap.size by omega)).trans cW54_1
          have cW55_2 := (hbW55.cell (p := ⟨w.heap.size, 2, none⟩) (show w.heap.size < W54.heap.size by omega)).trans cW54_2
          have hBW55 : Below w0.heap.size w0 W55 := hBW54.trans (hbW55.mono hBW54.size)
          have hzW55 := hBW55.size
          have hzzW55 := hbW55.size
          have b3W55 := (hbW55.block _ (lt_of_block b3W54)).trans b3W54
          have b4W55 := (hbW55.block _ (lt_of_block b4W54)).trans b4W54
          go_wp2_with fail
          refine hK.out _ _ ⟨cW55_0, cW55_1, cW55_2⟩ (fun hS => ?_)
          clear hK
          try simp only [Act.put, List.setIfInBounds_toArray, List.set_cons_zero, List.set_cons_succ]
          refine wpAnyH_oneD (i := 3) rfl (by kernel_rfl) (fun K hK => ?_)
          go_simp
          refine (totalP_any ai ae al ni ci ne ce nl cl G W55 B (hG0.below hBW55 hB0) (Nat.le_trans hB0 hBW55.size) (by omega) (by omega) (by omega) 50 kr k4 (by omega)).mono ?_
          rintro e W56 ⟨pi, qi, ri, pe, qe, re, pl, ql, rl, rfl, hUW56, hbW56, vsU, oUW56⟩
          have cW56_0 := (hbW56.cell (p := ⟨w.heap.size, 0, none⟩) (show w.heap.size < W55.heap.size by omega)).trans cW55_0
          have cW56_1 := (hbW56.cell (p := ⟨w.heap.size, 1, none⟩) (show w.heap.size < W55.heap.size by omega)).trans cW55_1
          have cW56_2 := (hbW56.cell (p := ⟨w.heap.size, 2, none⟩) (show w.heap.size < W55.heap.size by omega)).trans cW55_2
          have hBW56 : Below w0.heap.size w0 W56 := hBW55.trans (hbW56.mono hBW55.size)
          have hzW56 := hBW56.size
          have hzzW56 := hbW56.size
          have hTW56 := (hTW55.below hbW56 (Nat.le_refl _)).up hbW56.size
          have oTW56 := oTW55.below hbW56
          have b3W56 := (hbW56.block _ (lt_of_block b3W55)).trans b3W55
          have b4W56 := (hbW56.block _ (lt_of_block b4W55)).trans b4W55
          go_wp2_with fail
          refine hK.out _ _ ⟨cW56_0, cW56_1, cW56_2⟩ (fun hS => ?_)
          clear hK
          try simp only [Act.put, List.setIfInBounds_toArray, List.set_cons_zero, List.set_cons_succ]
          refine wpAnyH_oneD (i := 6) rfl (by kernel_rfl) (fun K hK => ?_)
          obtain ⟨⟨xW570, xW571, xW572⟩, ⟨yW570, yW571, yW572⟩, hlW57⟩ := blk3 b3W56
          go_simp
          clear xW570 xW571 xW572 yW570 yW571 yW572
          have hneW57 : W0.heap.size ≠ W44.heap.size := by omega
          have b3W57 := heap_set3 (x := .slice bi mi di) (y := .slice be me de) (z := .slice bl ml dl) b3W56
          have b4W57 := heap_set3o (g := W44.heap.size) (x := .slice bi mi di) (y := .slice be me de) (z := .slice bl ml dl) hneW57 b4W56
          have sTW57 := graph_store (x := .slice bi mi di) (y := .slice be me de) (z := .slice bl ml dl) hTW56 oTW56 b3W56
          have sUW57 := graph_store (x := .slice bi mi di) (y := .slice be me de) (z := .slice bl ml dl) hUW56 oUW56 b3W56
          have hBW57 := below_set3 (g := W44.heap.size) (x := .slice bi mi di) (y := .slice be me de) (z := .slice bl ml dl) (show w0.heap.size ≤ W44.heap.size by omega) hBW56
          have hzsW57 : (((W56.setCell ⟨W44.heap.size, 0, none⟩ (.slice bi mi di)).setCell ⟨W44.heap.size, 1, none⟩ (.slice be me de)).setCell ⟨W44.heap.size, 2, none⟩ (.slice bl ml dl)).heap.size = W56.heap.size := by simp [World.setCell]
          have cW57_0 := (far3 W56 (W44.heap.size) w.heap.size 0 (.slice bi mi di) (.slice be me de) (.slice bl ml dl) (by omega)).trans cW56_0
          have cW57_1 := (far3 W56 (W44.heap.size) w.heap.size 1 (.slice bi mi di) (.slice be me de) (.slice bl ml dl) (by omega)).trans cW56_1
          have cW57_2 := (far3 W56 (W44.heap.size) w.heap.size 2 (.slice bi mi di) (.slice be me de) (.slice bl ml dl) (by omega)).trans cW56_2
          generalize ((W56.setCell ⟨W44.heap.size, 0, none⟩ (.slice bi mi di)).setCell ⟨W44.heap.size, 1, none⟩ (.slice be me de)).setCell ⟨W44.heap.size, 2, none⟩ (.slice bl ml dl) = W57 at *
          have hTW57 := sTW57.1
          have oTW57 := sTW57.2
          have hUW57 := sUW57.1
          have oUW57 := sUW57.2
          rw [← hzsW57] at hTW57 hUW57
          refine hK.out _ _ ⟨cW57_0, cW57_1, cW57_2⟩ (fun hS => ?_)
          clear hK
          try simp only [Act.put, List.setIfInBounds_toArray, List.set_cons_zero, List.set_cons_succ]
          refine wpAnyH_oneD (i := 7) rfl (by kernel_rfl) (fun K hK => ?_)
          obtain ⟨⟨xW580, xW581, xW582⟩, ⟨yW580, yW581, yW582⟩, hlW58⟩ := blk3 b4W57
          go_simp
          clear xW580 xW581 xW582 yW580 yW581 yW582
          have hneW58 : W44.heap.size ≠ W0.heap.size := by omega
          have b4W58 := heap_set3 (x := .slice pi qi ri) (y := .slice pe qe re) (z := .slice pl ql rl) b4W57
          have b3W58 := heap_set3o (g := W0.heap.size) (x := .slice pi qi ri) (y := .slice pe qe re) (z := .slice pl ql rl) hneW58 b3W57
          have sTW58 := graph_store (x := .slice pi qi ri) (y := .slice pe qe re) (z := .slice pl ql rl) hTW57 oTW57 b4W57
          have sUW58 := graph_store (x := .slice pi qi ri) (y := .slice pe qe re) (z := .slice pl ql rl) hUW57 oUW57 b4W57
          have hBW58 := below_set3 (g := W0.heap.size) (x := .slice pi qi ri) (y := .slice pe qe re) (z := .slice pl ql rl) (show w0.heap.size ≤ W0.heap.size by omega) hBW57
          have hzsW58 : (((W57.setCell ⟨W0.heap.size, 0, none⟩ (.slice pi qi ri)).setCell ⟨W0.heap.size, 1, none⟩ (.slice pe qe re)).setCell ⟨W0.heap.size, 2, none⟩ (.slice pl ql rl)).heap.size = W57.heap.size := by simp [World.setCell]
          have cW58_0 := (far3 W57 (W0.heap.size) w.heap.size 0 (.slice pi qi ri) (.slice pe qe re) (.slice pl ql rl) (by omega)).trans cW57_0
          have cW58_1 := (far3 W57 (W0.heap.size) w.heap.size 1 (.slice pi qi ri) (.slice pe qe re) (.slice pl ql rl) (by omega)).trans cW57_1
          have cW58_2 := (far3 W57 (W0.heap.size) w.heap.size 2 (.slice pi qi ri) (.slice pe qe re) (.slice pl ql rl) (by omega)).trans cW57_2
          generalize ((W57.setCell ⟨W0.heap.size, 0, none⟩ (.slice pi qi ri)).setCell ⟨W0.heap.size, 1, none⟩ (.slice pe qe re)).setCell ⟨W0.heap.size, 2, none⟩ (.slice pl ql rl) = W58 at *
          have hTW58 := sTW58.1
          have oTW58 := sTW58.2
          have hUW58 := sUW58.1
          have oUW58 := sUW58.2
          rw [← hzsW58] at hTW58 hUW58
          refine hK.out _ _ ⟨cW58_0, cW58_1, cW58_2⟩ (fun hS => ?_)
          clear hK
          try simp only [Act.put, List.setIfInBounds_toArray, List.set_cons_zero, List.set_cons_succ]
          refine wpAnyH_done (by kernel_rfl) ?_ _
          clear hS
          go_wp2_with fail
          go_meet
          exact ⟨_, _, bi, mi, di, be, me, de, bl, ml, dl, pi, qi, ri, pe, qe, re, pl, ql, rl, rfl, rfl, b3W58, b4W58, hTW58, hUW58, ⟨cW58_0, cW58_1, cW58_2⟩, hBW58⟩
    case rest =>
      obtain ⟨g3, g4, bi, mi, di, be, me, de, bl, ml, dl, pi, qi, ri, pe, qe, re, pl, ql, rl, rfl, rfl, b3, b4, hT, hU, ⟨c0, c1, c2⟩, hBc⟩ := hcut
      obtain ⟨l1, l2, l3⟩ := HL2.out
      obtain ⟨m1, m2, m3⟩ := hT.lens
      obtain ⟨q1, q2, q3⟩ := hU.lens
      dsimp only at m1 m2 m3 q1 q2 q3
      rw [turnE_len] at m2
      rw [totalE_len] at q2
      have hmi : mi ≤ 200 := by omega
      have hme : me ≤ 200 := by omega
      have hml : ml ≤ 400 := by omega
      have hqi : qi ≤ 200 := by omega
      have hqe : qe ≤ 200 := by omega
      have hql : ql ≤ 400 := by omega
      have hq50 : qe * 50 ≤ 1000000000 := by omega
      have i1 : G.init.length ≤ 200 := by omega
      have i2 : G.edges.length ≤ 200 := by omega
      have i3 : G.labels.length ≤ 400 := by omega
      have hTr : ∀ l ∈ turnE G.edges, l.length ≤ 1000000000 := turnE_bd kr (by omega)
      have hUr : ∀ l ∈ totalE G.edges, l.length ≤ 50 := tot_bd kr
      obtain ⟨⟨t0, t1, t2⟩, _, hz3⟩ := blk3 b3
      obtain ⟨⟨vu0, vu1, vu2⟩, _, hz4⟩ := blk3 b4
      have hGc := hG0.below hBc hB0
      have HB1 := Lib.hid (hb0.trans (hBc.mono (by omega)))
      have hzg' : w.heap.size < wc.heap.size := by have := hBc.size; omega
      have hB1 : B ≤ wc.heap.size := by have := hBc.size; omega
      have HQ2 := Lib.hid q2
      clear b3 b4 hBc hG0 hzg hB0 hba hza hb0 l1 l2 l3 m1 m2 m3 q1 q2 q3 HL2 ga0 ga1 ga2
      obtain ⟨w0, rfl⟩ : ∃ W, W = wc := ⟨_, rfl⟩
      have g0 := c0
      have g1 := c1
      have g2 := c2
      have hzg := hzg'
      have hB0 := hB1
      have hG0 := hGc
      clear c0 c1 c2 hzg' hB1 hGc
      go_wp2_with fail
      have hbd : Below w0.heap.size w0 w0.drew := Below.drew (Below.refl _ _)
      refine wp_region_held_drew (S := fun w' => w'.cell? ⟨w.heap.size, 0, none⟩ = some (.slice ai ni ci) ∧ w'.cell? ⟨w.heap.size, 1, none⟩ = some (.slice ae ne ce) ∧ w'.cell? ⟨w.heap.size, 2, none⟩ = some (.slice al nl cl) ∧ w'.cell? ⟨g3, 0, none⟩ = some (.slice bi mi di) ∧ w'.cell? ⟨g3, 1, none⟩ = some (.slice be me de) ∧ w'.cell? ⟨g3, 2, none⟩ = some (.slice bl ml dl) ∧ w'.cell? ⟨g4, 0, none⟩ = some (.slice pi qi ri) ∧ w'.cell? ⟨g4, 1, none⟩ = some (.slice pe qe re) ∧ w'.cell? ⟨g4, 2, none⟩ = some (.slice pl ql rl)) (by kernel_rfl) ⟨g0, g1, g2, t0, t1, t2, vu0, vu1, vu2⟩ (fun hS => ?_)
      refine wpAnyH_takeD (i := 0) (v := ?_) rfl (by kernel_rfl) (by kernel_rfl) (by kernel_rfl) (fun _ _ _ h => h) (Or.inl ⟨by kernel_rfl, ?_⟩) hS ?_
      rotate_left 1
      · (intro w' hSw; (try dsimp only at hSw); go_simp; try (with_reducible rfl))
      try simp only [Act.put, List.setIfInBounds_toArray, List.set_cons_zero, List.set_cons_succ]
      refine wpAnyH_takeD (i := 1) (v := ?_) rfl (by kernel_rfl) (by kernel_rfl) (by kernel_rfl) (fun _ _ _ h => h) (Or.inl ⟨by kernel_rfl, ?_⟩) hS ?_
      rotate_left 1
      · (intro w' hSw; (try dsimp only at hSw); go_simp; try (with_reducible rfl))
      try simp only [Act.put, List.setIfInBounds_toArray, List.set_cons_zero, List.set_cons_succ]
      refine wpAnyH_oneD (i := 2) rfl (by kernel_rfl) (fun K hK => ?_)
      go_simp
      refine (turnR_any ai ae al ni ci ne ce nl cl G _ B (hG0.below hbd hB0) (Nat.le_trans hB0 hbd.size) (by omega) (by omega) (by omega) 50 kr k4 (by omega)).mono ?_
      rintro e Rw1 ⟨xi, yi, zi, xe, ye, ze, xl, yl, zl, rfl, hX, hbRw1', _⟩
      have hbRw1 : Below w0.heap.size w0 Rw1 := hbd.trans (hbRw1'.mono hbd.size)
      have hzRw1 := hbRw1.size
      have rRw1_0 := (hbRw1.cell (p := ⟨w.heap.size, 0, none⟩) hzg).trans g0
      have rRw1_1 := (hbRw1.cell (p := ⟨w.heap.size, 1, none⟩) hzg).trans g1
      have rRw1_2 := (hbRw1.cell (p := ⟨w.heap.size, 2, none⟩) hzg).trans g2
      have rRw1_3 := (hbRw1.cell (p := ⟨g3, 0, none⟩) hz3).trans t0
      have rRw1_4 := (hbRw1.cell (p := ⟨g3, 1, none⟩) hz3).trans t1
      have rRw1_5 := (hbRw1.cell (p := ⟨g3, 2, none⟩) hz3).trans t2
      have rRw1_6 := (hbRw1.cell (p := ⟨g4, 0, none⟩) hz4).trans vu0
      have rRw1_7 := (hbRw1.cell (p := ⟨g4, 1, none⟩) hz4).trans vu1
      have rRw1_8 := (hbRw1.cell (p := ⟨g4, 2, none⟩) hz4).trans vu2
      go_wp2_with fail
      refine hK.out _ _ ⟨rRw1_0, rRw1_1, rRw1_2, rRw1_3, rRw1_4, rRw1_5, rRw1_6, rRw1_7, rRw1_8⟩ (fun hS => ?_)
      clear hK
      try simp only [Act.put, List.setIfInBounds_toArray, List.set_cons_zero, List.set_cons_succ]
      refine wpAnyH_oneD (i := 3) rfl (by kernel_rfl) (fun K hK => ?_)
      go_simp
      refine (sameR_any bi be bl mi di me de ml dl xi xe xl yi zi ye ze yl zl ⟨G.init, turnE G.edges, G.labels⟩ ⟨G.init, turnE G.edges, G.labels⟩ _ _ ((hT.below hbRw1 (Nat.le_refl _)).up hbRw1.size) hX (Nat.le_refl _) (by omega) (by omega) (by omega) (fun l hl => Nat.le_trans (hTr l hl) (by omega))).mono ?_
      rw [sameG_refl]
      rintro e Rw2 ⟨rfl, hbRw2'⟩
      have hbRw2 : Below w0.heap.size w0 Rw2 := hbRw1.trans (hbRw2'.mono hbRw1.size)
      have hzRw2 := hbRw2.size
      have rRw2_0 := (hbRw2.cell (p := ⟨w.heap.size, 0, none⟩) hzg).trans g0
      have rRw2_1 := (hbRw2.cell (p := ⟨w.heap.size, 1, none⟩) hzg).trans g1
      have rRw2_2 := (hbRw2.cell (p := ⟨w.heap.size, 2, none⟩) hzg).trans g2
      have rRw2_3 := (hbRw2.cell (p := ⟨g3, 0, none⟩) hz3).trans t0
      have rRw2_4 := (hbRw2.cell (p := ⟨g3, 1, none⟩) hz3).trans t1
      have rRw2_5 := (hbRw2.cell (p := ⟨g3, 2, none⟩) hz3).trans t2
      have rRw2_6 := (hbRw2.cell (p := ⟨g4, 0, none⟩) hz4).trans vu0
      have rRw2_7 := (hbRw2.cell (p := ⟨g4, 1, none⟩) hz4).trans vu1
      have rRw2_8 := (hbRw2.cell (p := ⟨g4, 2, none⟩) hz4).trans vu2
      clear hX
      go_wp2_with fail
      refine hK.out _ _ ⟨rRw2_0, rRw2_1, rRw2_2, rRw2_3, rRw2_4, rRw2_5, rRw2_6, rRw2_7, rRw2_8⟩ (fun hS => ?_)
      clear hK
      try simp only [Act.put, List.setIfInBounds_toArray, List.set_cons_zero, List.set_cons_succ]
      refine wpAnyH_takeD (i := 4) (v := ?_) rfl (by kernel_rfl) (by kernel_rfl) (by kernel_rfl) (fun _ _ _ h => h) (Or.inl ⟨by kernel_rfl, ?_⟩) hS ?_
      rotate_left 1
      · (intro w' hSw; (try dsimp only at hSw); go_simp; try (with_reducible rfl))
      try simp only [Act.put, List.setIfInBounds_toArray, List.set_cons_zero, List.set_cons_succ]
      refine wpAnyH_takeD (i := 5) (v := ?_) rfl (by kernel_rfl) (by kernel_rfl) (by kernel_rfl) (fun _ _ _ h => h) (Or.inl ⟨by kernel_rfl, ?_⟩) hS ?_
      rotate_left 1
      · (intro w' hSw; (try dsimp only at hSw); go_simp; try (with_reducible rfl))
      try simp only [Act.put, List.setIfInBounds_toArray, List.set_cons_zero, List.set_cons_succ]
      refine wpAnyH_takeD (i := 6) (v := ?_) rfl (by kernel_rfl) (by kernel_rfl) (by kernel_rfl) (fun _ _ _ h => h) (Or.inl ⟨by kernel_rfl, ?_⟩) hS ?_
      rotate_left 1
      · (intro w' hSw; (try dsimp only at hSw); go_simp; try (with_reducible rfl))
      try simp only [Act.put, List.setIfInBounds_toArray, List.set_cons_zero, List.set_cons_succ]
      refine wpAnyH_takeD (i := 7) (v := ?_) rfl (by kernel_rfl) (by kernel_rfl) (by kernel_rfl) (fun _ _ _ h => h) (Or.inl ⟨by kernel_rfl, ?_⟩) hS ?_
      rotate_left 1
      · (intro w' hSw; (try dsimp only at hSw); go_simp; try (with_reducible rfl))
      try simp only [Act.put, List.setIfInBounds_toArray, List.set_cons_zero, List.set_cons_succ]
      refine wpAnyH_oneD (i := 8) rfl (by kernel_rfl) (fun K hK => ?_)
      rw [if_pos (by kernel_rfl)]
      go_simp
      refine (totalR_any ai ae al ni ci ne ce nl cl G _ B (hG0.below hbRw2 hB0) (Nat.le_trans hB0 hbRw2.size) (by omega) (by omega) (by omega) 50 kr k4 (by omega)).mono ?_
      rintro e Rw3 ⟨xi', yi', zi', xe', ye', ze', xl', yl', zl', rfl, hX, hbRw3', _⟩
      have hbRw3 : Below w0.heap.size w0 Rw3 := hbRw2.trans (hbRw3'.mono hbRw2.size)
      have hzRw3 := hbRw3.size
      have rRw3_0 := (hbRw3.cell (p := ⟨w.heap.size, 0, none⟩) hzg).trans g0
      have rRw3_1 := (hbRw3.cell (p := ⟨w.heap.size, 1, none⟩) hzg).trans g1
      have rRw3_2 := (hbRw3.cell (p := ⟨w.heap.size, 2, none⟩) hzg).trans g2
      have rRw3_3 := (hbRw3.cell (p := ⟨g3, 0, none⟩) hz3).trans t0
      have rRw3_4 := (hbRw3.cell (p := ⟨g3, 1, none⟩) hz3).trans t1
      have rRw3_5 := (hbRw3.cell (p := ⟨g3, 2, none⟩) hz3).trans t2
      have rRw3_6 := (hbRw3.cell (p := ⟨g4, 0, none⟩) hz4).trans vu0
      have rRw3_7 := (hbRw3.cell (p := ⟨g4, 1, none⟩) hz4).trans vu1
      have rRw3_8 := (hbRw3.cell (p := ⟨g4, 2, none⟩) hz4).trans vu2
      go_wp2_with fail
      refine hK.out _ _ ⟨rRw3_0, rRw3_1, rRw3_2, rRw3_3, rRw3_4, rRw3_5, rRw3_6, rRw3_7, rRw3_8⟩ (fun hS => ?_)
      clear hK
      try simp only [Act.put, List.setIfInBounds_toArray, List.set_cons_zero, List.set_cons_succ]
      refine wpAnyH_oneD (i := 9) rfl (by kernel_rfl) (fun K hK => ?_)
      rw [if_pos (by kernel_rfl)]
      go_simp
      refine (sameR_any pi pe pl qi ri qe re ql rl xi' xe' xl' yi' zi' ye' ze' yl' zl' ⟨G.init, totalE G.edges, G.labels⟩ ⟨G.init, totalE G.edges, G.labels⟩ _ _ ((hU.below hbRw3 (Nat.le_refl _)).up hbRw3.size) hX (Nat.le_refl _) (by omega) (by omega) (by omega) (fun l hl => Nat.le_trans (hUr l hl) (by omega))).mono ?_
      rw [sameG_refl]
      rintro e Rw4 ⟨rfl, hbRw4'⟩
      have hbRw4 : Below w0.heap.size w0 Rw4 := hbRw3.trans (hbRw4'.mono hbRw3.size)
      have hzRw4 := hbRw4.size
      have rRw4_0 := (hbRw4.cell (p := ⟨w.heap.size, 0, none⟩) hzg).trans g0
      have rRw4_1 := (hbRw4.cell (p := ⟨w.heap.size, 1, none⟩) hzg).trans g1
      have rRw4_2 := (hbRw4.cell (p := ⟨w.heap.size, 2, none⟩) hzg).trans g2
      have rRw4_3 := (hbRw4.cell (p := ⟨g3, 0, none⟩) hz3).trans t0
      have rRw4_4 := (hbRw4.cell (p := ⟨g3, 1, none⟩) hz3).trans t1
      have rRw4_5 := (hbRw4.cell (p := ⟨g3, 2, none⟩) hz3).trans t2
      have rRw4_6 := (hbRw4.cell (p := ⟨g4, 0, none⟩) hz4).trans vu0
      have rRw4_7 := (hbRw4.cell (p := ⟨g4, 1, none⟩) hz4).trans vu1
      have rRw4_8 := (hbRw4.cell (p := ⟨g4, 2, none⟩) hz4).trans vu2
      clear hX
      go_wp2_with fail
      refine hK.out _ _ ⟨rRw4_0, rRw4_1, rRw4_2, rRw4_3, rRw4_4, rRw4_5, rRw4_6, rRw4_7, rRw4_8⟩ (fun hS => ?_)
      clear hK
      try simp only [Act.put, List.setIfInBounds_toArray, List.set_cons_zero, List.set_cons_succ]
      refine wpAnyH_takeD (i := 10) (v := ?_) rfl (by kernel_rfl) (by kernel_rfl) (by kernel_rfl) (fun _ _ _ h => h) (Or.inl ⟨by kernel_rfl, ?_⟩) hS ?_
      rotate_left 1
      · (intro w' hSw; (try dsimp only at hSw); go_simp; try (with_reducible rfl))
      try simp only [Act.put, List.setIfInBounds_toArray, List.set_cons_zero, List.set_cons_succ]
      refine wpAnyH_takeD (i := 11) (v := ?_) rfl (by kernel_rfl) (by kernel_rfl) (by kernel_rfl) (fun _ _ _ h => h) (Or.inl ⟨by kernel_rfl, ?_⟩) hS ?_
      rotate_left 1
      · (intro w' hSw; (try dsimp only at hSw); go_simp; try (with_reducible rfl))
      try simp only [Act.put, List.setIfInBounds_toArray, List.set_cons_zero, List.set_cons_succ]
      refine wpAnyH_done (by kernel_rfl) ?_ _
      clear hS
      have HBr := Lib.hid hbRw4
      have hUw := (hU.below hbRw4 (Nat.le_refl _)).up hbRw4.size
      have HBv := Lib.hid (HB1.out.trans (hbRw4.mono (by omega)))
      obtain ⟨wv, rfl⟩ : ∃ W, W = Rw4 := ⟨_, rfl⟩
      have hz4v : g4 < wv.heap.size := by have := hbRw4.size; omega
      have hzv : w0.heap.size ≤ wv.heap.size := hbRw4.size
      go_wp2
      go_loop [5] (fun i => ∃ k : Nat, k ≤ qe ∧ i = .int .i64 k) (fun i => qe - (intOf i).toNat)
      case atStart => exact ⟨0, by omega, rfl⟩
      case round =>
        obtain ⟨k, hk, rfl⟩ := hrel
        have v0 := (hbRw4.cell (p := ⟨g4, 0, none⟩) hz4).trans vu0
        have v1 := (hbRw4.cell (p := ⟨g4, 1, none⟩) hz4).trans vu1
        have v2 := (hbRw4.cell (p := ⟨g4, 2, none⟩) hz4).trans vu2
        by_cases hlt : k < qe
        · have hkE : k < (totalE G.edges).length := by rw [totalE_len, ← HQ2.out]; exact hlt
          obtain ⟨b, o, A', n', c', rfl, hbb, hrc, hrow⟩ := hUw.he.at_ (ed_take hkE)
          have hne : (totalE G.edges)[k] ≠ [] := by simp only [totalE, List.getElem_map, List.getElem_range]; exact totRow_ne _ _ _
          have hnl : n' = (totalE G.edges)[k].length := by have := hrow.len; rw [ncells_len] at this; omega
          have hn0 : ((n' : Int) == 0) = false := by
            rw [beq_eq_false_iff_ne]
            intro h0
            exact hne (List.eq_nil_of_length_eq_zero (by omega))
          clear hrow hnl hne
          go_wp2
          go_round
          case rel => exact ⟨k + 1, by omega, by go_num⟩
          case measure => simp [intOf]; omega
        · clear hUw
          have hU0 := (hU.below hbRw4 (Nat.le_refl _)).up hbRw4.size
          clear hU g0 g1 g2 t0 t1 t2 vu0 vu1 vu2
          have hU := hU0
          have vu0 := v0
          have vu1 := v1
          have vu2 := v2
          clear hU0 v0 v1 v2
          have hz4 := hz4v
          go_wp2_with fail
          have hbd : Below wv.heap.size wv wv.drew := Below.drew (Below.refl _ _)
          refine wp_region_held_drew (S := fun w' => w'.cell? ⟨g4, 0, none⟩ = some (.slice pi qi ri) ∧ w'.cell? ⟨g4, 1, none⟩ = some (.slice pe qe re) ∧ w'.cell? ⟨g4, 2, none⟩ = some (.slice pl ql rl)) (by kernel_rfl) ⟨vu0, vu1, vu2⟩ (fun hS => ?_)
          refine wpAnyH_takeD (i := 0) (v := ?_) rfl (by kernel_rfl) (by kernel_rfl) (by kernel_rfl) (fun _ _ _ h => h) (Or.inl ⟨by kernel_rfl, ?_⟩) hS ?_
          rotate_left 1
          · (intro w' hSw; (try dsimp only at hSw); go_simp; try (with_reducible rfl))
          try simp only [Act.put, List.setIfInBounds_toArray, List.set_cons_zero, List.set_cons_succ]
          refine wpAnyH_takeD (i := 2) (v := ?_) rfl (by kernel_rfl) (by kernel_rfl) (by kernel_rfl) (fun _ _ _ h => h) (Or.inl ⟨by kernel_rfl, ?_⟩) hS ?_
          rotate_left 1
          · (intro w' hSw; (try dsimp only at hSw); go_simp; try (with_reducible rfl))
          try simp only [Act.put, List.setIfInBounds_toArray, List.set_cons_zero, List.set_cons_succ]
          refine wpAnyH_oneD (i := 1) rfl (by kernel_rfl) (fun K hK => ?_)
          go_simp
          refine (totalP_any pi pe pl qi ri qe re ql rl ⟨G.init, totalE G.edges, G.labels⟩ _ _ ((hU.below hbd (Nat.le_refl _)).up hbd.size) (Nat.le_refl _) (by omega) (by omega) (by omega) 50 hUr hq50 (by omega)).mono ?_
          rintro e Sw1 ⟨xi, yi, zi, xe, ye, ze, xl, yl, zl, rfl, hX, hbSw1', _⟩
          have hbSw1 : Below wv.heap.size wv Sw1 := hbd.trans (hbSw1'.mono hbd.size)
          have hzSw1 := hbSw1.size
          have sSw1_0 := (hbSw1.cell (p := ⟨g4, 0, none⟩) hz4).trans vu0
          have sSw1_1 := (hbSw1.cell (p := ⟨g4, 1, none⟩) hz4).trans vu1
          have sSw1_2 := (hbSw1.cell (p := ⟨g4, 2, none⟩) hz4).trans vu2
          have hX' : GrRd Sw1 Sw1.heap.size xi yi zi xe ye ze xl yl zl ⟨G.init, totalE G.edges, G.labels⟩ := by have := hX; dsimp only at this; rw [totalE_tot] at this; exact this
          obtain ⟨y1, y2, y3⟩ := hX'.lens
          dsimp only at y1 y2 y3
          have y4 : yi ≤ 200 := by rw [y1]; omega
          have y5 : ye ≤ 200 := by rw [y2, totalE_len]; omega
          have y6 : yl ≤ 400 := by rw [y3]; omega
          clear y1 y2 y3 hX
          go_wp2_with fail
          refine hK.out _ _ ⟨sSw1_0, sSw1_1, sSw1_2⟩ (fun hS => ?_)
          clear hK
          try simp only [Act.put, List.setIfInBounds_toArray, List.set_cons_zero, List.set_cons_succ]
          refine wpAnyH_oneD (i := 3) rfl (by kernel_rfl) (fun K hK => ?_)
          go_simp
          refine (sameR_any xi xe xl yi zi ye ze yl zl pi pe pl qi ri qe re ql rl ⟨G.init, totalE G.edges, G.labels⟩ ⟨G.init, totalE G.edges, G.labels⟩ _ _ hX' ((hU.below hbSw1 (Nat.le_refl _)).up hbSw1.size) (Nat.le_refl _) (by omega) (by omega) (by omega) (fun l hl => Nat.le_trans (hUr l hl) (by omega))).mono ?_
          rw [sameG_refl]
          rintro e Sw2 ⟨rfl, hbSw2'⟩
          have hbSw2 : Below wv.heap.size wv Sw2 := hbSw1.trans (hbSw2'.mono hbSw1.size)
          have hzSw2 := hbSw2.size
          have sSw2_0 := (hbSw2.cell (p := ⟨g4, 0, none⟩) hz4).trans vu0
          have sSw2_1 := (hbSw2.cell (p := ⟨g4, 1, none⟩) hz4).trans vu1
          have sSw2_2 := (hbSw2.cell (p := ⟨g4, 2, none⟩) hz4).trans vu2
          go_wp2_with fail
          refine hK.out _ _ ⟨sSw2_0, sSw2_1, sSw2_2⟩ (fun hS => ?_)
          clear hK
          try simp only [Act.put, List.setIfInBounds_toArray, List.set_cons_zero, List.set_cons_succ]
          refine wpAnyH_takeD (i := 4) (v := ?_) rfl (by kernel_rfl) (by kernel_rfl) (by kernel_rfl) (fun _ _ _ h => h) (Or.inl ⟨by kernel_rfl, ?_⟩) hS ?_
          rotate_left 1
          · (intro w' hSw; (try dsimp only at hSw); go_simp; try (with_reducible rfl))
          try simp only [Act.put, List.setIfInBounds_toArray, List.set_cons_zero, List.set_cons_succ]
          refine wpAnyH_oneD (i := 5) rfl (by kernel_rfl) (fun K hK => ?_)
          rw [if_pos (by kernel_rfl)]
          go_simp
          refine (awake_any _).mono ?_
          rintro e Sw3 ⟨rfl, hbSw3'⟩
          have hbSw3 : Below wv.heap.size wv Sw3 := hbSw2.trans (hbSw3'.mono hbSw2.size)
          have hzSw3 := hbSw3.size
          have sSw3_0 := (hbSw3.cell (p := ⟨g4, 0, none⟩) hz4).trans vu0
          have sSw3_1 := (hbSw3.cell (p := ⟨g4, 1, none⟩) hz4).trans vu1
          have sSw3_2 := (hbSw3.cell (p := ⟨g4, 2, none⟩) hz4).trans vu2
          go_wp2_with fail
          refine hK.out _ _ ⟨sSw3_0, sSw3_1, sSw3_2⟩ (fun hS => ?_)
          clear hK
          try simp only [Act.put, List.setIfInBounds_toArray, List.set_cons_zero, List.set_cons_succ]
          refine wpAnyH_takeD (i := 6) (v := ?_) rfl (by kernel_rfl) (by kernel_rfl) (by kernel_rfl) (fun _ _ _ h => h) (Or.inl ⟨by kernel_rfl, ?_⟩) hS ?_
          rotate_left 1
          · (intro w' hSw; (try dsimp only at hSw); go_simp; try (with_reducible rfl))
          try simp only [Act.put, List.setIfInBounds_toArray, List.set_cons_zero, List.set_cons_succ]
          refine wpAnyH_takeD (i := 7) (v := ?_) rfl (by kernel_rfl) (by kernel_rfl) (by kernel_rfl) (fun _ _ _ h => h) (Or.inl ⟨by kernel_rfl, ?_⟩) hS ?_
          rotate_left 1
          · (intro w' hSw; (try dsimp only at hSw); go_simp; try (with_reducible rfl))
          try simp only [Act.put, List.setIfInBounds_toArray, List.set_cons_zero, List.set_cons_succ]
          refine wpAnyH_done (by kernel_rfl) ?_ _
          go_wp2
          go_ret
          exact ⟨rfl, HBv.out.trans (hbSw3.mono (by have := HBv.out.size; omega))⟩
  · clear HW0
    go_wp2_with fail
    refine (awake_any _).mono ?_
    rintro e wc ⟨rfl, hbc⟩
    go_wp2
    go_ret
    exact ⟨rfl, hb0.trans ((hba.trans (hbc.mono hza)).mono (by omega))⟩
end Go.Proofs.Ytfpncpjdmgfkbaa
