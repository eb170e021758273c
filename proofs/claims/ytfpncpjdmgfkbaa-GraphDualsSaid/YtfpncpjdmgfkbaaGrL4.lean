/- The law GraphDuals. -/
import Derived.Test.YtfpncpjdmgfkbaaGrL0
namespace Go.Proofs.Ytfpncpjdmgfkbaa
open Go.RowKit

theorem filter_one (b : Nat) : ∀ k, (List.range k).filter (fun i => decide (i = b)) = if b < k then [b] else []
  | 0 => by simp
  | k + 1 => by
    rw [List.range_succ, List.filter_append, filter_one b k, List.filter_cons, List.filter_nil]
    rcases Nat.lt_trichotomy b k with h | h | h
    · simp [h, show ¬ k = b by omega, show b < k + 1 by omega]
    · subst h; simp
    · simp [show ¬ b < k by omega, show ¬ k = b by omega, show ¬ b < k + 1 by omega]
theorem goals_one {n b : Nat} (hb : b < n) : goalsG n ((List.replicate n false).set b true) = [(b : Int)] := by
  have h : (List.range (min ((List.replicate n false).set b true).length n)).filter (fun i => ((List.replicate n false).set b true).getD i false) = [b] := by
    have e : min ((List.replicate n false).set b true).length n = n := by simp
    have f := filter_one b n
    rw [if_pos hb] at f
    rw [e, ← f]
    refine List.filter_congr (fun i hi => ?_)
    have hi := List.mem_range.1 hi
    by_cases e : b = i
    · subst e; simp [List.getD, hb]
    · rw [show decide (i = b) = false by simp; omega]
      rw [List.getD_eq_getElem?_getD, List.getElem?_set_ne e]; simp [hi]
  rw [goalsG, h]; rfl
/-- The three answers of a pair of nodes are one. -/
theorem duals {E : List (List Nd)} {n a b : Nat} (hn : n = E.length) (ha : a < n) (hb : b < n) {gl : List Bool} (hgl : gl = (List.replicate n false).set b true) :
    (backG n E gl).getD a false = (reachG n E [(a : Int)]).getD b false ∧ (reachG n (turnE E) [(b : Int)]).getD a false = (reachG n E [(a : Int)]).getD b false ∧
      (pathG n (farG n (turnE E) (goalsG n gl)) E [(a : Int)]).2 = (reachG n E [(a : Int)]).getD b false := by
  subst hn
  have hg : goalsG E.length gl = [(b : Int)] := by rw [hgl, goals_one hb]
  have h2 := reach_turn (E := E) ha hb
  have na : isNd E.length (a : Int) = true := isNd_iff.2 ⟨by omega, by omega⟩
  refine ⟨by rw [backG, hg, h2], h2, ?_⟩
  rw [hg, ← h2, Bool.eq_iff_iff]
  have h3 := far_rch (n := E.length) (T := turnE E) (goals := [(b : Int)]) (turn_TOk E) ⟨fun i hi => by simp at hi; subst hi; exact isNd_iff.2 ⟨by omega, by omega⟩, by simp⟩ ha
  have h4 := reachG_iff (E := turnE E) (from_ := [(b : Int)]) na
  rw [Int.toNat_natCast] at h4
  rw [h4, ← h3]
  generalize farG E.length (turnE E) [(b : Int)] = D
  by_cases hc : 0 ≤ D.getD a 0
  · have hb : bestG E.length D [(a : Int)] = (a : Int) := by
      rw [bestG, List.foldl_cons, List.foldl_nil, bestStep, if_pos ⟨⟨na, by rw [Int.toNat_natCast]; exact hc⟩, .inl (by omega)⟩]
    rw [pathG, hb, if_neg (by omega)]
    simpa using hc
  · have hb : bestG E.length D [(a : Int)] = -1 := by
      rw [bestG, List.foldl_cons, List.foldl_nil, bestStep, if_neg (fun h => hc (by have := h.1.2; rw [Int.toNat_natCast] at this; exact this))]
    rw [pathG, hb, if_pos (by omega)]
    simpa using hc

set_option maxHeartbeats 2000000 in
set_option maxRecDepth 100000 in
theorem GraphDuals_any (ai ae al : Option Addr) (ni ci ne ce nl cl : Nat) (a b : Int) (G : Gph) (w : World) (B : Nat) (hG : GrRd w B ai ni ci ae ne ce al nl cl G) (hB : B ≤ w.heap.size) :
    Calls Try.prog 9 #[.agg #[.slice ai ni ci, .slice ae ne ce, .slice al nl cl], .int .i64 a, .int .i64 b] w (Tru w true) := by
  obtain ⟨w0, hw0, hb0, hz0, g0, g1, g2⟩ := boxed3 w (.slice ai ni ci) (.slice ae ne ce) (.slice al nl cl) 26
  have HW0 := Lib.hid hw0
  have hG0 := hG.below hb0 hB
  have hB0 : B ≤ w0.heap.size := by omega
  have hzg : w.heap.size < w0.heap.size := by omega
  clear hw0 hG hz0
  go_enter Try.func9, Try.ntmps9
  go_wp2_with fail
  rw [← HW0.out]
  refine (heavy_any ai ae al ni ci ne ce nl cl G w0 B hG0 hB0).mono ?_
  rintro e wa ⟨rfl, hba⟩
  have hza := hba.size
  have ga0 := (hba.cell (p := ⟨w.heap.size, 0, none⟩) hzg).trans g0
  have ga1 := (hba.cell (p := ⟨w.heap.size, 1, none⟩) hzg).trans g1
  have ga2 := (hba.cell (p := ⟨w.heap.size, 2, none⟩) hzg).trans g2
  clear HW0
  cases hv : heavyG G
  · go_wp2_with fail
    refine (nodeR_any ai ae al ni ci ne ce nl cl a wa).mono ?_
    rintro e wb ⟨rfl, hbb'⟩
    have hbb : Below w0.heap.size w0 wb := hba.trans (hbb'.mono hza)
    have hzb := hbb.size
    have gb0 := (hbb.cell (p := ⟨w.heap.size, 0, none⟩) hzg).trans g0
    have gb1 := (hbb.cell (p := ⟨w.heap.size, 1, none⟩) hzg).trans g1
    have gb2 := (hbb.cell (p := ⟨w.heap.size, 2, none⟩) hzg).trans g2
    clear ga0 ga1 ga2
    cases hna : isNd ne a
    · go_wp2_with fail
      refine (awake_any _).mono ?_
      rintro e wc ⟨rfl, hbc⟩
      go_wp2
      go_ret
      exact ⟨rfl, hb0.trans ((hbb.trans (hbc.mono hzb)).mono (by omega))⟩
    · go_wp2_with fail
      refine (nodeR_any ai ae al ni ci ne ce nl cl b wb).mono ?_
      rintro e wc ⟨rfl, hbc'⟩
      have hbc : Below w0.heap.size w0 wc := hbb.trans (hbc'.mono hzb)
      have hzc := hbc.size
      have gc0 := (hbc.cell (p := ⟨w.heap.size, 0, none⟩) hzg).trans g0
      have gc1 := (hbc.cell (p := ⟨w.heap.size, 1, none⟩) hzg).trans g1
      have gc2 := (hbc.cell (p := ⟨w.heap.size, 2, none⟩) hzg).trans g2
      clear gb0 gb1 gb2
      cases hnb : isNd ne b
      · go_wp2_with fail
        refine (awake_any _).mono ?_
        rintro e wd ⟨rfl, hbd⟩
        go_wp2
        go_ret
        exact ⟨rfl, hb0.trans ((hbc.trans (hbd.mono hzc)).mono (by omega))⟩
      · obtain ⟨k1, k2, k3, kr, k4⟩ := lens_bd hG0 hv
        obtain ⟨a, rfl, han⟩ := isNd_nat hna
        obtain ⟨b, rfl, hbn⟩ := isNd_nat hnb
        have hmk := run_make_row' (P := Try.prog) 35 4 (.bool false) 1 Try.underlying35 infoBool rfl .i64 .i64 ne (by omega) (by omega)
        have i0 : (0 : Int) ≤ (a : Int) := by omega
        have i1 : (a : Int) < (ne : Int) := by omega
        have j0 : (0 : Int) ≤ (b : Int) := by omega
        have j1 : (b : Int) < (ne : Int) := by omega
        have hq0 : (wc.alloc (.cells (madeCells #[.bool false] ne) 4)).ownsRow wc.heap.size 4 1 (.slice (some ⟨wc.heap.size, 0, none⟩) ne ne) ne ((List.replicate ne false).map .bool) := by
          rw [List.map_replicate]; exact own_made (Nat.le_refl _) (by unfold maxLen; omega)
        have hm0 : (wc.alloc (.cells (madeCells #[.bool false] ne) 4)).cell? ⟨wc.heap.size, b, none⟩ = some (.bool false) := by
          rw [hq0.cellAt b (by omega)]; simp [hbn]
        have hm1 := hq0.frozenAt b
        have hq1 := own_mark (w0 := wc) (t := b) hq0
        have hbq : Below wc.heap.size wc ((wc.alloc (.cells (madeCells #[.bool false] ne) 4)).setCell ⟨wc.heap.size, b, none⟩ (.bool true)) := (below_alW _).setCell (p := ⟨wc.heap.size, b, none⟩) (Nat.le_refl _) _
        rw [World.setCell_alloc_new] at hq1 hbq
        have L2 := hG0.lens.2.1
        obtain ⟨e1, e2, e3⟩ := duals L2 han hbn (rfl : (List.replicate ne false).set b true = _)
        have HE1 := Lib.hid e1
        have HE2 := Lib.hid e2
        have HE3 := Lib.hid e3
        have HL2 := Lib.hid L2
        have HQ1 := Lib.hid hq1
        clear hv hna hnb hba hbb hbb' hbc' hza hzb L2 e1 e2 e3 hq1 hq0
        go_upto_region 5 with fail
        have hbD : Below w0.heap.size w0 (wc.alloc (.cells ((madeCells #[.bool false] ne).setIfInBounds b (.bool true)) 4)) := hbc.trans (hbq.mono hzc)
        clear hm0 hm1 hmk
        generalize hwd : wc.alloc (.cells ((madeCells #[.bool false] ne).setIfInBounds b (.bool true)) 4) = wd at *
        have hzd : wc.heap.size < wd.heap.size := by rw [← hwd]; simp
        have gd0 := (hbD.cell (p := ⟨w.heap.size, 0, none⟩) hzg).trans g0
        have gd1 := (hbD.cell (p := ⟨w.heap.size, 1, none⟩) hzg).trans g1
        have gd2 := (hbD.cell (p := ⟨w.heap.size, 2, none⟩) hzg).trans g2
        have hGd := hG0.below hbD hB0
        have HB1 := Lib.hid (hb0.trans (hbD.mono (by omega)))
        have hzg' : w.heap.size < wd.heap.size := by omega
        have hB1 : B ≤ wd.heap.size := by omega
        clear hwd hbD hbq hbc hzc gc0 gc1 gc2 g0 g1 g2 hG0 hzg hB0 hb0
        generalize wc.heap.size = q at *
        obtain ⟨w0, rfl⟩ : ∃ W, W = wd := ⟨_, rfl⟩
        have g0 := gd0
        have g1 := gd1
        have g2 := gd2
        have hzg := hzg'
        have hG0 := hGd
        have hB0 := hB1
        clear gd0 gd1 gd2 hzg' hGd hB1
        have hglen : ((List.replicate ne false).set b true).length = ne := by simp
        have HGL := Lib.hid hglen
        have hbG : ((List.replicate ne false).set b true).length ≤ 200 := by rw [hglen]; exact k2
        clear hglen
        generalize (List.replicate ne false).set b true = gl at *
        have hbd : Below w0.heap.size w0 w0.drew := Below.drew (Below.refl _ _)
        refine wp_region_held_drew (S := fun w' => w'.cell? ⟨w.heap.size, 0, none⟩ = some (.slice ai ni ci) ∧ w'.cell? ⟨w.heap.size, 1, none⟩ = some (.slice ae ne ce) ∧ w'.cell? ⟨w.heap.size, 2, none⟩ = some (.slice al nl cl)) (by kernel_rfl) ⟨g0, g1, g2⟩ (fun hS => ?_)
        refine wpAnyH_takeD (i := 0) (v := ?_) rfl (by kernel_rfl) (by kernel_rfl) (by kernel_rfl) (fun _ _ _ h => h) (Or.inl ⟨by kernel_rfl, ?_⟩) hS ?_
        rotate_left 1
        · (intro w' hSw; (try dsimp only at hSw); go_simp; try (with_reducible rfl))
        try simp only [Act.put, List.setIfInBounds_toArray, List.set_cons_zero, List.set_cons_succ]
        refine wpAnyH_takeD (i := 1) (v := ?_) rfl (by kernel_rfl) (by kernel_rfl) (by kernel_rfl) (fun _ _ _ h => h) (Or.inl ⟨by kernel_rfl, ?_⟩) hS ?_
        rotate_left 1
        · (intro w' hSw; (try dsimp only at hSw); go_simp; try (with_reducible rfl))
        try simp only [Act.put, List.setIfInBounds_toArray, List.set_cons_zero, List.set_cons_succ]
        refine wpAnyH_takeD (i := 4) (v := ?_) rfl (by kernel_rfl) (by kernel_rfl) (by kernel_rfl) (fun _ _ _ h => h) (Or.inl ⟨by kernel_rfl, ?_⟩) hS ?_
        rotate_left 1
        · (intro w' hSw; (try dsimp only at hSw); go_simp; try (with_reducible rfl))
        try simp only [Act.put, List.setIfInBounds_toArray, List.set_cons_zero, List.set_cons_succ]
        refine wpAnyH_takeD (i := 5) (v := ?_) rfl (by kernel_rfl) (by kernel_rfl) (by kernel_rfl) (fun _ _ _ h => h) (Or.inl ⟨by kernel_rfl, ?_⟩) hS ?_
        rotate_left 1
        · (intro w' hSw; (try dsimp only at hSw); go_simp; try (with_reducible rfl))
        try simp only [Act.put, List.setIfInBounds_toArray, List.set_cons_zero, List.set_cons_succ]
        refine wpAnyH_oneD (i := 2) rfl (by kernel_rfl) (fun K hK => ?_)
        go_simp
        have hbRw1 : Below w0.heap.size w0 ((w0.drew).alloc (.cells #[.int .i64 (a : Int)] 3)) := hbd.alloc hbd.size _
        have hzRw1 := hbRw1.size
        have hnRw1 := heap_alloc_new (w0.drew) (.cells #[.int .i64 (a : Int)] 3)
        have rRw1_0 := (hbRw1.cell (p := ⟨w.heap.size, 0, none⟩) hzg).trans g0
        have rRw1_1 := (hbRw1.cell (p := ⟨w.heap.size, 1, none⟩) hzg).trans g1
        have rRw1_2 := (hbRw1.cell (p := ⟨w.heap.size, 2, none⟩) hzg).trans g2
        refine hK.out _ _ ⟨rRw1_0, rRw1_1, rRw1_2⟩ (fun hS => ?_)
        clear hK
        try simp only [Act.put, List.setIfInBounds_toArray, List.set_cons_zero, List.set_cons_succ]
        refine wpAnyH_oneD (i := 3) rfl (by kernel_rfl) (fun K hK => ?_)
        go_simp
        refine (reachP_any ai ae al ni ci ne ce nl cl G [(a : Int)] _ 1 1 _ (w0.drew.heap.size + 1) ((hG0.below hbRw1 hB0).up (show B ≤ w0.drew.heap.size + 1 by show B ≤ w0.heap.size + 1; omega)) (sl_blk (T := 3) (cs := #[.int .i64 (a : Int)]) hnRw1 rfl (by rfl) (by decide) (by omega)) rfl (by simp) (by omega) (by omega) (fun l hl => Nat.le_trans (kr l hl) (by omega))).mono ?_
        rintro e Rw2 ⟨v1, rfl, ho1, hbRw2', _⟩
        have hbRw2 : Below w0.heap.size w0 Rw2 := hbRw1.trans (hbRw2'.mono hbRw1.size)
        have hzRw2 := hbRw2.size
        have rRw2_0 := (hbRw2.cell (p := ⟨w.heap.size, 0, none⟩) hzg).trans g0
        have rRw2_1 := (hbRw2.cell (p := ⟨w.heap.size, 1, none⟩) hzg).trans g1
        have rRw2_2 := (hbRw2.cell (p := ⟨w.heap.size, 2, none⟩) hzg).trans g2
        obtain ⟨A1, c1, rfl, hs1⟩ := own_sl ho1
        obtain ⟨Aq, cq, hvq, hsq⟩ := own_sl (own_below HQ1.out hbRw2)
        cases hvq
        go_wp2_with fail
        refine hK.out _ _ ⟨rRw2_0, rRw2_1, rRw2_2⟩ (fun hS => ?_)
        clear hK
        try simp only [Act.put, List.setIfInBounds_toArray, List.set_cons_zero, List.set_cons_succ]
        refine wpAnyH_oneD (i := 6) rfl (by kernel_rfl) (fun K hK => ?_)
        go_simp
        refine (backP_any ai ae al ni ci ne ce nl cl G gl (some ⟨q, 0, none⟩) ne ne _ _ ((hG0.below hbRw2 hB0).up (Nat.le_trans hB0 hbRw2.size)) hsq HGL.out.symm (Nat.le_refl _) (by omega) (by omega) (by omega) (by omega) 50 kr k4 (by omega)).mono ?_
        rintro e Rw3 ⟨v2, rfl, ho2, hbRw3', _⟩
        have hbRw3 : Below w0.heap.size w0 Rw3 := hbRw2.trans (hbRw3'.mono hbRw2.size)
        have hzRw3 := hbRw3.size
        have rRw3_0 := (hbRw3.cell (p := ⟨w.heap.size, 0, none⟩) hzg).trans g0
        have rRw3_1 := (hbRw3.cell (p := ⟨w.heap.size, 1, none⟩) hzg).trans g1
        have rRw3_2 := (hbRw3.cell (p := ⟨w.heap.size, 2, none⟩) hzg).trans g2
        obtain ⟨A2, c2, rfl, hs2⟩ := own_sl ho2
        have hs1' := (hs1.below hbRw3' (Nat.le_refl _)).up hbRw3'.size
        clear hs1 hsq ho1 ho2
        go_wp2_with fail
        refine hK.out _ _ ⟨rRw3_0, rRw3_1, rRw3_2⟩ (fun hS => ?_)
        clear hK
        try simp only [Act.put, List.setIfInBounds_toArray, List.set_cons_zero, List.set_cons_succ]
        refine wpAnyH_takeD (i := 7) (v := ?_) rfl (by kernel_rfl) (by kernel_rfl) (by kernel_rfl) (fun _ _ _ h => h) (Or.inl ⟨by kernel_rfl, ?_⟩) hS ?_
        rotate_left 1
        · (intro w' hSw; (try dsimp only at hSw); go_simp; try (with_reducible rfl))
        try simp only [Act.put, List.setIfInBounds_toArray, List.set_cons_zero, List.set_cons_succ]
        refine wpAnyH_takeD (i := 8) (v := ?_) rfl (by kernel_rfl) (by kernel_rfl) (by kernel_rfl) (fun _ _ _ h => h) (Or.inl ⟨by kernel_rfl, ?_⟩) hS ?_
        rotate_left 1
        · (intro w' hSw; (try dsimp only at hSw); go_simp; try (with_reducible rfl))
        try simp only [Act.put, List.setIfInBounds_toArray, List.set_cons_zero, List.set_cons_succ]
        refine wpAnyH_done (by kernel_rfl) ?_ _
        go_wp2_with fail
        refine (turnP_any ai ae al ni ci ne ce nl cl G Rw3 B (hG0.below hbRw3 hB0) (Nat.le_trans hB0 hbRw3.size) (by omega) (by omega) (by omega) 50 kr k4 (by omega)).mono ?_
        rintro e wt ⟨bi, mi, di, be, me, de, bl, ml, dl, rfl, hT, hbt', _⟩
        have hme : me = ne := by have h1 := hT.lens.2.1; have h2 := HL2.out; simp only [turnE_len] at h1; omega
        subst hme
        have hbt : Below w0.heap.size w0 wt := hbRw3.trans (hbt'.mono hbRw3.size)
        have hzt := hbt.size
        have t0 := (hbt.cell (p := ⟨w.heap.size, 0, none⟩) hzg).trans g0
        have t1 := (hbt.cell (p := ⟨w.heap.size, 1, none⟩) hzg).trans g1
        have t2 := (hbt.cell (p := ⟨w.heap.size, 2, none⟩) hzg).trans g2
        have hs1t := hs1'.below hbt' (Nat.le_refl _)
        have hs2t := hs2.below hbt' (Nat.le_refl _)
        have hzt5 := hbt'.size
        have hs1t := hs1t.up hzt5
        have hs2t := hs2t.up hzt5
        have HRT := Lib.hid (reachP_any bi be bl mi di me de ml dl ⟨G.init, turnE G.edges, G.labels⟩ [(b : Int)] (some ⟨wt.heap.size, 0, none⟩) 1 1 (wt.alloc (.cells #[.int .i64 (b : Int)] 3)) (wt.heap.size + 1) ((hT.below (below_alW _) (Nat.le_refl _)).up (by omega)) (sl_blk (T := 3) (cs := #[.int .i64 (b : Int)]) (heap_alloc_new wt _) rfl (by rfl) (by decide) (by omega)) rfl (by simp) (by omega) (by omega) (turnE_bd kr (by rw [← HL2.out]; exact k4)))
        have hbta : Below w0.heap.size w0 (wt.alloc (.cells #[.int .i64 (b : Int)] 3)) := hbt.alloc hzt _
        have hbtb : Below wt.heap.size wt (wt.alloc (.cells #[.int .i64 (b : Int)] 3)) := below_alW _
        clear hs1' hs2 hS hT hbt'
        go_wp2_with fail
        refine Calls.mono HRT.out ?_
        rintro e wu ⟨v3, rfl, ho3, hbu', _⟩
        obtain ⟨A3, c3, rfl, hs3⟩ := own_sl ho3
        have hbu : Below w0.heap.size w0 wu := hbta.trans (hbu'.mono hbta.size)
        have hzu := hbu.size
        have hbtu : Below wt.heap.size wt wu := hbtb.trans (hbu'.mono hbtb.size)
        have u0 := (hbu.cell (p := ⟨w.heap.size, 0, none⟩) hzg).trans g0
        have u1 := (hbu.cell (p := ⟨w.heap.size, 1, none⟩) hzg).trans g1
        have u2 := (hbu.cell (p := ⟨w.heap.size, 2, none⟩) hzg).trans g2
        have hs1u := (hs1t.below hbtu (Nat.le_refl _)).up hbtu.size
        have hs2u := (hs2t.below hbtu (Nat.le_refl _)).up hbtu.size
        have hbua : Below w0.heap.size w0 (wu.alloc (.cells #[.int .i64 (a : Int)] 3)) := hbu.alloc hzu _
        obtain ⟨Aq, cq, hvq, hsq⟩ := own_sl (own_below HQ1.out hbua)
        cases hvq
        have HPT := Lib.hid (pathP_any ai ae al ni ci me ce nl cl G [(a : Int)] gl (some ⟨wu.heap.size, 0, none⟩) 1 1 (some ⟨q, 0, none⟩) me me (wu.alloc (.cells #[.int .i64 (a : Int)] 3)) (wu.alloc (.cells #[.int .i64 (a : Int)] 3)).heap.size ((hG0.below hbua hB0).up (Nat.le_trans hB0 hbua.size)) (sl_blk (T := 3) (cs := #[.int .i64 (a : Int)]) (heap_alloc_new wu _) rfl (by rfl) (by decide) (by simp)) rfl hsq HGL.out.symm (Nat.le_refl _) (by omega) (by omega) (by omega) (by omega) (by omega) 50 kr k4 (by omega))
        clear t0 t1 t2 hs1t hs2t hbta hbtb ho3 hsq HRT
        go_wp2_with fail
        refine Calls.mono HPT.out ?_
        rintro e wv ⟨v4, rfl, _, hbv'⟩
        have hbv : Below w0.heap.size w0 wv := hbua.trans (hbv'.mono hbua.size)
        have hzv := hbv.size
        have hbuv : Below wu.heap.size wu wv := (below_alW _).trans (hbv'.mono (by simp))
        have hs1v := (hs1u.below hbuv (Nat.le_refl _))
        have hs2v := (hs2u.below hbuv (Nat.le_refl _))
        have hs3v := (hs3.below hbuv (Nat.le_refl _))
        have hl1 := reachG_len me G.edges [(a : Int)]
        have hl2 : (backG me G.edges gl).length = me := reachG_len _ _ _
        have hl3 := reachG_len me (turnE G.edges) [(b : Int)]
        obtain ⟨x1, y1, rfl, hx1, hc1⟩ := hs1v.rd.at_ (bcells'_at (l := reachG me G.edges [(a : Int)]) (i := b) (by omega))
        obtain ⟨x2, y2, rfl, hx2, hc2⟩ := hs2v.rd.at_ (bcells'_at (l := backG me G.edges gl) (i := a) (by omega))
        obtain ⟨x3, y3, rfl, hx3, hc3⟩ := hs3v.rd.at_ (bcells'_at (l := reachG me (turnE G.edges) [(b : Int)]) (i := a) (by omega))
        rw [HE1.out] at hc2
        rw [HE2.out] at hc3
        rw [HE3.out]
        generalize (reachG me G.edges [(a : Int)]).getD b false = z at *
        have hzz : (z == z) = true := by simp
        clear HPT hs1u hs2u hs3 hs1v hs2v hs3v hl1 hl2 hl3 u0 u1 u2
        go_wp2_with fail
        have HBV := Lib.hid hbv
        have hx1' : x1 < wv.heap.size := by have := hbuv.size; omega
        have hx2' : x2 < wv.heap.size := by have := hbuv.size; omega
        have hx3' : x3 < wv.heap.size := by have := hbuv.size; omega
        have hzV : w0.heap.size ≤ wv.heap.size := hzv
        obtain ⟨wV, rfl⟩ : ∃ W, W = wv := ⟨_, rfl⟩
        have hbd : Below wV.heap.size wV wV.drew := Below.drew (Below.refl _ _)
        refine wp_region_held_drew (S := fun w' => w'.cell? ⟨x1, y1 + b, none⟩ = some (.bool z) ∧ w'.cell? ⟨x2, y2 + a, none⟩ = some (.bool z) ∧ w'.cell? ⟨x3, y3 + a, none⟩ = some (.bool z)) (by kernel_rfl) ⟨hc1, hc2, hc3⟩ (fun hS => ?_)
        refine wpAnyH_takeD (i := 0) (v := ?_) rfl (by kernel_rfl) (by kernel_rfl) (by kernel_rfl) (fun _ _ _ h => h) (Or.inl ⟨by kernel_rfl, ?_⟩) hS ?_
        rotate_left 1
        · (intro w' hSw; (try dsimp only at hSw); go_simp; try (with_reducible rfl))
        try simp only [Act.put, List.setIfInBounds_toArray, List.set_cons_zero, List.set_cons_succ]
        refine wpAnyH_takeD (i := 1) (v := ?_) rfl (by kernel_rfl) (by kernel_rfl) (by kernel_rfl) (fun _ _ _ h => h) (Or.inl ⟨by kernel_rfl, ?_⟩) hS ?_
        rotate_left 1
        · (intro w' hSw; (try dsimp only at hSw); go_simp; try (with_reducible rfl))
        try simp only [Act.put, List.setIfInBounds_toArray, List.set_cons_zero, List.set_cons_succ]
        refine wpAnyH_takeD (i := 2) (v := ?_) rfl (by kernel_rfl) (by kernel_rfl) (by kernel_rfl) (fun _ _ _ h => h) (Or.inl ⟨by kernel_rfl, ?_⟩) hS ?_
        rotate_left 1
        · (intro w' hSw; (try dsimp only at hSw); go_simp; try (with_reducible rfl))
        try simp only [Act.put, List.setIfInBounds_toArray, List.set_cons_zero, List.set_cons_succ]
        refine wpAnyH_takeD (i := 3) (v := ?_) rfl (by kernel_rfl) (by kernel_rfl) (by kernel_rfl) (fun _ _ _ h => h) (Or.inl ⟨by kernel_rfl, ?_⟩) hS ?_
        rotate_left 1
        · (intro w' hSw; (try dsimp only at hSw); go_simp; try (with_reducible rfl))
        try simp only [Act.put, List.setIfInBounds_toArray, List.set_cons_zero, List.set_cons_succ]
        refine wpAnyH_takeD (i := 4) (v := ?_) rfl (by kernel_rfl) (by kernel_rfl) (by kernel_rfl) (fun _ _ _ h => h) (Or.inl ⟨by kernel_rfl, ?_⟩) hS ?_
        rotate_left 1
        · (intro w' hSw; (try dsimp only at hSw); go_simp; try (with_reducible rfl))
        try simp only [Act.put, List.setIfInBounds_toArray, List.set_cons_zero, List.set_cons_succ]
        refine wpAnyH_takeD (i := 5) (v := ?_) rfl (by kernel_rfl) (by kernel_rfl) (by kernel_rfl) (fun _ _ _ h => h) (Or.inl ⟨by kernel_rfl, ?_⟩) hS ?_
        rotate_left 1
        · (intro w' hSw; (try dsimp only at hSw); go_simp; try (with_reducible rfl))
        try simp only [Act.put, List.setIfInBounds_toArray, List.set_cons_zero, List.set_cons_succ]
        refine wpAnyH_takeD (i := 6) (v := ?_) rfl (by kernel_rfl) (by kernel_rfl) (by kernel_rfl) (fun _ _ _ h => h) (Or.inl ⟨by kernel_rfl, ?_⟩) hS ?_
        rotate_left 1
        · (intro w' hSw; (try dsimp only at hSw); go_simp; try (with_reducible rfl))
        try simp only [Act.put, List.setIfInBounds_toArray, List.set_cons_zero, List.set_cons_succ]
        refine wpAnyH_takeD (i := 7) (v := ?_) rfl (by kernel_rfl) (by kernel_rfl) (by kernel_rfl) (fun _ _ _ h => h) (Or.inl ⟨by kernel_rfl, ?_⟩) hS ?_
        rotate_left 1
        · (intro w' hSw; (try dsimp only at hSw); go_simp; try (with_reducible rfl))
        try simp only [Act.put, List.setIfInBounds_toArray, List.set_cons_zero, List.set_cons_succ]
        refine wpAnyH_takeD (i := 8) (v := ?_) rfl (by kernel_rfl) (by kernel_rfl) (by kernel_rfl) (fun _ _ _ h => h) (Or.inl ⟨by kernel_rfl, ?_⟩) hS ?_
        rotate_left 1
        · (intro w' hSw; (try dsimp only at hSw); go_simp; try (with_reducible rfl))
        try simp only [Act.put, List.setIfInBounds_toArray, List.set_cons_zero, List.set_cons_succ]
        refine wpAnyH_takeD (i := 9) (v := ?_) rfl (by kernel_rfl) (by kernel_rfl) (by kernel_rfl) (fun _ _ _ h => h) (Or.inl ⟨by kernel_rfl, ?_⟩) hS ?_
        rotate_left 1
        · (intro w' hSw; (try dsimp only at hSw); go_simp; try (with_reducible rfl))
        try simp only [Act.put, List.setIfInBounds_toArray, List.set_cons_zero, List.set_cons_succ]
        refine wpAnyH_takeD (i := 10) (v := ?_) rfl (by kernel_rfl) (by kernel_rfl) (by kernel_rfl) (fun _ _ _ h => h) (Or.inl ⟨by kernel_rfl, ?_⟩) hS ?_
        rotate_left 1
        · (intro w' hSw; (try dsimp only at hSw); go_simp; try (with_reducible rfl))
        try simp only [Act.put, List.setIfInBounds_toArray, List.set_cons_zero, List.set_cons_succ]
        refine wpAnyH_takeD (i := 11) (v := ?_) rfl (by kernel_rfl) (by kernel_rfl) (by kernel_rfl) (fun _ _ _ h => h) (Or.inl ⟨by kernel_rfl, ?_⟩) hS ?_
        rotate_left 1
        · (intro w' hSw; (try dsimp only at hSw); go_simp; try (with_reducible rfl))
        try simp only [Act.put, List.setIfInBounds_toArray, List.set_cons_zero, List.set_cons_succ]
        refine wpAnyH_takeD (i := 12) (v := ?_) rfl (by kernel_rfl) (by kernel_rfl) (by kernel_rfl) (fun _ _ _ h => h) (Or.inl ⟨by kernel_rfl, ?_⟩) hS ?_
        rotate_left 1
        · (intro w' hSw; (try dsimp only at hSw); go_simp; try (with_reducible rfl))
        try simp only [Act.put, List.setIfInBounds_toArray, List.set_cons_zero, List.set_cons_succ]
        refine wpAnyH_takeD (i := 13) (v := ?_) rfl (by kernel_rfl) (by kernel_rfl) (by kernel_rfl) (fun _ _ _ h => h) (Or.inl ⟨by kernel_rfl, ?_⟩) hS ?_
        rotate_left 1
        · (intro w' hSw; (try dsimp only at hSw); go_simp; try (with_reducible rfl))
        try simp only [Act.put, List.setIfInBounds_toArray, List.set_cons_zero, List.set_cons_succ]
        refine wpAnyH_takeD (i := 14) (v := ?_) rfl (by kernel_rfl) (by kernel_rfl) (by kernel_rfl) (fun _ _ _ h => h) (Or.inl ⟨by kernel_rfl, ?_⟩) hS ?_
        rotate_left 1
        · (intro w' hSw; (try dsimp only at hSw); go_simp; try (with_reducible rfl))
        try simp only [Act.put, List.setIfInBounds_toArray, List.set_cons_zero, List.set_cons_succ]
        refine wpAnyH_takeD (i := 15) (v := ?_) rfl (by kernel_rfl) (by kernel_rfl) (by kernel_rfl) (fun _ _ _ h => h) (Or.inl ⟨by kernel_rfl, ?_⟩) hS ?_
        rotate_left 1
        · (intro w' hSw; (try dsimp only at hSw); go_simp; try (with_reducible rfl))
        try simp only [Act.put, List.setIfInBounds_toArray, List.set_cons_zero, List.set_cons_succ]
        refine wpAnyH_takeD (i := 16) (v := ?_) rfl (by kernel_rfl) (by kernel_rfl) (by kernel_rfl) (fun _ _ _ h => h) (Or.inl ⟨by kernel_rfl, ?_⟩) hS ?_
        rotate_left 1
        · (intro w' hSw; (try dsimp only at hSw); go_simp; try (with_reducible rfl))
        try simp only [Act.put, List.setIfInBounds_toArray, List.set_cons_zero, List.set_cons_succ]
        refine wpAnyH_takeD (i := 17) (v := ?_) rfl (by kernel_rfl) (by kernel_rfl) (by kernel_rfl) (fun _ _ _ h => h) (Or.inl ⟨by kernel_rfl, ?_⟩) hS ?_
        rotate_left 1
        · (intro w' hSw; (try dsimp only at hSw); go_simp; try (with_reducible rfl))
        try simp only [Act.put, List.setIfInBounds_toArray, List.set_cons_zero, List.set_cons_succ]
        refine wpAnyH_takeD (i := 18) (v := ?_) rfl (by kernel_rfl) (by kernel_rfl) (by kernel_rfl) (fun _ _ _ h => h) (Or.inl ⟨by kernel_rfl, ?_⟩) hS ?_
        rotate_left 1
        · (intro w' hSw; (try dsimp only at hSw); go_simp; try (with_reducible rfl))
        try simp only [Act.put, List.setIfInBounds_toArray, List.set_cons_zero, List.set_cons_succ]
        refine wpAnyH_takeD (i := 19) (v := ?_) rfl (by kernel_rfl) (by kernel_rfl) (by kernel_rfl) (fun _ _ _ h => h) (Or.inl ⟨by kernel_rfl, ?_⟩) hS ?_
        rotate_left 1
        · (intro w' hSw; (try dsimp only at hSw); go_simp; try (with_reducible rfl))
        try simp only [Act.put, List.setIfInBounds_toArray, List.set_cons_zero, List.set_cons_succ]
        refine wpAnyH_takeD (i := 20) (v := ?_) rfl (by kernel_rfl) (by kernel_rfl) (by kernel_rfl) (fun _ _ _ h => h) (Or.inl ⟨by kernel_rfl, ?_⟩) hS ?_
        rotate_left 1
        · (intro w' hSw; (try dsimp only at hSw); go_simp; try (with_reducible rfl))
        try simp only [Act.put, List.setIfInBounds_toArray, List.set_cons_zero, List.set_cons_succ]
        refine wpAnyH_takeD (i := 21) (v := ?_) rfl (by kernel_rfl) (by kernel_rfl) (by kernel_rfl) (fun _ _ _ h => h) (Or.inl ⟨by kernel_rfl, ?_⟩) hS ?_
        rotate_left 1
        · (intro w' hSw; (try dsimp only at hSw); go_simp; try (with_reducible rfl))
        try simp only [Act.put, List.setIfInBounds_toArray, List.set_cons_zero, List.set_cons_succ]
        refine wpAnyH_takeD (i := 22) (v := ?_) rfl (by kernel_rfl) (by kernel_rfl) (by kernel_rfl) (fun _ _ _ h => h) (Or.inl ⟨by kernel_rfl, ?_⟩) hS ?_
        rotate_left 1
        · (intro w' hSw; (try dsimp only at hSw); go_simp; try (with_reducible rfl))
        try simp only [Act.put, List.setIfInBounds_toArray, List.set_cons_zero, List.set_cons_succ]
        refine wpAnyH_takeD (i := 23) (v := ?_) rfl (by kernel_rfl) (by kernel_rfl) (by kernel_rfl) (fun _ _ _ h => h) (Or.inl ⟨by kernel_rfl, ?_⟩) hS ?_
        rotate_left 1
        · (intro w' hSw; (try dsimp only at hSw); go_simp; try (with_reducible rfl))
        try simp only [Act.put, List.setIfInBounds_toArray, List.set_cons_zero, List.set_cons_succ]
        refine wpAnyH_takeD (i := 24) (v := ?_) rfl (by kernel_rfl) (by kernel_rfl) (by kernel_rfl) (fun _ _ _ h => h) (Or.inl ⟨by kernel_rfl, ?_⟩) hS ?_
        rotate_left 1
        · (intro w' hSw; (try dsimp only at hSw); go_simp; try (with_reducible rfl))
        try simp only [Act.put, List.setIfInBounds_toArray, List.set_cons_zero, List.set_cons_succ]
        refine wpAnyH_takeD (i := 25) (v := ?_) rfl (by kernel_rfl) (by kernel_rfl) (by kernel_rfl) (fun _ _ _ h => h) (Or.inl ⟨by kernel_rfl, ?_⟩) hS ?_
        rotate_left 1
        · (intro w' hSw; (try dsimp only at hSw); go_simp; try (with_reducible rfl))
        try simp only [Act.put, List.setIfInBounds_toArray, List.set_cons_zero, List.set_cons_succ]
        refine wpAnyH_takeD (i := 26) (v := ?_) rfl (by kernel_rfl) (by kernel_rfl) (by kernel_rfl) (fun _ _ _ h => h) (Or.inl ⟨by kernel_rfl, ?_⟩) hS ?_
        rotate_left 1
        · (intro w' hSw; (try dsimp only at hSw); go_simp; try (with_reducible rfl))
        try simp only [Act.put, List.setIfInBounds_toArray, List.set_cons_zero, List.set_cons_succ]
        refine wpAnyH_takeD (i := 27) (v := ?_) rfl (by kernel_rfl) (by kernel_rfl) (by kernel_rfl) (fun _ _ _ h => h) (Or.inl ⟨by kernel_rfl, ?_⟩) hS ?_
        rotate_left 1
        · (intro w' hSw; (try dsimp only at hSw); go_simp; try (with_reducible rfl))
        try simp only [Act.put, List.setIfInBounds_toArray, List.set_cons_zero, List.set_cons_succ]
        refine wpAnyH_takeD (i := 28) (v := ?_) rfl (by kernel_rfl) (by kernel_rfl) (by kernel_rfl) (fun _ _ _ h => h) (Or.inl ⟨by kernel_rfl, ?_⟩) hS ?_
        rotate_left 1
        · (intro w' hSw; (try dsimp only at hSw); go_simp; try (with_reducible rfl))
        try simp only [Act.put, List.setIfInBounds_toArray, List.set_cons_zero, List.set_cons_succ]
        refine wpAnyH_oneD (i := 29) rfl (by kernel_rfl) (fun K hK => ?_)
        rw [if_pos (by kernel_rfl)]
        go_simp
        refine (awake_any _).mono ?_
        rintro e Sw1 ⟨rfl, hbSw1'⟩
        have hbSw1 : Below wV.heap.size wV Sw1 := hbd.trans (hbSw1'.mono hbd.size)
        have hzSw1 := hbSw1.size
        have sSw1_0 := (hbSw1.cell (p := ⟨x1, y1 + b, none⟩) hx1').trans hc1
        have sSw1_1 := (hbSw1.cell (p := ⟨x2, y2 + a, none⟩) hx2').trans hc2
        have sSw1_2 := (hbSw1.cell (p := ⟨x3, y3 + a, none⟩) hx3').trans hc3
        go_wp2_with fail
        refine hK.out _ _ ⟨sSw1_0, sSw1_1, sSw1_2⟩ (fun hS => ?_)
        clear hK
        try simp only [Act.put, List.setIfInBounds_toArray, List.set_cons_zero, List.set_cons_succ]
        refine wpAnyH_takeD (i := 30) (v := ?_) rfl (by kernel_rfl) (by kernel_rfl) (by kernel_rfl) (fun _ _ _ h => h) (Or.inl ⟨by kernel_rfl, ?_⟩) hS ?_
        rotate_left 1
        · (intro w' hSw; (try dsimp only at hSw); go_simp; try (with_reducible rfl))
        try simp only [Act.put, List.setIfInBounds_toArray, List.set_cons_zero, List.set_cons_succ]
        refine wpAnyH_takeD (i := 31) (v := ?_) rfl (by kernel_rfl) (by kernel_rfl) (by kernel_rfl) (fun _ _ _ h => h) (Or.inl ⟨by kernel_rfl, ?_⟩) hS ?_
        rotate_left 1
        · (intro w' hSw; (try dsimp only at hSw); go_simp; try (with_reducible rfl))
        try simp only [Act.put, List.setIfInBounds_toArray, List.set_cons_zero, List.set_cons_succ]
        refine wpAnyH_done (by kernel_rfl) ?_ _
        go_wp2
        go_ret
        exact ⟨rfl, HB1.out.trans ((HBV.out.trans (hbSw1.mono hzV)).mono (by omega))⟩
  · go_wp2_with fail
    refine (awake_any _).mono ?_
    rintro e wc ⟨rfl, hbc⟩
    go_wp2
    go_ret
    exact ⟨rfl, hb0.trans ((hba.trans (hbc.mono hza)).mono (by omega))⟩
end Go.Proofs.Ytfpncpjdmgfkbaa
