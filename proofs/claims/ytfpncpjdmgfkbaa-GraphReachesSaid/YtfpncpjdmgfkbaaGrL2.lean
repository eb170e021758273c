/- The law GraphReaches. -/
import Derived.Test.YtfpncpjdmgfkbaaGrL0
namespace Go.Proofs.Ytfpncpjdmgfkbaa
open Go.RowKit

set_option maxHeartbeats 2000000 in
set_option maxRecDepth 100000 in
theorem GraphReaches_any (ai ae al : Option Addr) (ni ci ne ce nl cl : Nat) (A : Option Addr) (n c : Nat) (A2 : Option Addr) (n2 c2 : Nat) (G : Gph) (from_ : List Int) (goal : List Bool) (w : World) (B : Nat) (hG : GrRd w B ai ni ci ae ne ce al nl cl G) (hF : Sl w B 1 A n c (icells from_)) (hn : n = from_.length) (hL : Sl w B 1 A2 n2 c2 (goal.map .bool)) (hn2 : n2 = goal.length) (hB : B ≤ w.heap.size) (hx1 : n ≤ 17592186044416) (hx2 : n2 ≤ 140737488351232) :
    Calls Try.prog 8 #[.agg #[.slice ai ni ci, .slice ae ne ce, .slice al nl cl], .slice A n c, .slice A2 n2 c2] w (Tru w true) := by
  subst hn
  subst hn2
  obtain ⟨w0, hw0, hb0, hz0, g0, g1, g2⟩ := boxed3 w (.slice ai ni ci) (.slice ae ne ce) (.slice al nl cl) 26
  have HW0 := Lib.hid hw0
  have hG0 := hG.below hb0 hB
  have hF0 := hF.below hb0 hB
  have hL0 := hL.below hb0 hB
  have hB0 : B ≤ w0.heap.size := by omega
  have hzg : w.heap.size < w0.heap.size := by omega
  clear hw0 hG hF hL hz0
  go_enter Try.func8, Try.ntmps8
  go_wp2_with fail
  rw [← HW0.out]
  refine (heavy_any ai ae al ni ci ne ce nl cl G w0 B hG0 hB0).mono ?_
  rintro e wa ⟨rfl, hba⟩
  have hza := hba.size
  clear HW0
  cases hv : heavyG G
  · by_cases hc1 : 100 < from_.length
    · have d1 : decide ((100 : Int) < (from_.length : Int)) = true := by simp; omega
      go_wp2_with fail
      refine (awake_any _).mono ?_
      rintro e wc ⟨rfl, hbc⟩
      go_wp2
      go_ret
      exact ⟨rfl, hb0.trans ((hba.trans (hbc.mono hza)).mono (by omega))⟩
    · have d1 : decide ((100 : Int) < (from_.length : Int)) = false := by simp; omega
      by_cases hc2 : 400 < goal.length
      · have d2 : decide ((400 : Int) < (goal.length : Int)) = true := by simp; omega
        go_wp2_with fail
        refine (awake_any _).mono ?_
        rintro e wc ⟨rfl, hbc⟩
        go_wp2
        go_ret
        exact ⟨rfl, hb0.trans ((hba.trans (hbc.mono hza)).mono (by omega))⟩
      · have d2 : decide ((400 : Int) < (goal.length : Int)) = false := by simp; omega
        obtain ⟨k1, k2, k3, kr, k4⟩ := lens_bd hG0 hv
        have ga0 := (hba.cell (p := ⟨w.heap.size, 0, none⟩) hzg).trans g0
        have ga1 := (hba.cell (p := ⟨w.heap.size, 1, none⟩) hzg).trans g1
        have ga2 := (hba.cell (p := ⟨w.heap.size, 2, none⟩) hzg).trans g2
        have hGa := hG0.below hba hB0
        have hFa := hF0.below hba hB0
        have hLa := hL0.below hba hB0
        have HB1 := Lib.hid (hb0.trans (hba.mono (by omega)))
        have hzg' : w.heap.size < wa.heap.size := by omega
        have hB1 : B ≤ wa.heap.size := by omega
        have L2 := hG0.lens.2.1
        clear hv g0 g1 g2 hG0 hF0 hL0 hba hzg hB0 hza hb0 w0 hx1 hx2
        obtain ⟨w0, rfl⟩ : ∃ W, W = wa := ⟨_, rfl⟩
        have g0 := ga0
        have g1 := ga1
        have g2 := ga2
        have hzg := hzg'
        have hG0 := hGa
        have hF0 := hFa
        have hL0 := hLa
        have hB0 := hB1
        have HL2 := Lib.hid L2
        clear ga0 ga1 ga2 hzg' hGa hFa hLa hB1 L2
        go_wp2_with fail
        have hbd : Below w0.heap.size w0 w0.drew := Below.drew (Below.refl _ _)
        refine wp_region_held_drew (S := fun w' => w'.cell? ⟨w.heap.size, 0, none⟩ = some (.slice ai ni ci) ∧ w'.cell? ⟨w.heap.size, 1, none⟩ = some (.slice ae ne ce) ∧ w'.cell? ⟨w.heap.size, 2, none⟩ = some (.slice al nl cl)) (by kernel_rfl) ⟨g0, g1, g2⟩ (fun hS => ?_)
        refine wpAnyH_takeD (i := 0) (v := ?_) rfl (by kernel_rfl) (by kernel_rfl) (by kernel_rfl) (fun _ _ _ h => h) (Or.inl ⟨by kernel_rfl, ?_⟩) hS ?_
        rotate_left 1
        · (intro w' hSw; (try dsimp only at hSw); go_simp; try (with_reducible rfl))
        try simp only [Act.put, List.setIfInBounds_toArray, List.set_cons_zero, List.set_cons_succ]
        refine wpAnyH_takeD (i := 1) (v := ?_) rfl (by kernel_rfl) (by kernel_rfl) (by kernel_rfl) (fun _ _ _ h => h) (Or.inl ⟨by kernel_rfl, ?_⟩) hS ?_
        rotate_left 1
        · (intro w' hSw; (try dsimp only at hSw); go_simp; try (with_reducible rfl))
        try simp only [Act.put, List.setIfInBounds_toArray, List.set_cons_zero, List.set_cons_succ]
        refine wpAnyH_takeD (i := 3) (v := ?_) rfl (by kernel_rfl) (by kernel_rfl) (by kernel_rfl) (fun _ _ _ h => h) (Or.inl ⟨by kernel_rfl, ?_⟩) hS ?_
        rotate_left 1
        · (intro w' hSw; (try dsimp only at hSw); go_simp; try (with_reducible rfl))
        try simp only [Act.put, List.setIfInBounds_toArray, List.set_cons_zero, List.set_cons_succ]
        refine wpAnyH_takeD (i := 4) (v := ?_) rfl (by kernel_rfl) (by kernel_rfl) (by kernel_rfl) (fun _ _ _ h => h) (Or.inl ⟨by kernel_rfl, ?_⟩) hS ?_
        rotate_left 1
        · (intro w' hSw; (try dsimp only at hSw); go_simp; try (with_reducible rfl))
        try simp only [Act.put, List.setIfInBounds_toArray, List.set_cons_zero, List.set_cons_succ]
        refine wpAnyH_oneD (i := 2) rfl (by kernel_rfl) (fun K hK => ?_)
        go_simp
        refine (reachP_any ai ae al ni ci ne ce nl cl G from_ A _ c _ B (hG0.below hbd hB0) (hF0.below hbd hB0) rfl (Nat.le_trans hB0 hbd.size) (by omega) (by omega) (fun l hl => Nat.le_trans (kr l hl) (by omega))).mono ?_
        rintro e Rw1 ⟨v1, rfl, ho1, hbRw1', _⟩
        have hbRw1 : Below w0.heap.size w0 Rw1 := hbd.trans (hbRw1'.mono hbd.size)
        have hzRw1 := hbRw1.size
        have rRw1_0 := (hbRw1.cell (p := ⟨w.heap.size, 0, none⟩) hzg).trans g0
        have rRw1_1 := (hbRw1.cell (p := ⟨w.heap.size, 1, none⟩) hzg).trans g1
        have rRw1_2 := (hbRw1.cell (p := ⟨w.heap.size, 2, none⟩) hzg).trans g2
        obtain ⟨A1', c1', rfl, hs1⟩ := own_sl ho1
        have HO1 := Lib.hid ho1
        clear ho1
        go_wp2_with fail
        refine hK.out _ _ ⟨rRw1_0, rRw1_1, rRw1_2⟩ (fun hS => ?_)
        clear hK
        try simp only [Act.put, List.setIfInBounds_toArray, List.set_cons_zero, List.set_cons_succ]
        refine wpAnyH_oneD (i := 5) rfl (by kernel_rfl) (fun K hK => ?_)
        go_simp
        refine (reachR_any ai ae al ni ci ne ce nl cl G from_ A _ c _ B (hG0.below hbRw1 hB0) (hF0.below hbRw1 hB0) rfl (Nat.le_trans hB0 hbRw1.size) (by omega) (by omega) (fun l hl => Nat.le_trans (kr l hl) (by omega))).mono ?_
        rintro e Rw2 ⟨v2, rfl, ho2, hbRw2', _⟩
        have hbRw2 : Below w0.heap.size w0 Rw2 := hbRw1.trans (hbRw2'.mono hbRw1.size)
        have hzRw2 := hbRw2.size
        have rRw2_0 := (hbRw2.cell (p := ⟨w.heap.size, 0, none⟩) hzg).trans g0
        have rRw2_1 := (hbRw2.cell (p := ⟨w.heap.size, 1, none⟩) hzg).trans g1
        have rRw2_2 := (hbRw2.cell (p := ⟨w.heap.size, 2, none⟩) hzg).trans g2
        obtain ⟨A2', c2', rfl, hs2⟩ := own_sl ho2
        have hs1' := hs1.below hbRw2' (Nat.le_refl _)
        go_wp2_with fail
        refine hK.out _ _ ⟨rRw2_0, rRw2_1, rRw2_2⟩ (fun hS => ?_)
        clear hK
        try simp only [Act.put, List.setIfInBounds_toArray, List.set_cons_zero, List.set_cons_succ]
        refine wpAnyH_oneD (i := 6) rfl (by kernel_rfl) (fun K hK => ?_)
        go_simp
        refine (boolsL_any A1' A2' ne c1' ne c2' (reachG ne G.edges from_) (reachG ne G.edges from_) _ _ _ hs1' hs2 (reachG_len _ _ _).symm (reachG_len _ _ _).symm (by omega)).mono ?_
        rintro e _ ⟨rfl, ndRw3, rfl⟩
        obtain ⟨Rw3, hwRw3⟩ : ∃ W, W = (Rw2).drewN ndRw3 := ⟨_, rfl⟩
        have hbRw3' := below_len hwRw3
        rw [← hwRw3]
        clear hwRw3
        have hbRw3 : Below w0.heap.size w0 Rw3 := hbRw2.trans (hbRw3'.mono hbRw2.size)
        have hzRw3 := hbRw3.size
        have rRw3_0 := (hbRw3.cell (p := ⟨w.heap.size, 0, none⟩) hzg).trans g0
        have rRw3_1 := (hbRw3.cell (p := ⟨w.heap.size, 1, none⟩) hzg).trans g1
        have rRw3_2 := (hbRw3.cell (p := ⟨w.heap.size, 2, none⟩) hzg).trans g2
        have hd1 : decide (reachG ne G.edges from_ = reachG ne G.edges from_) = true := by simp
        clear hs1 hs1' hs2 ho2
        go_wp2_with fail
        refine hK.out _ _ ⟨rRw3_0, rRw3_1, rRw3_2⟩ (fun hS => ?_)
        clear hK
        try simp only [Act.put, List.setIfInBounds_toArray, List.set_cons_zero, List.set_cons_succ]
        refine wpAnyH_takeD (i := 7) (v := ?_) rfl (by kernel_rfl) (by kernel_rfl) (by kernel_rfl) (fun _ _ _ h => h) (Or.inl ⟨by kernel_rfl, ?_⟩) hS ?_
        rotate_left 1
        · (intro w' hSw; (try dsimp only at hSw); go_simp; try (with_reducible rfl))
        try simp only [Act.put, List.setIfInBounds_toArray, List.set_cons_zero, List.set_cons_succ]
        refine wpAnyH_takeD (i := 8) (v := ?_) rfl (by kernel_rfl) (by kernel_rfl) (by kernel_rfl) (fun _ _ _ h => h) (Or.inl ⟨by kernel_rfl, ?_⟩) hS ?_
        rotate_left 1
        · (intro w' hSw; (try dsimp only at hSw); go_simp; try (with_reducible rfl))
        try simp only [Act.put, List.setIfInBounds_toArray, List.set_cons_zero, List.set_cons_succ]
        refine wpAnyH_takeD (i := 9) (v := ?_) rfl (by kernel_rfl) (by kernel_rfl) (by kernel_rfl) (fun _ _ _ h => h) (Or.inl ⟨by kernel_rfl, ?_⟩) hS ?_
        rotate_left 1
        · (intro w' hSw; (try dsimp only at hSw); go_simp; try (with_reducible rfl))
        try simp only [Act.put, List.setIfInBounds_toArray, List.set_cons_zero, List.set_cons_succ]
        refine wpAnyH_takeD (i := 11) (v := ?_) rfl (by kernel_rfl) (by kernel_rfl) (by kernel_rfl) (fun _ _ _ h => h) (Or.inl ⟨by kernel_rfl, ?_⟩) hS ?_
        rotate_left 1
        · (intro w' hSw; (try dsimp only at hSw); go_simp; try (with_reducible rfl))
        try simp only [Act.put, List.setIfInBounds_toArray, List.set_cons_zero, List.set_cons_succ]
        refine wpAnyH_takeD (i := 12) (v := ?_) rfl (by kernel_rfl) (by kernel_rfl) (by kernel_rfl) (fun _ _ _ h => h) (Or.inl ⟨by kernel_rfl, ?_⟩) hS ?_
        rotate_left 1
        · (intro w' hSw; (try dsimp only at hSw); go_simp; try (with_reducible rfl))
        try simp only [Act.put, List.setIfInBounds_toArray, List.set_cons_zero, List.set_cons_succ]
        refine wpAnyH_oneD (i := 10) rfl (by kernel_rfl) (fun K hK => ?_)
        rw [if_pos (by kernel_rfl)]
        go_simp
        refine (backP_any ai ae al ni ci ne ce nl cl G goal A2 _ c2 _ B (hG0.below hbRw3 hB0) (hL0.below hbRw3 hB0) rfl (Nat.le_trans hB0 hbRw3.size) (by omega) (by omega) (by omega) (by omega) 50 kr k4 (by omega)).mono ?_
        rintro e Rw4 ⟨v3, rfl, ho3, hbRw4', _⟩
        have hbRw4 : Below w0.heap.size w0 Rw4 := hbRw3.trans (hbRw4'.mono hbRw3.size)
        have hzRw4 := hbRw4.size
        have rRw4_0 := (hbRw4.cell (p := ⟨w.heap.size, 0, none⟩) hzg).trans g0
        have rRw4_1 := (hbRw4.cell (p := ⟨w.heap.size, 1, none⟩) hzg).trans g1
        have rRw4_2 := (hbRw4.cell (p := ⟨w.heap.size, 2, none⟩) hzg).trans g2
        obtain ⟨A3', c3', rfl, hs3⟩ := own_sl ho3
        go_wp2_with fail
        refine hK.out _ _ ⟨rRw4_0, rRw4_1, rRw4_2⟩ (fun hS => ?_)
        clear hK
        try simp only [Act.put, List.setIfInBounds_toArray, List.set_cons_zero, List.set_cons_succ]
        refine wpAnyH_oneD (i := 13) rfl (by kernel_rfl) (fun K hK => ?_)
        rw [if_pos (by kernel_rfl)]
        go_simp
        refine (backR_any ai ae al ni ci ne ce nl cl G goal A2 _ c2 _ B (hG0.below hbRw4 hB0) (hL0.below hbRw4 hB0) rfl (Nat.le_trans hB0 hbRw4.size) (by omega) (by omega) (by omega) (by omega) 50 kr k4 (by omega)).mono ?_
        rintro e Rw5 ⟨v4, rfl, ho4, hbRw5', _⟩
        have hbRw5 : Below w0.heap.size w0 Rw5 := hbRw4.trans (hbRw5'.mono hbRw4.size)
        have hzRw5 := hbRw5.size
        have rRw5_0 := (hbRw5.cell (p := ⟨w.heap.size, 0, none⟩) hzg).trans g0
        have rRw5_1 := (hbRw5.cell (p := ⟨w.heap.size, 1, none⟩) hzg).trans g1
        have rRw5_2 := (hbRw5.cell (p := ⟨w.heap.size, 2, none⟩) hzg).trans g2
        obtain ⟨A4', c4', rfl, hs4⟩ := own_sl ho4
        have hs3' := hs3.below hbRw5' (Nat.le_refl _)
        go_wp2_with fail
        refine hK.out _ _ ⟨rRw5_0, rRw5_1, rRw5_2⟩ (fun hS => ?_)
        clear hK
        try simp only [Act.put, List.setIfInBounds_toArray, List.set_cons_zero, List.set_cons_succ]
        refine wpAnyH_oneD (i := 14) rfl (by kernel_rfl) (fun K hK => ?_)
        rw [if_pos (by kernel_rfl)]
        go_simp
        refine (boolsL_any A3' A4' ne c3' ne c4' (backG ne G.edges goal) (backG ne G.edges goal) _ _ _ hs3' hs4 (reachG_len _ _ _).symm (reachG_len _ _ _).symm (by omega)).mono ?_
        rintro e _ ⟨rfl, ndRw6, rfl⟩
        obtain ⟨Rw6, hwRw6⟩ : ∃ W, W = (Rw5).drewN ndRw6 := ⟨_, rfl⟩
        have hbRw6' := below_len hwRw6
        rw [← hwRw6]
        clear hwRw6
        have hbRw6 : Below w0.heap.size w0 Rw6 := hbRw5.trans (hbRw6'.mono hbRw5.size)
        have hzRw6 := hbRw6.size
        have rRw6_0 := (hbRw6.cell (p := ⟨w.heap.size, 0, none⟩) hzg).trans g0
        have rRw6_1 := (hbRw6.cell (p := ⟨w.heap.size, 1, none⟩) hzg).trans g1
        have rRw6_2 := (hbRw6.cell (p := ⟨w.heap.size, 2, none⟩) hzg).trans g2
        have hd2 : decide (backG ne G.edges goal = backG ne G.edges goal) = true := by simp
        clear hs3 hs3' hs4 ho3 ho4
        go_wp2_with fail
        refine hK.out _ _ ⟨rRw6_0, rRw6_1, rRw6_2⟩ (fun hS => ?_)
        clear hK
        try simp only [Act.put, List.setIfInBounds_toArray, List.set_cons_zero, List.set_cons_succ]
        refine wpAnyH_takeD (i := 15) (v := ?_) rfl (by kernel_rfl) (by kernel_rfl) (by kernel_rfl) (fun _ _ _ h => h) (Or.inl ⟨by kernel_rfl, ?_⟩) hS ?_
        rotate_left 1
        · (intro w' hSw; (try dsimp only at hSw); go_simp; try (with_reducible rfl))
        try simp only [Act.put, List.setIfInBounds_toArray, List.set_cons_zero, List.set_cons_succ]
        refine wpAnyH_takeD (i := 16) (v := ?_) rfl (by kernel_rfl) (by kernel_rfl) (by kernel_rfl) (fun _ _ _ h => h) (Or.inl ⟨by kernel_rfl, ?_⟩) hS ?_
        rotate_left 1
        · (intro w' hSw; (try dsimp only at hSw); go_simp; try (with_reducible rfl))
        try simp only [Act.put, List.setIfInBounds_toArray, List.set_cons_zero, List.set_cons_succ]
        refine wpAnyH_oneD (i := 17) rfl (by kernel_rfl) (fun K hK => ?_)
        rw [if_pos (by kernel_rfl)]
        go_simp
        refine (awake_any _).mono ?_
        rintro e Rw7 ⟨rfl, hbRw7'⟩
        have hbRw7 : Below w0.heap.size w0 Rw7 := hbRw6.trans (hbRw7'.mono hbRw6.size)
        have hzRw7 := hbRw7.size
        have rRw7_0 := (hbRw7.cell (p := ⟨w.heap.size, 0, none⟩) hzg).trans g0
        have rRw7_1 := (hbRw7.cell (p := ⟨w.heap.size, 1, none⟩) hzg).trans g1
        have rRw7_2 := (hbRw7.cell (p := ⟨w.heap.size, 2, none⟩) hzg).trans g2
        go_wp2_with fail
        refine hK.out _ _ ⟨rRw7_0, rRw7_1, rRw7_2⟩ (fun hS => ?_)
        clear hK
        try simp only [Act.put, List.setIfInBounds_toArray, List.set_cons_zero, List.set_cons_succ]
        refine wpAnyH_takeD (i := 18) (v := ?_) rfl (by kernel_rfl) (by kernel_rfl) (by kernel_rfl) (fun _ _ _ h => h) (Or.inl ⟨by kernel_rfl, ?_⟩) hS ?_
        rotate_left 1
        · (intro w' hSw; (try dsimp only at hSw); go_simp; try (with_reducible rfl))
        try simp only [Act.put, List.setIfInBounds_toArray, List.set_cons_zero, List.set_cons_succ]
        refine wpAnyH_takeD (i := 19) (v := ?_) rfl (by kernel_rfl) (by kernel_rfl) (by kernel_rfl) (fun _ _ _ h => h) (Or.inl ⟨by kernel_rfl, ?_⟩) hS ?_
        rotate_left 1
        · (intro w' hSw; (try dsimp only at hSw); go_simp; try (with_reducible rfl))
        try simp only [Act.put, List.setIfInBounds_toArray, List.set_cons_zero, List.set_cons_succ]
        refine wpAnyH_done (by kernel_rfl) ?_ _
        go_wp2
        go_ret
        exact ⟨rfl, HB1.out.trans (hbRw7.mono (by omega))⟩
  · go_wp2_with fail
    refine (awake_any _).mono ?_
    rintro e wc ⟨rfl, hbc⟩
    go_wp2
    go_ret
    exact ⟨rfl, hb0.trans ((hba.trans (hbc.mono hza)).mono (by omega))⟩
end Go.Proofs.Ytfpncpjdmgfkbaa
