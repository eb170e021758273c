/- The law GraphChecks. -/
import Derived.Test.YtfpncpjdmgfkbaaGrL0
namespace Go.Proofs.Ytfpncpjdmgfkbaa
open Go.RowKit

set_option maxHeartbeats 2000000 in
set_option maxRecDepth 100000 in
theorem GraphChecks_any (ai ae al : Option Addr) (ni ci ne ce nl cl : Nat) (bi be bl : Option Addr) (mi di me de ml dl : Nat) (G H : Gph) (w : World) (B : Nat) (hG : GrRd w B ai ni ci ae ne ce al nl cl G) (hH : GrRd w B bi mi di be me de bl ml dl H) (hB : B ≤ w.heap.size) :
    Calls Try.prog 3 #[.agg #[.slice ai ni ci, .slice ae ne ce, .slice al nl cl], .agg #[.slice bi mi di, .slice be me de, .slice bl ml dl]] w (Tru w true) := by
  obtain ⟨w0, hw0, hb0, hz0, ⟨g0, g1, g2⟩, ⟨h0, h1, h2⟩⟩ := boxed33 w (.slice ai ni ci) (.slice ae ne ce) (.slice al nl cl) (.slice bi mi di) (.slice be me de) (.slice bl ml dl) 26
  have HW0 := Lib.hid hw0
  have hG0 := hG.below hb0 hB
  have hH0 := hH.below hb0 hB
  have hB0 : B ≤ w0.heap.size := by omega
  have hzg : w.heap.size < w0.heap.size := by omega
  have hzh : w.heap.size + 1 < w0.heap.size := by omega
  clear hw0 hG hH hz0
  go_enter Try.func3, Try.ntmps3
  go_wp2_with fail
  rw [← HW0.out]
  refine (heavy_any ai ae al ni ci ne ce nl cl G w0 B hG0 hB0).mono ?_
  rintro e wa ⟨rfl, hba⟩
  have hza := hba.size
  have ga0 := (hba.cell (p := ⟨w.heap.size, 0, none⟩) hzg).trans g0
  have ga1 := (hba.cell (p := ⟨w.heap.size, 1, none⟩) hzg).trans g1
  have ga2 := (hba.cell (p := ⟨w.heap.size, 2, none⟩) hzg).trans g2
  have ha0 := (hba.cell (p := ⟨w.heap.size + 1, 0, none⟩) hzh).trans h0
  have ha1 := (hba.cell (p := ⟨w.heap.size + 1, 1, none⟩) hzh).trans h1
  have ha2 := (hba.cell (p := ⟨w.heap.size + 1, 2, none⟩) hzh).trans h2
  cases hv : heavyG G
  · go_wp2_with fail
    refine (heavy_any bi be bl mi di me de ml dl H wa B (hH0.below hba hB0) (by omega)).mono ?_
    rintro e wb ⟨rfl, hbb'⟩
    have hbb : Below w0.heap.size w0 wb := hba.trans (hbb'.mono hza)
    have hzb := hbb.size
    clear ga0 ga1 ga2 ha0 ha1 ha2 HW0
    cases hv2 : heavyG H
    · obtain ⟨k1, k2, k3, kr, _⟩ := lens_bd hG0 hv
      obtain ⟨m1, m2, m3, mr, _⟩ := lens_bd hH0 hv2
      have g0' := (hbb.cell (p := ⟨w.heap.size, 0, none⟩) hzg).trans g0
      have g1' := (hbb.cell (p := ⟨w.heap.size, 1, none⟩) hzg).trans g1
      have g2' := (hbb.cell (p := ⟨w.heap.size, 2, none⟩) hzg).trans g2
      have h0' := (hbb.cell (p := ⟨w.heap.size + 1, 0, none⟩) hzh).trans h0
      have h1' := (hbb.cell (p := ⟨w.heap.size + 1, 1, none⟩) hzh).trans h1
      have h2' := (hbb.cell (p := ⟨w.heap.size + 1, 2, none⟩) hzh).trans h2
      have hG1 := hG0.below hbb hB0
      have hH1 := hH0.below hbb hB0
      have HB1 := Lib.hid (hb0.trans (hbb.mono (by omega)))
      clear hv hv2 g0 g1 g2 h0 h1 h2 hG0 hH0 hba hbb' hbb
      have hzg' : w.heap.size < wb.heap.size := by omega
      have hzh' : w.heap.size + 1 < wb.heap.size := by omega
      have hB1 : B ≤ wb.heap.size := by omega
      clear hzg hzh hB0 hza hzb hb0 w0 wa
      obtain ⟨w0, rfl⟩ : ∃ W, W = wb := ⟨_, rfl⟩
      have g0 := g0'
      have g1 := g1'
      have g2 := g2'
      have h0 := h0'
      have h1 := h1'
      have h2 := h2'
      have hzg := hzg'
      have hzh := hzh'
      have hG0 := hG1
      have hH0 := hH1
      have hB0 := hB1
      clear g0' g1' g2' h0' h1' h2'
      go_wp2_with fail
      have hbd : Below w0.heap.size w0 w0.drew := Below.drew (Below.refl _ _)
      refine wp_region_held_drew (S := fun w' => w'.cell? ⟨w.heap.size, 0, none⟩ = some (.slice ai ni ci) ∧ w'.cell? ⟨w.heap.size, 1, none⟩ = some (.slice ae ne ce) ∧ w'.cell? ⟨w.heap.size, 2, none⟩ = some (.slice al nl cl) ∧ w'.cell? ⟨w.heap.size + 1, 0, none⟩ = some (.slice bi mi di) ∧ w'.cell? ⟨w.heap.size + 1, 1, none⟩ = some (.slice be me de) ∧ w'.cell? ⟨w.heap.size + 1, 2, none⟩ = some (.slice bl ml dl)) (by kernel_rfl) ⟨g0, g1, g2, h0, h1, h2⟩ (fun hS => ?_)
      refine wpAnyH_takeD (i := 0) (v := ?_) rfl (by kernel_rfl) (by kernel_rfl) (by kernel_rfl) (fun _ _ _ h => h) (Or.inl ⟨by kernel_rfl, ?_⟩) hS ?_
      rotate_left 1
      · (intro w' hSw; (try dsimp only at hSw); go_simp; try (with_reducible rfl))
      try simp only [Act.put, List.setIfInBounds_toArray, List.set_cons_zero, List.set_cons_succ]
      refine wpAnyH_takeD (i := 2) (v := ?_) rfl (by kernel_rfl) (by kernel_rfl) (by kernel_rfl) (fun _ _ _ h => h) (Or.inl ⟨by kernel_rfl, ?_⟩) hS ?_
      rotate_left 1
      · (intro w' hSw; (try dsimp only at hSw); go_simp; try (with_reducible rfl))
      try simp only [Act.put, List.setIfInBounds_toArray, List.set_cons_zero, List.set_cons_succ]
      refine wpAnyH_oneD (i := 1) rfl (by kernel_rfl) (fun K hK => ?_)
      go_simp
      refine (checkP_any ai ae al ni ci ne ce nl cl G _ B (hG0.below hbd hB0) (Nat.le_trans hB0 hbd.size) (by omega) (by omega) (by omega) (fun l hl => Nat.le_trans (kr l hl) (by omega))).mono ?_
      rintro e Rw1 ⟨rfl, hbRw1'⟩
      have hbRw1 : Below w0.heap.size w0 Rw1 := hbd.trans (hbRw1'.mono hbd.size)
      have hzRw1 := hbRw1.size
      have rRw1_0 := (hbRw1.cell (p := ⟨w.heap.size, 0, none⟩) hzg).trans g0
      have rRw1_1 := (hbRw1.cell (p := ⟨w.heap.size, 1, none⟩) hzg).trans g1
      have rRw1_2 := (hbRw1.cell (p := ⟨w.heap.size, 2, none⟩) hzg).trans g2
      have rRw1_3 := (hbRw1.cell (p := ⟨w.heap.size + 1, 0, none⟩) hzh).trans h0
      have rRw1_4 := (hbRw1.cell (p := ⟨w.heap.size + 1, 1, none⟩) hzh).trans h1
      have rRw1_5 := (hbRw1.cell (p := ⟨w.heap.size + 1, 2, none⟩) hzh).trans h2
      go_wp2_with fail
      refine hK.out _ _ ⟨rRw1_0, rRw1_1, rRw1_2, rRw1_3, rRw1_4, rRw1_5⟩ (fun hS => ?_)
      clear hK
      try simp only [Act.put, List.setIfInBounds_toArray, List.set_cons_zero, List.set_cons_succ]
      refine wpAnyH_oneD (i := 3) rfl (by kernel_rfl) (fun K hK => ?_)
      go_simp
      refine (checkR_any ai ae al ni ci ne ce nl cl G _ B (hG0.below hbRw1 hB0) (Nat.le_trans hB0 hbRw1.size) (by omega) (by omega) (by omega) (fun l hl => Nat.le_trans (kr l hl) (by omega))).mono ?_
      rintro e Rw2 ⟨rfl, hbRw2'⟩
      have hbRw2 : Below w0.heap.size w0 Rw2 := hbRw1.trans (hbRw2'.mono hbRw1.size)
      have hzRw2 := hbRw2.size
      have rRw2_0 := (hbRw2.cell (p := ⟨w.heap.size, 0, none⟩) hzg).trans g0
      have rRw2_1 := (hbRw2.cell (p := ⟨w.heap.size, 1, none⟩) hzg).trans g1
      have rRw2_2 := (hbRw2.cell (p := ⟨w.heap.size, 2, none⟩) hzg).trans g2
      have rRw2_3 := (hbRw2.cell (p := ⟨w.heap.size + 1, 0, none⟩) hzh).trans h0
      have rRw2_4 := (hbRw2.cell (p := ⟨w.heap.size + 1, 1, none⟩) hzh).trans h1
      have rRw2_5 := (hbRw2.cell (p := ⟨w.heap.size + 1, 2, none⟩) hzh).trans h2
      generalize checkG G = x at *
      have hxx : (x == x) = true := by simp
      go_wp2_with fail
      refine hK.out _ _ ⟨rRw2_0, rRw2_1, rRw2_2, rRw2_3, rRw2_4, rRw2_5⟩ (fun hS => ?_)
      clear hK
      try simp only [Act.put, List.setIfInBounds_toArray, List.set_cons_zero, List.set_cons_succ]
      refine wpAnyH_takeD (i := 4) (v := ?_) rfl (by kernel_rfl) (by kernel_rfl) (by kernel_rfl) (fun _ _ _ h => h) (Or.inl ⟨by kernel_rfl, ?_⟩) hS ?_
      rotate_left 1
      · (intro w' hSw; (try dsimp only at hSw); go_simp; try (with_reducible rfl))
      try simp only [Act.put, List.setIfInBounds_toArray, List.set_cons_zero, List.set_cons_succ]
      refine wpAnyH_takeD (i := 5) (v := ?_) rfl (by kernel_rfl) (by kernel_rfl) (by kernel_rfl) (fun _ _ _ h => h) (Or.inl ⟨by kernel_rfl, ?_⟩) hS ?_
      rotate_left 1
      · (intro w' hSw; (try dsimp only at hSw); go_simp; try (with_reducible rfl))
      try simp only [Act.put, List.setIfInBounds_toArray, List.set_cons_zero, List.set_cons_succ]
      refine wpAnyH_takeD (i := 6) (v := ?_) rfl (by kernel_rfl) (by kernel_rfl) (by kernel_rfl) (fun _ _ _ h => h) (Or.inl ⟨by kernel_rfl, ?_⟩) hS ?_
      rotate_left 1
      · (intro w' hSw; (try dsimp only at hSw); go_simp; try (with_reducible rfl))
      try simp only [Act.put, List.setIfInBounds_toArray, List.set_cons_zero, List.set_cons_succ]
      refine wpAnyH_takeD (i := 7) (v := ?_) rfl (by kernel_rfl) (by kernel_rfl) (by kernel_rfl) (fun _ _ _ h => h) (Or.inl ⟨by kernel_rfl, ?_⟩) hS ?_
      rotate_left 1
      · (intro w' hSw; (try dsimp only at hSw); go_simp; try (with_reducible rfl))
      try simp only [Act.put, List.setIfInBounds_toArray, List.set_cons_zero, List.set_cons_succ]
      refine wpAnyH_takeD (i := 9) (v := ?_) rfl (by kernel_rfl) (by kernel_rfl) (by kernel_rfl) (fun _ _ _ h => h) (Or.inl ⟨by kernel_rfl, ?_⟩) hS ?_
      rotate_left 1
      · (intro w' hSw; (try dsimp only at hSw); go_simp; try (with_reducible rfl))
      try simp only [Act.put, List.setIfInBounds_toArray, List.set_cons_zero, List.set_cons_succ]
      refine wpAnyH_takeD (i := 10) (v := ?_) rfl (by kernel_rfl) (by kernel_rfl) (by kernel_rfl) (fun _ _ _ h => h) (Or.inl ⟨by kernel_rfl, ?_⟩) hS ?_
      rotate_left 1
      · (intro w' hSw; (try dsimp only at hSw); go_simp; try (with_reducible rfl))
      try simp only [Act.put, List.setIfInBounds_toArray, List.set_cons_zero, List.set_cons_succ]
      refine wpAnyH_oneD (i := 8) rfl (by kernel_rfl) (fun K hK => ?_)
      rw [if_pos (by kernel_rfl)]
      go_simp
      refine (sameP_any ai ae al ni ci ne ce nl cl bi be bl mi di me de ml dl G H _ B (hG0.below hbRw2 hB0) (hH0.below hbRw2 hB0) (Nat.le_trans hB0 hbRw2.size) (by omega) (by omega) (by omega) (fun l hl => Nat.le_trans (kr l hl) (by omega))).mono ?_
      rintro e Rw3 ⟨rfl, hbRw3'⟩
      have hbRw3 : Below w0.heap.size w0 Rw3 := hbRw2.trans (hbRw3'.mono hbRw2.size)
      have hzRw3 := hbRw3.size
      have rRw3_0 := (hbRw3.cell (p := ⟨w.heap.size, 0, none⟩) hzg).trans g0
      have rRw3_1 := (hbRw3.cell (p := ⟨w.heap.size, 1, none⟩) hzg).trans g1
      have rRw3_2 := (hbRw3.cell (p := ⟨w.heap.size, 2, none⟩) hzg).trans g2
      have rRw3_3 := (hbRw3.cell (p := ⟨w.heap.size + 1, 0, none⟩) hzh).trans h0
      have rRw3_4 := (hbRw3.cell (p := ⟨w.heap.size + 1, 1, none⟩) hzh).trans h1
      have rRw3_5 := (hbRw3.cell (p := ⟨w.heap.size + 1, 2, none⟩) hzh).trans h2
      go_wp2_with fail
      refine hK.out _ _ ⟨rRw3_0, rRw3_1, rRw3_2, rRw3_3, rRw3_4, rRw3_5⟩ (fun hS => ?_)
      clear hK
      try simp only [Act.put, List.setIfInBounds_toArray, List.set_cons_zero, List.set_cons_succ]
      refine wpAnyH_oneD (i := 11) rfl (by kernel_rfl) (fun K hK => ?_)
      rw [if_pos (by kernel_rfl)]
      go_simp
      refine (sameR_any ai ae al ni ci ne ce nl cl bi be bl mi di me de ml dl G H _ B (hG0.below hbRw3 hB0) (hH0.below hbRw3 hB0) (Nat.le_trans hB0 hbRw3.size) (by omega) (by omega) (by omega) (fun l hl => Nat.le_trans (kr l hl) (by omega))).mono ?_
      rintro e Rw4 ⟨rfl, hbRw4'⟩
      have hbRw4 : Below w0.heap.size w0 Rw4 := hbRw3.trans (hbRw4'.mono hbRw3.size)
      have hzRw4 := hbRw4.size
      have rRw4_0 := (hbRw4.cell (p := ⟨w.heap.size, 0, none⟩) hzg).trans g0
      have rRw4_1 := (hbRw4.cell (p := ⟨w.heap.size, 1, none⟩) hzg).trans g1
      have rRw4_2 := (hbRw4.cell (p := ⟨w.heap.size, 2, none⟩) hzg).trans g2
      have rRw4_3 := (hbRw4.cell (p := ⟨w.heap.size + 1, 0, none⟩) hzh).trans h0
      have rRw4_4 := (hbRw4.cell (p := ⟨w.heap.size + 1, 1, none⟩) hzh).trans h1
      have rRw4_5 := (hbRw4.cell (p := ⟨w.heap.size + 1, 2, none⟩) hzh).trans h2
      generalize sameG G H = y at *
      have hyy : (y == y) = true := by simp
      go_wp2_with fail
      refine hK.out _ _ ⟨rRw4_0, rRw4_1, rRw4_2, rRw4_3, rRw4_4, rRw4_5⟩ (fun hS => ?_)
      clear hK
      try simp only [Act.put, List.setIfInBounds_toArray, List.set_cons_zero, List.set_cons_succ]
      refine wpAnyH_takeD (i := 12) (v := ?_) rfl (by kernel_rfl) (by kernel_rfl) (by kernel_rfl) (fun _ _ _ h => h) (Or.inl ⟨by kernel_rfl, ?_⟩) hS ?_
      rotate_left 1
      · (intro w' hSw; (try dsimp only at hSw); go_simp; try (with_reducible rfl))
      try simp only [Act.put, List.setIfInBounds_toArray, List.set_cons_zero, List.set_cons_succ]
      refine wpAnyH_takeD (i := 13) (v := ?_) rfl (by kernel_rfl) (by kernel_rfl) (by kernel_rfl) (fun _ _ _ h => h) (Or.inl ⟨by kernel_rfl, ?_⟩) hS ?_
      rotate_left 1
      · (intro w' hSw; (try dsimp only at hSw); go_simp; try (with_reducible rfl))
      try simp only [Act.put, List.setIfInBounds_toArray, List.set_cons_zero, List.set_cons_succ]
      refine wpAnyH_takeD (i := 14) (v := ?_) rfl (by kernel_rfl) (by kernel_rfl) (by kernel_rfl) (fun _ _ _ h => h) (Or.inl ⟨by kernel_rfl, ?_⟩) hS ?_
      rotate_left 1
      · (intro w' hSw; (try dsimp only at hSw); go_simp; try (with_reducible rfl))
      try simp only [Act.put, List.setIfInBounds_toArray, List.set_cons_zero, List.set_cons_succ]
      refine wpAnyH_takeD (i := 15) (v := ?_) rfl (by kernel_rfl) (by kernel_rfl) (by kernel_rfl) (fun _ _ _ h => h) (Or.inl ⟨by kernel_rfl, ?_⟩) hS ?_
      rotate_left 1
      · (intro w' hSw; (try dsimp only at hSw); go_simp; try (with_reducible rfl))
      try simp only [Act.put, List.setIfInBounds_toArray, List.set_cons_zero, List.set_cons_succ]
      refine wpAnyH_takeD (i := 16) (v := ?_) rfl (by kernel_rfl) (by kernel_rfl) (by kernel_rfl) (fun _ _ _ h => h) (Or.inl ⟨by kernel_rfl, ?_⟩) hS ?_
      rotate_left 1
      · (intro w' hSw; (try dsimp only at hSw); go_simp; try (with_reducible rfl))
      try simp only [Act.put, List.setIfInBounds_toArray, List.set_cons_zero, List.set_cons_succ]
      refine wpAnyH_oneD (i := 17) rfl (by kernel_rfl) (fun K hK => ?_)
      rw [if_pos (by kernel_rfl)]
      go_simp
      refine (sameP_any ai ae al ni ci ne ce nl cl ai ae al ni ci ne ce nl cl G G _ B (hG0.below hbRw4 hB0) (hG0.below hbRw4 hB0) (Nat.le_trans hB0 hbRw4.size) (by omega) (by omega) (by omega) (fun l hl => Nat.le_trans (kr l hl) (by omega))).mono ?_
      rw [show sameG G G = true by simp [sameG]]
      rintro e Rw5 ⟨rfl, hbRw5'⟩
      have hbRw5 : Below w0.heap.size w0 Rw5 := hbRw4.trans (hbRw5'.mono hbRw4.size)
      have hzRw5 := hbRw5.size
      have rRw5_0 := (hbRw5.cell (p := ⟨w.heap.size, 0, none⟩) hzg).trans g0
      have rRw5_1 := (hbRw5.cell (p := ⟨w.heap.size, 1, none⟩) hzg).trans g1
      have rRw5_2 := (hbRw5.cell (p := ⟨w.heap.size, 2, none⟩) hzg).trans g2
      have rRw5_3 := (hbRw5.cell (p := ⟨w.heap.size + 1, 0, none⟩) hzh).trans h0
      have rRw5_4 := (hbRw5.cell (p := ⟨w.heap.size + 1, 1, none⟩) hzh).trans h1
      have rRw5_5 := (hbRw5.cell (p := ⟨w.heap.size + 1, 2, none⟩) hzh).trans h2
      go_wp2_with fail
      refine hK.out _ _ ⟨rRw5_0, rRw5_1, rRw5_2, rRw5_3, rRw5_4, rRw5_5⟩ (fun hS => ?_)
      clear hK
      try simp only [Act.put, List.setIfInBounds_toArray, List.set_cons_zero, List.set_cons_succ]
      refine wpAnyH_takeD (i := 18) (v := ?_) rfl (by kernel_rfl) (by kernel_rfl) (by kernel_rfl) (fun _ _ _ h => h) (Or.inl ⟨by kernel_rfl, ?_⟩) hS ?_
      rotate_left 1
      · (intro w' hSw; (try dsimp only at hSw); go_simp; try (with_reducible rfl))
      try simp only [Act.put, List.setIfInBounds_toArray, List.set_cons_zero, List.set_cons_succ]
      refine wpAnyH_takeD (i := 19) (v := ?_) rfl (by kernel_rfl) (by kernel_rfl) (by kernel_rfl) (fun _ _ _ h => h) (Or.inl ⟨by kernel_rfl, ?_⟩) hS ?_
      rotate_left 1
      · (intro w' hSw; (try dsimp only at hSw); go_simp; try (with_reducible rfl))
      try simp only [Act.put, List.setIfInBounds_toArray, List.set_cons_zero, List.set_cons_succ]
      refine wpAnyH_oneD (i := 20) rfl (by kernel_rfl) (fun K hK => ?_)
      rw [if_pos (by kernel_rfl)]
      go_simp
      refine (awake_any _).mono ?_
      rintro e Rw6 ⟨rfl, hbRw6'⟩
      have hbRw6 : Below w0.heap.size w0 Rw6 := hbRw5.trans (hbRw6'.mono hbRw5.size)
      have hzRw6 := hbRw6.size
      have rRw6_0 := (hbRw6.cell (p := ⟨w.heap.size, 0, none⟩) hzg).trans g0
      have rRw6_1 := (hbRw6.cell (p := ⟨w.heap.size, 1, none⟩) hzg).trans g1
      have rRw6_2 := (hbRw6.cell (p := ⟨w.heap.size, 2, none⟩) hzg).trans g2
      have rRw6_3 := (hbRw6.cell (p := ⟨w.heap.size + 1, 0, none⟩) hzh).trans h0
      have rRw6_4 := (hbRw6.cell (p := ⟨w.heap.size + 1, 1, none⟩) hzh).trans h1
      have rRw6_5 := (hbRw6.cell (p := ⟨w.heap.size + 1, 2, none⟩) hzh).trans h2
      go_wp2_with fail
      refine hK.out _ _ ⟨rRw6_0, rRw6_1, rRw6_2, rRw6_3, rRw6_4, rRw6_5⟩ (fun hS => ?_)
      clear hK
      try simp only [Act.put, List.setIfInBounds_toArray, List.set_cons_zero, List.set_cons_succ]
      refine wpAnyH_takeD (i := 21) (v := ?_) rfl (by kernel_rfl) (by kernel_rfl) (by kernel_rfl) (fun _ _ _ h => h) (Or.inl ⟨by kernel_rfl, ?_⟩) hS ?_
      rotate_left 1
      · (intro w' hSw; (try dsimp only at hSw); go_simp; try (with_reducible rfl))
      try simp only [Act.put, List.setIfInBounds_toArray, List.set_cons_zero, List.set_cons_succ]
      refine wpAnyH_takeD (i := 22) (v := ?_) rfl (by kernel_rfl) (by kernel_rfl) (by kernel_rfl) (fun _ _ _ h => h) (Or.inl ⟨by kernel_rfl, ?_⟩) hS ?_
      rotate_left 1
      · (intro w' hSw; (try dsimp only at hSw); go_simp; try (with_reducible rfl))
      try simp only [Act.put, List.setIfInBounds_toArray, List.set_cons_zero, List.set_cons_succ]
      refine wpAnyH_done (by kernel_rfl) ?_ _
      go_wp2
      go_ret
      exact ⟨rfl, HB1.out.trans (hbRw6.mono (by omega))⟩
    · go_wp2_with fail
      refine (awake_any _).mono ?_
      rintro e wc ⟨rfl, hbc⟩
      go_wp2
      go_ret
      exact ⟨rfl, hb0.trans ((hbb.trans (hbc.mono hzb)).mono (by omega))⟩
  · go_wp2_with fail
    refine (awake_any _).mono ?_
    rintro e wc ⟨rfl, hbc⟩
    go_wp2
    go_ret
    exact ⟨rfl, hb0.trans ((hba.trans (hbc.mono hza)).mono (by omega))⟩
end Go.Proofs.Ytfpncpjdmgfkbaa
