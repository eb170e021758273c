/- The walk of layer 27: Shift. -/
import Derived.Test.YtkikkplpalabhaaWk12
namespace Go.Proofs.Ytkikkplpalabhaa
open Go.RowKit

set_option maxHeartbeats 8000000 in
set_option maxRecDepth 100000 in
theorem pShift_any (A1 A2 : Option Addr) (n1 c1 n2 c2 : Nat) (st lo : List Int) (n : Int) (w : World) (B : Nat) (h : WRd w B A1 A2 n1 c1 n2 c2 st lo) (hB : B ≤ w.heap.size) (hl : n1 + n2 ≤ 60000) (hn : n ≤ 9223372036854775807) :
    Calls Try.prog 43 #[.agg #[.slice A1 n1 c1, .slice A2 n2 c2], .int .i64 n] w (NewWord w (shiftP st lo n)) := by
  have HX := Lib.hid (box2 w (.cells #[.slice A1 n1 c1, .slice A2 n2 c2] 34) (.cells #[.slice none 0 0, .slice none 0 0] 34))
  have HC := Lib.hid (fun (w' : World) => pCheck_any A1 A2 n1 c1 n2 c2 st lo w' h.l1 h.l2 hl)
  have hcap1 := h.s1.cap
  have hcap2 := h.s2.cap
  have hmx1 : c1 ≤ 9223372036854775807 := by have := h.s1.max; unfold maxLen at this; omega
  have hmx2 : c2 ≤ 9223372036854775807 := by have := h.s2.max; unfold maxLen at this; omega
  have hmax : max n 0 = (n.toNat : Int) := by omega
  by_cases h0 : n2 = 0
  · have hlo : lo = [] := List.eq_nil_of_length_eq_zero (by have := h.l2; omega)
    have hN : shiftP st lo n = (st, lo) := by rw [shiftP, if_pos hlo]
    rw [hN]
    have hC := HC.out
    rw [if_pos h0] at hC
    have HC0 := Lib.hid hC
    have HWR := Lib.hid h
    have HL1 := Lib.hid h.l1
    have HL2 := Lib.hid h.l2
    clear hN h h0 hC hlo
    generalize n.toNat = k at *
    go_enter Try.func43, Try.ntmps43
    go_wp2_with fail
    · refine Calls.mono (HC0.out _) ?_
      rintro e wb ⟨rfl, hbb⟩
      obtain ⟨hb0, hx0, hx1, hxz⟩ := HX.out
      rw [hxz] at hbb
      have hbz := hbb.size
      have J0 : wb.cell? ⟨w.heap.size, 0, none⟩ = some (.slice A1 n1 c1) := by rw [cell_of_row _ _ 0 _ _ (0, 0) ((hbb.block w.heap.size (by omega)).trans hx0)]; rfl
      have J1 : wb.cell? ⟨w.heap.size, 1, none⟩ = some (.slice A2 n2 c2) := by rw [cell_of_row _ _ 1 _ _ (0, 0) ((hbb.block w.heap.size (by omega)).trans hx0)]; rfl
      have HRB := Lib.hid ((hbb.block (w.heap.size + 1) (by omega)).trans hx1)
      have hbB : Below w.heap.size w wb := hb0.trans (hbb.mono (by omega))
      have hzB : w.heap.size + 1 < wb.heap.size := by omega
      clear hx0 hx1 hxz hbb hb0 hbz
      go_wp2_with fail
      refine Calls.mono (HC0.out _) ?_
      rintro e wa ⟨rfl, hba⟩
      have haz := hba.size
      have HR := Lib.hid ((hba.block (w.heap.size + 1) (by omega)).trans HRB.out)
      have j0 := (hba.cell (p := ⟨w.heap.size, 0, none⟩) (show w.heap.size < wb.heap.size by omega)).trans J0
      have j1 := (hba.cell (p := ⟨w.heap.size, 1, none⟩) (show w.heap.size < wb.heap.size by omega)).trans J1
      have hz1 : w.heap.size + 1 < wa.heap.size := by omega
      have hz0 : w.heap.size < wa.heap.size := by omega
      have hb : Below w.heap.size w wa := hbB.trans (hba.mono (by omega))
      have hr := (HWR.out.below hb hB)
      have hC1 := fun (w' : World) (hb' : Below wa.heap.size wa w') => cloneU_any A1 n1 c1 (ucells st) w' wa.heap.size (hr.s1.below hb' (by omega) |>.up (by omega)) (ucells_one _) hb'.size (by omega)
      have hC2 := fun (w' : World) (hb' : Below wa.heap.size wa w') => cloneU_any A2 n2 c2 (ucells lo) w' wa.heap.size (hr.s2.below hb' (by omega) |>.up (by omega)) (ucells_one _) hb'.size (by omega)
      have HC1 := Lib.hid hC1
      have HC2 := Lib.hid hC2
      have hs0 : n1 - 0 = n1 := by omega
      clear hC1 hC2
      go_wp2_with fail
      refine wp_region_T (S := fun w' => w'.cell? ⟨w.heap.size, 0, none⟩ = some (.slice A1 n1 c1) ∧ w'.cell? ⟨w.heap.size, 1, none⟩ = some (.slice A2 n2 c2)) 9 (by kernel_rfl) ⟨j0, j1⟩ (fun hS => ?_)
      refine wpAnyT_takeD (i := 0) (v := ?_) rfl (by kernel_rfl) (by kernel_rfl) (by kernel_rfl) (by kernel_rfl) (fun _ _ _ h => h) (Or.inl ⟨by kernel_rfl, ?_⟩) hS ?_
      rotate_left 1
      · (intro w' hSw; (try dsimp only at hSw); go_simp; try (with_reducible rfl))
      try simp only [Act.put, List.setIfInBounds_toArray, List.set_cons_zero, List.set_cons_succ]
      refine wpAnyT_takeD (i := 1) (v := ?_) rfl (by kernel_rfl) (by kernel_rfl) (by kernel_rfl) (by kernel_rfl) (fun _ _ _ h => h) (Or.inl ⟨by kernel_rfl, ?_⟩) hS ?_
      rotate_left 1
      · (intro w' hSw; (try dsimp only at hSw); go_simp; try (with_reducible rfl))
      try simp only [Act.put, List.setIfInBounds_toArray, List.set_cons_zero, List.set_cons_succ]
      refine wpAnyT_takeD (i := 2) (v := ?_) rfl (by kernel_rfl) (by kernel_rfl) (by kernel_rfl) (by kernel_rfl) (fun _ _ _ h => h) (Or.inl ⟨by kernel_rfl, ?_⟩) hS ?_
      rotate_left 1
      · (intro w' hSw; (try dsimp only at hSw); go_simp; try (with_reducible rfl))
      try simp only [Act.put, List.setIfInBounds_toArray, List.set_cons_zero, List.set_cons_succ]
      refine wpAnyT_takeD (i := 3) (v := ?_) rfl (by kernel_rfl) (by kernel_rfl) (by kernel_rfl) (by kernel_rfl) (fun _ _ _ h => h) (Or.inl ⟨by kernel_rfl, ?_⟩) hS ?_
      rotate_left 1
      · (intro w' hSw; (try dsimp only at hSw); go_simp; try (with_reducible rfl))
      try simp only [Act.put, List.setIfInBounds_toArray, List.set_cons_zero, List.set_cons_succ]
      refine wpAnyT_takeD (i := 5) (v := ?_) rfl (by kernel_rfl) (by kernel_rfl) (by kernel_rfl) (by kernel_rfl) (fun _ _ _ h => h) (Or.inl ⟨by kernel_rfl, ?_⟩) hS ?_
      rotate_left 1
      · (intro w' hSw; (try dsimp only at hSw); go_simp; try (with_reducible rfl))
      try simp only [Act.put, List.setIfInBounds_toArray, List.set_cons_zero, List.set_cons_succ]
      refine wpAnyT_takeD (i := 6) (v := ?_) rfl (by kernel_rfl) (by kernel_rfl) (by kernel_rfl) (by kernel_rfl) (fun _ _ _ h => h) (Or.inl ⟨by kernel_rfl, ?_⟩) hS ?_
      rotate_left 1
      · (intro w' hSw; (try dsimp only at hSw); go_simp; try (with_reducible rfl))
      try simp only [Act.put, List.setIfInBounds_toArray, List.set_cons_zero, List.set_cons_succ]
      refine wpAnyT_oneD (i := 4) rfl (by kernel_rfl) (by decide) (fun K hK => ?_)
      go_simp
      refine Calls.mono (HC1.out _ (Below.refl _ _).drew) ?_
      rintro e w6 ⟨v1, rfl, ho1, hb6', -⟩
      obtain ⟨A6, c6, rfl, -⟩ := own_sl ho1
      have hb6 : Below wa.heap.size wa w6 := below_undrew hb6'
      clear hb6'
      have k0 := (hb6.cell (p := ⟨w.heap.size, 0, none⟩) hz0).trans j0
      have k1 := (hb6.cell (p := ⟨w.heap.size, 1, none⟩) hz0).trans j1
      have hm6 := hb6.size
      go_wp2_with fail
      refine hK.out _ _ ⟨k0, k1⟩ (fun hS => ?_)
      clear hK
      try simp only [Act.put, List.setIfInBounds_toArray, List.set_cons_zero, List.set_cons_succ]
      refine wpAnyT_oneD (i := 7) rfl (by kernel_rfl) (by decide) (fun K hK => ?_)
      go_simp
      refine Calls.mono (HC2.out _ hb6) ?_
      rintro e w7 ⟨v2, rfl, ho2, hb7, -⟩
      obtain ⟨A7, c7, rfl, -⟩ := own_sl ho2
      have q0 := (hb7.cell (p := ⟨w.heap.size, 0, none⟩) (show w.heap.size < w6.heap.size by omega)).trans k0
      have q1 := (hb7.cell (p := ⟨w.heap.size, 1, none⟩) (show w.heap.size < w6.heap.size by omega)).trans k1
      have hw7 := hb6.trans (hb7.mono hm6)
      have hr7 := (hb7.block (w.heap.size + 1) (by omega)).trans ((hb6.block (w.heap.size + 1) hz1).trans HR.out)
      have hf0 := frozen_of_row _ _ 0 _ _ hr7
      have hf1 := frozen_of_row _ _ 1 _ _ hr7
      have hg0 : w7.cell? ⟨w.heap.size + 1, 0, none⟩ = some (.slice none 0 0) := by rw [cell_of_row _ _ 0 _ _ (0, 0) hr7]; rfl
      have hg1 : w7.cell? ⟨w.heap.size + 1, 1, none⟩ = some (.slice none 0 0) := by rw [cell_of_row _ _ 1 _ _ (0, 0) hr7]; rfl
      go_wp2_with fail
      refine hK.out _ _ ⟨q0, q1⟩ (fun hS => ?_)
      clear hK
      try simp only [Act.put, List.setIfInBounds_toArray, List.set_cons_zero, List.set_cons_succ]
      refine wpAnyT_takeD (i := 8) (v := ?_) rfl (by kernel_rfl) (by kernel_rfl) (by kernel_rfl) (by kernel_rfl) (fun _ _ _ h => h) (Or.inl ⟨by kernel_rfl, ?_⟩) hS ?_
      rotate_left 1
      · (intro w' hSw; (try dsimp only at hSw); go_simp; try (with_reducible rfl))
      try simp only [Act.put, List.setIfInBounds_toArray, List.set_cons_zero, List.set_cons_succ]
      refine wpAnyT_endD rfl (by kernel_rfl) (by kernel_rfl) (fun K hK => ?_)
      go_simp
      refine hK.out _ _ ?_
      clear hK
      go_wp2_with fail
      refine bodyPost_ret (v := .agg #[.slice A6 n1 c6, .slice A7 n2 c7]) ?_ rfl ?_
      · obtain ⟨f0, f1⟩ := word_set (x := .slice A6 n1 c6) (y := .slice A7 n2 c7) hr7
        simp [results, Try.results43, go_sem, f0, f1]
      · exact nword_end (h := own_belW hb7 (Nat.le_refl _) ho1) (h' := own_base ho2 hm6) (hb.trans (hw7.mono (by omega))) (Nat.le_refl _) (by omega) hz1 HL1.out HL2.out rfl rfl
    · refine Calls.mono (HC0.out _) ?_
      rintro e wb ⟨rfl, hbb⟩
      obtain ⟨hb0, hx0, hx1, hxz⟩ := HX.out
      rw [hxz] at hbb
      have hbz := hbb.size
      have J0 : wb.cell? ⟨w.heap.size, 0, none⟩ = some (.slice A1 n1 c1) := by rw [cell_of_row _ _ 0 _ _ (0, 0) ((hbb.block w.heap.size (by omega)).trans hx0)]; rfl
      have J1 : wb.cell? ⟨w.heap.size, 1, none⟩ = some (.slice A2 n2 c2) := by rw [cell_of_row _ _ 1 _ _ (0, 0) ((hbb.block w.heap.size (by omega)).trans hx0)]; rfl
      have HRB := Lib.hid ((hbb.block (w.heap.size + 1) (by omega)).trans hx1)
      have hbB : Below w.heap.size w wb := hb0.trans (hbb.mono (by omega))
      have hzB : w.heap.size + 1 < wb.heap.size := by omega
      clear hx0 hx1 hxz hbb hb0 hbz
      go_wp2_with fail
      refine Calls.mono (HC0.out _) ?_
      rintro e wa ⟨rfl, hba⟩
      have haz := hba.size
      have HR := Lib.hid ((hba.block (w.heap.size + 1) (by omega)).trans HRB.out)
      have j0 := (hba.cell (p := ⟨w.heap.size, 0, none⟩) (show w.heap.size < wb.heap.size by omega)).trans J0
      have j1 := (hba.cell (p := ⟨w.heap.size, 1, none⟩) (show w.heap.size < wb.heap.size by omega)).trans J1
      have hz1 : w.heap.size + 1 < wa.heap.size := by omega
      have hz0 : w.heap.size < wa.heap.size := by omega
      have hb : Below w.heap.size w wa := hbB.trans (hba.mono (by omega))
      have hr := (HWR.out.below hb hB)
      have hC1 := fun (w' : World) (hb' : Below wa.heap.size wa w') => cloneU_any A1 n1 c1 (ucells st) w' wa.heap.size (hr.s1.below hb' (by omega) |>.up (by omega)) (ucells_one _) hb'.size (by omega)
      have hC2 := fun (w' : World) (hb' : Below wa.heap.size wa w') => cloneU_any A2 n2 c2 (ucells lo) w' wa.heap.size (hr.s2.below hb' (by omega) |>.up (by omega)) (ucells_one _) hb'.size (by omega)
      have HC1 := Lib.hid hC1
      have HC2 := Lib.hid hC2
      have hs0 : n1 - 0 = n1 := by omega
      clear hC1 hC2
      go_wp2_with fail
      refine wp_region_T (S := fun w' => w'.cell? ⟨w.heap.size, 0, none⟩ = some (.slice A1 n1 c1) ∧ w'.cell? ⟨w.heap.size, 1, none⟩ = some (.slice A2 n2 c2)) 9 (by kernel_rfl) ⟨j0, j1⟩ (fun hS => ?_)
      refine wpAnyT_takeD (i := 0) (v := ?_) rfl (by kernel_rfl) (by kernel_rfl) (by kernel_rfl) (by kernel_rfl) (fun _ _ _ h => h) (Or.inl ⟨by kernel_rfl, ?_⟩) hS ?_
      rotate_left 1
      · (intro w' hSw; (try dsimp only at hSw); go_simp; try (with_reducible rfl))
      try simp only [Act.put, List.setIfInBounds_toArray, List.set_cons_zero, List.set_cons_succ]
      refine wpAnyT_takeD (i := 1) (v := ?_) rfl (by kernel_rfl) (by kernel_rfl) (by kernel_rfl) (by kernel_rfl) (fun _ _ _ h => h) (Or.inl ⟨by kernel_rfl, ?_⟩) hS ?_
      rotate_left 1
      · (intro w' hSw; (try dsimp only at hSw); go_simp; try (with_reducible rfl))
      try simp only [Act.put, List.setIfInBounds_toArray, List.set_cons_zero, List.set_cons_succ]
      refine wpAnyT_takeD (i := 2) (v := ?_) rfl (by kernel_rfl) (by kernel_rfl) (by kernel_rfl) (by kernel_rfl) (fun _ _ _ h => h) (Or.inl ⟨by kernel_rfl, ?_⟩) hS ?_
      rotate_left 1
      · (intro w' hSw; (try dsimp only at hSw); go_simp; try (with_reducible rfl))
      try simp only [Act.put, List.setIfInBounds_toArray, List.set_cons_zero, List.set_cons_succ]
      refine wpAnyT_takeD (i := 3) (v := ?_) rfl (by kernel_rfl) (by kernel_rfl) (by kernel_rfl) (by kernel_rfl) (fun _ _ _ h => h) (Or.inl ⟨by kernel_rfl, ?_⟩) hS ?_
      rotate_left 1
      · (intro w' hSw; (try dsimp only at hSw); go_simp; try (with_reducible rfl))
      try simp only [Act.put, List.setIfInBounds_toArray, List.set_cons_zero, List.set_cons_succ]
      refine wpAnyT_takeD (i := 5) (v := ?_) rfl (by kernel_rfl) (by kernel_rfl) (by kernel_rfl) (by kernel_rfl) (fun _ _ _ h => h) (Or.inl ⟨by kernel_rfl, ?_⟩) hS ?_
      rotate_left 1
      · (intro w' hSw; (try dsimp only at hSw); go_simp; try (with_reducible rfl))
      try simp only [Act.put, List.setIfInBounds_toArray, List.set_cons_zero, List.set_cons_succ]
      refine wpAnyT_takeD (i := 6) (v := ?_) rfl (by kernel_rfl) (by kernel_rfl) (by kernel_rfl) (by kernel_rfl) (fun _ _ _ h => h) (Or.inl ⟨by kernel_rfl, ?_⟩) hS ?_
      rotate_left 1
      · (intro w' hSw; (try dsimp only at hSw); go_simp; try (with_reducible rfl))
      try simp only [Act.put, List.setIfInBounds_toArray, List.set_cons_zero, List.set_cons_succ]
      refine wpAnyT_oneD (i := 4) rfl (by kernel_rfl) (by decide) (fun K hK => ?_)
      go_simp
      refine Calls.mono (HC1.out _ (Below.refl _ _).drew) ?_
      rintro e w6 ⟨v1, rfl, ho1, hb6', -⟩
      obtain ⟨A6, c6, rfl, -⟩ := own_sl ho1
      have hb6 : Below wa.heap.size wa w6 := below_undrew hb6'
      clear hb6'
      have k0 := (hb6.cell (p := ⟨w.heap.size, 0, none⟩) hz0).trans j0
      have k1 := (hb6.cell (p := ⟨w.heap.size, 1, none⟩) hz0).trans j1
      have hm6 := hb6.size
      go_wp2_with fail
      refine hK.out _ _ ⟨k0, k1⟩ (fun hS => ?_)
      clear hK
      try simp only [Act.put, List.setIfInBounds_toArray, List.set_cons_zero, List.set_cons_succ]
      refine wpAnyT_oneD (i := 7) rfl (by kernel_rfl) (by decide) (fun K hK => ?_)
      go_simp
      refine Calls.mono (HC2.out _ hb6) ?_
      rintro e w7 ⟨v2, rfl, ho2, hb7, -⟩
      obtain ⟨A7, c7, rfl, -⟩ := own_sl ho2
      have q0 := (hb7.cell (p := ⟨w.heap.size, 0, none⟩) (show w.heap.size < w6.heap.size by omega)).trans k0
      have q1 := (hb7.cell (p := ⟨w.heap.size, 1, none⟩) (show w.heap.size < w6.heap.size by omega)).trans k1
      have hw7 := hb6.trans (hb7.mono hm6)
      have hr7 := (hb7.block (w.heap.size + 1) (by omega)).trans ((hb6.block (w.heap.size + 1) hz1).trans HR.out)
      have hf0 := frozen_of_row _ _ 0 _ _ hr7
      have hf1 := frozen_of_row _ _ 1 _ _ hr7
      have hg0 : w7.cell? ⟨w.heap.size + 1, 0, none⟩ = some (.slice none 0 0) := by rw [cell_of_row _ _ 0 _ _ (0, 0) hr7]; rfl
      have hg1 : w7.cell? ⟨w.heap.size + 1, 1, none⟩ = some (.slice none 0 0) := by rw [cell_of_row _ _ 1 _ _ (0, 0) hr7]; rfl
      go_wp2_with fail
      refine hK.out _ _ ⟨q0, q1⟩ (fun hS => ?_)
      clear hK
      try simp only [Act.put, List.setIfInBounds_toArray, List.set_cons_zero, List.set_cons_succ]
      refine wpAnyT_takeD (i := 8) (v := ?_) rfl (by kernel_rfl) (by kernel_rfl) (by kernel_rfl) (by kernel_rfl) (fun _ _ _ h => h) (Or.inl ⟨by kernel_rfl, ?_⟩) hS ?_
      rotate_left 1
      · (intro w' hSw; (try dsimp only at hSw); go_simp; try (with_reducible rfl))
      try simp only [Act.put, List.setIfInBounds_toArray, List.set_cons_zero, List.set_cons_succ]
      refine wpAnyT_endD rfl (by kernel_rfl) (by kernel_rfl) (fun K hK => ?_)
      go_simp
      refine hK.out _ _ ?_
      clear hK
      go_wp2_with fail
      refine bodyPost_ret (v := .agg #[.slice A6 n1 c6, .slice A7 n2 c7]) ?_ rfl ?_
      · obtain ⟨f0, f1⟩ := word_set (x := .slice A6 n1 c6) (y := .slice A7 n2 c7) hr7
        simp [results, Try.results43, go_sem, f0, f1]
      · exact nword_end (h := own_belW hb7 (Nat.le_refl _) ho1) (h' := own_base ho2 hm6) (hb.trans (hw7.mono (by omega))) (Nat.le_refl _) (by omega) hz1 HL1.out HL2.out rfl rfl
  have hC := HC.out
  rw [if_neg h0] at hC
  have HC0 := Lib.hid hC
  have HWR := Lib.hid h
  have HL1 := Lib.hid h.l1
  have HL2 := Lib.hid h.l2
  have hlo0 : lo ≠ [] := fun e => h0 (by have := h.l2; rw [e] at this; simpa using this)
  rw [show shiftP st lo n = shiftL st lo n.toNat by rw [shiftP, if_neg hlo0]]
  clear h hC hmax
  by_cases hle : n.toNat ≤ n1
  · have hP : shiftL st lo n.toNat = (st.drop n.toNat, lo) := by rw [shiftL, if_pos (by rw [← HL1.out]; exact hle)]
    rw [hP]
    obtain ⟨P, HPP⟩ : ∃ P : List Int × List Int, Hid (P = (st.drop n.toNat, lo)) := ⟨_, Lib.hid rfl⟩
    rw [← HPP.out]
    clear hP
    have hmx : max n 0 = (n.toNat : Int) := by omega
    go_enter Try.func43, Try.ntmps43
    go_wp2_with fail
    · refine Calls.mono (HC0.out _) ?_
      rintro e wb ⟨rfl, hbb⟩
      obtain ⟨hb0, hx0, hx1, hxz⟩ := HX.out
      rw [hxz] at hbb
      have hbz := hbb.size
      have J0 : wb.cell? ⟨w.heap.size, 0, none⟩ = some (.slice A1 n1 c1) := by rw [cell_of_row _ _ 0 _ _ (0, 0) ((hbb.block w.heap.size (by omega)).trans hx0)]; rfl
      have J1 : wb.cell? ⟨w.heap.size, 1, none⟩ = some (.slice A2 n2 c2) := by rw [cell_of_row _ _ 1 _ _ (0, 0) ((hbb.block w.heap.size (by omega)).trans hx0)]; rfl
      have HRB := Lib.hid ((hbb.block (w.heap.size + 1) (by omega)).trans hx1)
      have hbB : Below w.heap.size w wb := hb0.trans (hbb.mono (by omega))
      have hzB : w.heap.size + 1 < wb.heap.size := by omega
      clear hx0 hx1 hxz hbb hb0 hbz
      go_wp2_with fail
      refine Calls.mono (HC0.out _) ?_
      rintro e wa ⟨rfl, hba⟩
      have haz := hba.size
      have HR := Lib.hid ((hba.block (w.heap.size + 1) (by omega)).trans HRB.out)
      have j0 := (hba.cell (p := ⟨w.heap.size, 0, none⟩) (show w.heap.size < wb.heap.size by omega)).trans J0
      have j1 := (hba.cell (p := ⟨w.heap.size, 1, none⟩) (show w.heap.size < wb.heap.size by omega)).trans J1
      have hz1 : w.heap.size + 1 < wa.heap.size := by omega
      have hz0 : w.heap.size < wa.heap.size := by omega
      have hb : Below w.heap.size w wa := hbB.trans (hba.mono (by omega))
      have hr := (HWR.out.below hb hB)
      have hk0 : n.toNat = 0 := by omega
      have eP1 : P.1 = st := by rw [HPP.out, hk0]; rfl
      clear hk0
      have s1 := hr.s1
      have HE1 : Hid (n1 = P.1.length) := Lib.hid (by rw [eP1]; exact HL1.out)
      have hC1 := fun (w' : World) (hb' : Below wa.heap.size wa w') => cloneU_any A1 n1 c1 (ucells st) w' wa.heap.size (s1.below hb' (by omega) |>.up (by omega)) (ucells_one _) hb'.size (by omega)
      have hC2 := fun (w' : World) (hb' : Below wa.heap.size wa w') => cloneU_any A2 n2 c2 (ucells lo) w' wa.heap.size (hr.s2.below hb' (by omega) |>.up (by omega)) (ucells_one _) hb'.size (by omega)
      have eP2 : P.2 = lo := by rw [HPP.out]
      have HE2 : Hid (n2 = P.2.length) := Lib.hid (by rw [eP2]; exact HL2.out)
      rw [← eP1] at hC1
      rw [← eP2] at hC2
      have HC1 := Lib.hid hC1
      have HC2 := Lib.hid hC2
      clear hC1 hC2 s1 eP1 eP2
      go_wp2_with fail
      refine wp_region_T (S := fun w' => w'.cell? ⟨w.heap.size, 0, none⟩ = some (.slice A1 n1 c1) ∧ w'.cell? ⟨w.heap.size, 1, none⟩ = some (.slice A2 n2 c2)) 9 (by kernel_rfl) ⟨j0, j1⟩ (fun hS => ?_)
      refine wpAnyT_takeD (i := 0) (v := ?_) rfl (by kernel_rfl) (by kernel_rfl) (by kernel_rfl) (by kernel_rfl) (fun _ _ _ h => h) (Or.inl ⟨by kernel_rfl, ?_⟩) hS ?_
      rotate_left 1
      · (intro w' hSw; (try dsimp only at hSw); go_simp; try (with_reducible rfl))
      try simp only [Act.put, List.setIfInBounds_toArray, List.set_cons_zero, List.set_cons_succ]
      refine wpAnyT_takeD (i := 1) (v := ?_) rfl (by kernel_rfl) (by kernel_rfl) (by kernel_rfl) (by kernel_rfl) (fun _ _ _ h => h) (Or.inl ⟨by kernel_rfl, ?_⟩) hS ?_
      rotate_left 1
      · (intro w' hSw; (try dsimp only at hSw); go_simp; try (with_reducible rfl))
      try simp only [Act.put, List.setIfInBounds_toArray, List.set_cons_zero, List.set_cons_succ]
      refine wpAnyT_takeD (i := 2) (v := ?_) rfl (by kernel_rfl) (by kernel_rfl) (by kernel_rfl) (by kernel_rfl) (fun _ _ _ h => h) (Or.inl ⟨by kernel_rfl, ?_⟩) hS ?_
      rotate_left 1
      · (intro w' hSw; (try dsimp only at hSw); go_simp; try (with_reducible rfl))
      try simp only [Act.put, List.setIfInBounds_toArray, List.set_cons_zero, List.set_cons_succ]
      refine wpAnyT_takeD (i := 3) (v := ?_) rfl (by kernel_rfl) (by kernel_rfl) (by kernel_rfl) (by kernel_rfl) (fun _ _ _ h => h) (Or.inl ⟨by kernel_rfl, ?_⟩) hS ?_
      rotate_left 1
      · (intro w' hSw; (try dsimp only at hSw); go_simp; try (with_reducible rfl))
      try simp only [Act.put, List.setIfInBounds_toArray, List.set_cons_zero, List.set_cons_succ]
      refine wpAnyT_takeD (i := 5) (v := ?_) rfl (by kernel_rfl) (by kernel_rfl) (by kernel_rfl) (by kernel_rfl) (fun _ _ _ h => h) (Or.inl ⟨by kernel_rfl, ?_⟩) hS ?_
      rotate_left 1
      · (intro w' hSw; (try dsimp only at hSw); go_simp; try (with_reducible rfl))
      try simp only [Act.put, List.setIfInBounds_toArray, List.set_cons_zero, List.set_cons_succ]
      refine wpAnyT_takeD (i := 6) (v := ?_) rfl (by kernel_rfl) (by kernel_rfl) (by kernel_rfl) (by kernel_rfl) (fun _ _ _ h => h) (Or.inl ⟨by kernel_rfl, ?_⟩) hS ?_
      rotate_left 1
      · (intro w' hSw; (try dsimp only at hSw); go_simp; try (with_reducible rfl))
      try simp only [Act.put, List.setIfInBounds_toArray, List.set_cons_zero, List.set_cons_succ]
      refine wpAnyT_oneD (i := 4) rfl (by kernel_rfl) (by decide) (fun K hK => ?_)
      go_simp
      refine Calls.mono (HC1.out _ (Below.refl _ _).drew) ?_
      rintro e w6 ⟨v1, rfl, ho1, hb6', -⟩
      obtain ⟨A6, c6, rfl, -⟩ := own_sl ho1
      have hb6 : Below wa.heap.size wa w6 := below_undrew hb6'
      clear hb6'
      have k0 := (hb6.cell (p := ⟨w.heap.size, 0, none⟩) hz0).trans j0
      have k1 := (hb6.cell (p := ⟨w.heap.size, 1, none⟩) hz0).trans j1
      have hm6 := hb6.size
      go_wp2_with fail
      refine hK.out _ _ ⟨k0, k1⟩ (fun hS => ?_)
      clear hK
      try simp only [Act.put, List.setIfInBounds_toArray, List.set_cons_zero, List.set_cons_succ]
      refine wpAnyT_oneD (i := 7) rfl (by kernel_rfl) (by decide) (fun K hK => ?_)
      go_simp
      refine Calls.mono (HC2.out _ hb6) ?_
      rintro e w7 ⟨v2, rfl, ho2, hb7, -⟩
      obtain ⟨A7, c7, rfl, -⟩ := own_sl ho2
      have q0 := (hb7.cell (p := ⟨w.heap.size, 0, none⟩) (show w.heap.size < w6.heap.size by omega)).trans k0
      have q1 := (hb7.cell (p := ⟨w.heap.size, 1, none⟩) (show w.heap.size < w6.heap.size by omega)).trans k1
      have hw7 := hb6.trans (hb7.mono hm6)
      have hr7 := (hb7.block (w.heap.size + 1) (by omega)).trans ((hb6.block (w.heap.size + 1) hz1).trans HR.out)
      have hf0 := frozen_of_row _ _ 0 _ _ hr7
      have hf1 := frozen_of_row _ _ 1 _ _ hr7
      have hg0 : w7.cell? ⟨w.heap.size + 1, 0, none⟩ = some (.slice none 0 0) := by rw [cell_of_row _ _ 0 _ _ (0, 0) hr7]; rfl
      have hg1 : w7.cell? ⟨w.heap.size + 1, 1, none⟩ = some (.slice none 0 0) := by rw [cell_of_row _ _ 1 _ _ (0, 0) hr7]; rfl
      go_wp2_with fail
      refine hK.out _ _ ⟨q0, q1⟩ (fun hS => ?_)
      clear hK
      try simp only [Act.put, List.setIfInBounds_toArray, List.set_cons_zero, List.set_cons_succ]
      refine wpAnyT_takeD (i := 8) (v := ?_) rfl (by kernel_rfl) (by kernel_rfl) (by kernel_rfl) (by kernel_rfl) (fun _ _ _ h => h) (Or.inl ⟨by kernel_rfl, ?_⟩) hS ?_
      rotate_left 1
      · (intro w' hSw; (try dsimp only at hSw); go_simp; try (with_reducible rfl))
      try simp only [Act.put, List.setIfInBounds_toArray, List.set_cons_zero, List.set_cons_succ]
      refine wpAnyT_endD rfl (by kernel_rfl) (by kernel_rfl) (fun K hK => ?_)
      go_simp
      refine hK.out _ _ ?_
      clear hK
      go_wp2_with fail
      refine bodyPost_ret (v := .agg #[.slice A6 n1 c6, .slice A7 n2 c7]) ?_ rfl ?_
      · obtain ⟨f0, f1⟩ := word_set (x := .slice A6 n1 c6) (y := .slice A7 n2 c7) hr7
        simp [results, Try.results43, go_sem, f0, f1]
      · exact nword_end (h := own_belW hb7 (Nat.le_refl _) ho1) (h' := own_base ho2 hm6) (hb.trans (hw7.mono (by omega))) (Nat.le_refl _) (by omega) hz1 HE1.out HE2.out rfl rfl
    · refine Calls.mono (HC0.out _) ?_
      rintro e wb ⟨rfl, hbb⟩
      obtain ⟨hb0, hx0, hx1, hxz⟩ := HX.out
      rw [hxz] at hbb
      have hbz := hbb.size
      have J0 : wb.cell? ⟨w.heap.size, 0, none⟩ = some (.slice A1 n1 c1) := by rw [cell_of_row _ _ 0 _ _ (0, 0) ((hbb.block w.heap.size (by omega)).trans hx0)]; rfl
      have J1 : wb.cell? ⟨w.heap.size, 1, none⟩ = some (.slice A2 n2 c2) := by rw [cell_of_row _ _ 1 _ _ (0, 0) ((hbb.block w.heap.size (by omega)).trans hx0)]; rfl
      have HRB := Lib.hid ((hbb.block (w.heap.size + 1) (by omega)).trans hx1)
      have hbB : Below w.heap.size w wb := hb0.trans (hbb.mono (by omega))
      have hzB : w.heap.size + 1 < wb.heap.size := by omega
      clear hx0 hx1 hxz hbb hb0 hbz
      go_wp2_with fail
      refine Calls.mono (HC0.out _) ?_
      rintro e wa ⟨rfl, hba⟩
      have haz := hba.size
      have HR := Lib.hid ((hba.block (w.heap.size + 1) (by omega)).trans HRB.out)
      have j0 := (hba.cell (p := ⟨w.heap.size, 0, none⟩) (show w.heap.size < wb.heap.size by omega)).trans J0
      have j1 := (hba.cell (p := ⟨w.heap.size, 1, none⟩) (show w.heap.size < wb.heap.size by omega)).trans J1
      have hz1 : w.heap.size + 1 < wa.heap.size := by omega
      have hz0 : w.heap.size < wa.heap.size := by omega
      have hb : Below w.heap.size w wa := hbB.trans (hba.mono (by omega))
      have hr := (HWR.out.below hb hB)
      obtain ⟨k, rfl⟩ : ∃ k : Nat, n = (k : Int) := ⟨n.toNat, by omega⟩
      rw [Int.toNat_natCast] at *
      have i1 : (k : Int) ≤ (n1 : Int) := by omega
      have eP1 : P.1 = st.drop k := by rw [HPP.out]
      have s1 := hr.s1.drop (k := k) (by omega)
      rw [← ucells_drop] at s1
      simp only [Nat.mul_one] at s1
      obtain ⟨A', hif⟩ : ∃ A', (if c1 = k then A1 else A1.map (fun x => x.add k)) = A' := ⟨_, rfl⟩
      rw [hif] at s1
      have HE1 : Hid (n1 - k = P.1.length) := Lib.hid (by rw [eP1, List.length_drop, ← HL1.out])
      have hC1 := fun (w' : World) (hb' : Below wa.heap.size wa w') => cloneU_any A' (n1 - k) (c1 - k) (ucells (st.drop k)) w' wa.heap.size (s1.below hb' (by omega) |>.up (by omega)) (ucells_one _) hb'.size (by omega)
      have hC2 := fun (w' : World) (hb' : Below wa.heap.size wa w') => cloneU_any A2 n2 c2 (ucells lo) w' wa.heap.size (hr.s2.below hb' (by omega) |>.up (by omega)) (ucells_one _) hb'.size (by omega)
      have eP2 : P.2 = lo := by rw [HPP.out]
      have HE2 : Hid (n2 = P.2.length) := Lib.hid (by rw [eP2]; exact HL2.out)
      rw [← eP1] at hC1
      rw [← eP2] at hC2
      have HC1 := Lib.hid hC1
      have HC2 := Lib.hid hC2
      clear hC1 hC2 s1 eP1 eP2
      go_wp2_with fail
      refine wp_region_T (S := fun w' => w'.cell? ⟨w.heap.size, 0, none⟩ = some (.slice A1 n1 c1) ∧ w'.cell? ⟨w.heap.size, 1, none⟩ = some (.slice A2 n2 c2)) 9 (by kernel_rfl) ⟨j0, j1⟩ (fun hS => ?_)
      refine wpAnyT_takeD (i := 0) (v := ?_) rfl (by kernel_rfl) (by kernel_rfl) (by kernel_rfl) (by kernel_rfl) (fun _ _ _ h => h) (Or.inl ⟨by kernel_rfl, ?_⟩) hS ?_
      rotate_left 1
      · (intro w' hSw; (try dsimp only at hSw); go_simp; try (with_reducible rfl))
      try simp only [Act.put, List.setIfInBounds_toArray, List.set_cons_zero, List.set_cons_succ]
      refine wpAnyT_takeD (i := 1) (v := ?_) rfl (by kernel_rfl) (by kernel_rfl) (by kernel_rfl) (by kernel_rfl) (fun _ _ _ h => h) (Or.inl ⟨by kernel_rfl, ?_⟩) hS ?_
      rotate_left 1
      · (intro w' hSw; (try dsimp only at hSw); go_simp; try (with_reducible rfl))
      try simp only [Act.put, List.setIfInBounds_toArray, List.set_cons_zero, List.set_cons_succ]
      refine wpAnyT_takeD (i := 2) (v := ?_) rfl (by kernel_rfl) (by kernel_rfl) (by kernel_rfl) (by kernel_rfl) (fun _ _ _ h => h) (Or.inl ⟨by kernel_rfl, ?_⟩) hS ?_
      rotate_left 1
      · (intro w' hSw; (try dsimp only at hSw); go_simp; try (with_reducible rfl))
      try simp only [Act.put, List.setIfInBounds_toArray, List.set_cons_zero, List.set_cons_succ]
      refine wpAnyT_takeD (i := 3) (v := ?_) rfl (by kernel_rfl) (by kernel_rfl) (by kernel_rfl) (by kernel_rfl) (fun _ _ _ h => h) (Or.inl ⟨by kernel_rfl, ?_⟩) hS ?_
      rotate_left 1
      · (intro w' hSw; (try dsimp only at hSw); go_simp; try (with_reducible rfl))
      try simp only [Act.put, List.setIfInBounds_toArray, List.set_cons_zero, List.set_cons_succ]
      refine wpAnyT_takeD (i := 5) (v := ?_) rfl (by kernel_rfl) (by kernel_rfl) (by kernel_rfl) (by kernel_rfl) (fun _ _ _ h => h) (Or.inl ⟨by kernel_rfl, ?_⟩) hS ?_
      rotate_left 1
      · (intro w' hSw; (try dsimp only at hSw); go_simp; try (with_reducible rfl))
      try simp only [Act.put, List.setIfInBounds_toArray, List.set_cons_zero, List.set_cons_succ]
      refine wpAnyT_takeD (i := 6) (v := ?_) rfl (by kernel_rfl) (by kernel_rfl) (by kernel_rfl) (by kernel_rfl) (fun _ _ _ h => h) (Or.inl ⟨by kernel_rfl, ?_⟩) hS ?_
      rotate_left 1
      · (intro w' hSw; (try dsimp only at hSw); go_simp; try (with_reducible rfl))
      try simp only [Act.put, List.setIfInBounds_toArray, List.set_cons_zero, List.set_cons_succ]
      refine wpAnyT_oneD (i := 4) rfl (by kernel_rfl) (by decide) (fun K hK => ?_)
      go_simp
      refine Calls.mono (HC1.out _ (Below.refl _ _).drew) ?_
      rintro e w6 ⟨v1, rfl, ho1, hb6', -⟩
      obtain ⟨A6, c6, rfl, -⟩ := own_sl ho1
      have hb6 : Below wa.heap.size wa w6 := below_undrew hb6'
      clear hb6'
      have k0 := (hb6.cell (p := ⟨w.heap.size, 0, none⟩) hz0).trans j0
      have k1 := (hb6.cell (p := ⟨w.heap.size, 1, none⟩) hz0).trans j1
      have hm6 := hb6.size
      go_wp2_with fail
      refine hK.out _ _ ⟨k0, k1⟩ (fun hS => ?_)
      clear hK
      try simp only [Act.put, List.setIfInBounds_toArray, List.set_cons_zero, List.set_cons_succ]
      refine wpAnyT_oneD (i := 7) rfl (by kernel_rfl) (by decide) (fun K hK => ?_)
      go_simp
      refine Calls.mono (HC2.out _ hb6) ?_
      rintro e w7 ⟨v2, rfl, ho2, hb7, -⟩
      obtain ⟨A7, c7, rfl, -⟩ := own_sl ho2
      have q0 := (hb7.cell (p := ⟨w.heap.size, 0, none⟩) (show w.heap.size < w6.heap.size by omega)).trans k0
      have q1 := (hb7.cell (p := ⟨w.heap.size, 1, none⟩) (show w.heap.size < w6.heap.size by omega)).trans k1
      have hw7 := hb6.trans (hb7.mono hm6)
      have hr7 := (hb7.block (w.heap.size + 1) (by omega)).trans ((hb6.block (w.heap.size + 1) hz1).trans HR.out)
      have hf0 := frozen_of_row _ _ 0 _ _ hr7
      have hf1 := frozen_of_row _ _ 1 _ _ hr7
      have hg0 : w7.cell? ⟨w.heap.size + 1, 0, none⟩ = some (.slice none 0 0) := by rw [cell_of_row _ _ 0 _ _ (0, 0) hr7]; rfl
      have hg1 : w7.cell? ⟨w.heap.size + 1, 1, none⟩ = some (.slice none 0 0) := by rw [cell_of_row _ _ 1 _ _ (0, 0) hr7]; rfl
      go_wp2_with fail
      refine hK.out _ _ ⟨q0, q1⟩ (fun hS => ?_)
      clear hK
      try simp only [Act.put, List.setIfInBounds_toArray, List.set_cons_zero, List.set_cons_succ]
      refine wpAnyT_takeD (i := 8) (v := ?_) rfl (by kernel_rfl) (by kernel_rfl) (by kernel_rfl) (by kernel_rfl) (fun _ _ _ h => h) (Or.inl ⟨by kernel_rfl, ?_⟩) hS ?_
      rotate_left 1
      · (intro w' hSw; (try dsimp only at hSw); go_simp; try (with_reducible rfl))
      try simp only [Act.put, List.setIfInBounds_toArray, List.set_cons_zero, List.set_cons_succ]
      refine wpAnyT_endD rfl (by kernel_rfl) (by kernel_rfl) (fun K hK => ?_)
      go_simp
      refine hK.out _ _ ?_
      clear hK
      go_wp2_with fail
      refine bodyPost_ret (v := .agg #[.slice A6 (n1 - k) c6, .slice A7 n2 c7]) ?_ rfl ?_
      · obtain ⟨f0, f1⟩ := word_set (x := .slice A6 (n1 - k) c6) (y := .slice A7 n2 c7) hr7
        simp [results, Try.results43, go_sem, f0, f1]
      · exact nword_end (h := own_belW hb7 (Nat.le_refl _) ho1) (h' := own_base ho2 hm6) (hb.trans (hw7.mono (by omega))) (Nat.le_refl _) (by omega) hz1 HE1.out HE2.out rfl rfl
  obtain ⟨k, rfl⟩ : ∃ k : Nat, n = (k : Int) := ⟨n.toNat, by omega⟩
  rw [Int.toNat_natCast] at *
  obtain ⟨d, hd⟩ : ∃ d, d = k - n1 := ⟨_, rfl⟩
  obtain ⟨r, hr0⟩ : ∃ r, r = d % n2 := ⟨_, rfl⟩
  have hrn : r < n2 := by rw [hr0]; exact Nat.mod_lt _ (by omega)
  have hkb : k ≤ 9223372036854775807 := by omega
  have e1 : IntKind.i64.wrap ((k : Int) - (n1 : Int)) = (d : Int) := by rw [IntWalk.i64_in _ (by omega)]; omega
  have e2 : ((d : Int)).tmod (n2 : Int) = (r : Int) := by rw [Int.tmod_eq_emod_of_nonneg (by omega)]; omega
  obtain ⟨P, HPP⟩ : ∃ P : List Int × List Int, Hid (P = ([], lo.drop r ++ lo.take r)) := ⟨_, Lib.hid rfl⟩
  have hP : shiftL st lo k = P := by rw [HPP.out, shiftL, if_neg (by rw [← HL1.out]; exact hle), ← HL1.out, ← HL2.out, ← hd, ← hr0]
  rw [hP]
  have dl : ¬ k ≤ n1 := hle
  have HRN := Lib.hid hrn
  clear hP hd hr0 hrn
  go_enter Try.func43, Try.ntmps43
  go_wp2_with fail
  refine Calls.mono (HC0.out _) ?_
  rintro e wa ⟨rfl, hba⟩
  obtain ⟨hb0, hx0, hx1, hxz⟩ := HX.out
  rw [hxz] at hba
  have haz := hba.size
  have j0 : wa.cell? ⟨w.heap.size, 0, none⟩ = some (.slice A1 n1 c1) := by rw [cell_of_row _ _ 0 _ _ (0, 0) ((hba.block w.heap.size (by omega)).trans hx0)]; rfl
  have j1 : wa.cell? ⟨w.heap.size, 1, none⟩ = some (.slice A2 n2 c2) := by rw [cell_of_row _ _ 1 _ _ (0, 0) ((hba.block w.heap.size (by omega)).trans hx0)]; rfl
  have HR := Lib.hid ((hba.block (w.heap.size + 1) (by omega)).trans hx1)
  have hb : Below w.heap.size w wa := hb0.trans (hba.mono (by omega))
  have hz1 : w.heap.size + 1 < wa.heap.size := by omega
  clear hx0 hx1 hxz hba hb0 haz
  have hz0 : w.heap.size < wa.heap.size := by omega
  have hr := (HWR.out.below hb hB)
  have eP1 : P.1 = [] := by rw [HPP.out]
  have eP2 : P.2 = lo.drop r ++ lo.take r := by rw [HPP.out]
  have HE1 : Hid (0 = P.1.length) := Lib.hid (by rw [eP1]; rfl)
  have HE2 : Hid (n2 = P.2.length) := Lib.hid (by rw [eP2]; simp only [List.length_append, List.length_drop, List.length_take]; have := HL2.out; have := HRN.out; omega)
  have hC2 := fun (w' : World) (hb' : Below wa.heap.size wa w') => turned_any A2 n2 c2 r lo w' wa.heap.size (hr.s2.below hb' (by omega) |>.up (by omega)) HL2.out HRN.out hb'.size (by omega)
  rw [← eP2] at hC2
  have HC2 := Lib.hid hC2
  clear hC2 eP2
  go_wp2_with fail
  refine wp_region_T (S := fun w' => w'.cell? ⟨w.heap.size, 0, none⟩ = some (.slice A1 n1 c1) ∧ w'.cell? ⟨w.heap.size, 1, none⟩ = some (.slice A2 n2 c2)) 13 (by kernel_rfl) ⟨j0, j1⟩ (fun hS => ?_)
  refine wpAnyT_takeD (i := 0) (v := ?_) rfl (by kernel_rfl) (by kernel_rfl) (by kernel_rfl) (by kernel_rfl) (fun _ _ _ h => h) (Or.inl ⟨by kernel_rfl, ?_⟩) hS ?_
  rotate_left 1
  · (intro w' hSw; (try dsimp only at hSw); go_simp; try (with_reducible rfl))
  try simp only [Act.put, List.setIfInBounds_toArray, List.set_cons_zero, List.set_cons_succ]
  refine wpAnyT_takeD (i := 1) (v := ?_) rfl (by kernel_rfl) (by kernel_rfl) (by kernel_rfl) (by kernel_rfl) (fun _ _ _ h => h) (Or.inl ⟨by kernel_rfl, ?_⟩) hS ?_
  rotate_left 1
  · (intro w' hSw; (try dsimp only at hSw); go_simp; try (with_reducible rfl))
  try simp only [Act.put, List.setIfInBounds_toArray, List.set_cons_zero, List.set_cons_succ]
  refine wpAnyT_takeD (i := 2) (v := ?_) rfl (by kernel_rfl) (by kernel_rfl) (by kernel_rfl) (by kernel_rfl) (fun _ _ _ h => h) (Or.inl ⟨by kernel_rfl, ?_⟩) hS ?_
  rotate_left 1
  · (intro w' hSw; (try dsimp only at hSw); go_simp; try (with_reducible rfl))
  try simp only [Act.put, List.setIfInBounds_toArray, List.set_cons_zero, List.set_cons_succ]
  refine wpAnyT_takeD (i := 3) (v := ?_) rfl (by kernel_rfl) (by kernel_rfl) (by kernel_rfl) (by kernel_rfl) (fun _ _ _ h => h) (Or.inl ⟨by kernel_rfl, ?_⟩) hS ?_
  rotate_left 1
  · (intro w' hSw; (try dsimp only at hSw); go_simp; try (with_reducible rfl))
  try simp only [Act.put, List.setIfInBounds_toArray, List.set_cons_zero, List.set_cons_succ]
  refine wpAnyT_takeD (i := 4) (v := ?_) rfl (by kernel_rfl) (by kernel_rfl) (by kernel_rfl) (by kernel_rfl) (fun _ _ _ h => h) (Or.inl ⟨by kernel_rfl, ?_⟩) hS ?_
  rotate_left 1
  · (intro w' hSw; (try dsimp only at hSw); go_simp; try (with_reducible rfl))
  try simp only [Act.put, List.setIfInBounds_toArray, List.set_cons_zero, List.set_cons_succ]
  refine wpAnyT_takeD (i := 5) (v := ?_) rfl (by kernel_rfl) (by kernel_rfl) (by kernel_rfl) (by kernel_rfl) (fun _ _ _ h => h) (Or.inl ⟨by kernel_rfl, ?_⟩) hS ?_
  rotate_left 1
  · (intro w' hSw; (try dsimp only at hSw); go_simp; try (with_reducible rfl))
  try simp only [Act.put, List.setIfInBounds_toArray, List.set_cons_zero, List.set_cons_succ]
  refine wpAnyT_takeD (i := 6) (v := ?_) rfl (by kernel_rfl) (by kernel_rfl) (by kernel_rfl) (by kernel_rfl) (fun _ _ _ h => h) (Or.inl ⟨by kernel_rfl, ?_⟩) hS ?_
  rotate_left 1
  · (intro w' hSw; (try dsimp only at hSw); go_simp; try (with_reducible rfl))
  try simp only [Act.put, List.setIfInBounds_toArray, List.set_cons_zero, List.set_cons_succ]
  refine wpAnyT_takeD (i := 7) (v := ?_) rfl (by kernel_rfl) (by kernel_rfl) (by kernel_rfl) (by kernel_rfl) (fun _ _ _ h => h) (Or.inl ⟨by kernel_rfl, ?_⟩) hS ?_
  rotate_left 1
  · (intro w' hSw; (try dsimp only at hSw); go_simp; try (with_reducible rfl))
  try simp only [Act.put, List.setIfInBounds_toArray, List.set_cons_zero, List.set_cons_succ]
  refine wpAnyT_takeD (i := 8) (v := ?_) rfl (by kernel_rfl) (by kernel_rfl) (by kernel_rfl) (by kernel_rfl) (fun _ _ _ h => h) (Or.inl ⟨by kernel_rfl, ?_⟩) hS ?_
  rotate_left 1
  · (intro w' hSw; (try dsimp only at hSw); go_simp; try (with_reducible rfl))
  try simp only [Act.put, List.setIfInBounds_toArray, List.set_cons_zero, List.set_cons_succ]
  refine wpAnyT_takeD (i := 9) (v := ?_) rfl (by kernel_rfl) (by kernel_rfl) (by kernel_rfl) (by kernel_rfl) (fun _ _ _ h => h) (Or.inl ⟨by kernel_rfl, ?_⟩) hS ?_
  rotate_left 1
  · (intro w' hSw; (try dsimp only at hSw); go_simp; try (with_reducible rfl))
  try simp only [Act.put, List.setIfInBounds_toArray, List.set_cons_zero, List.set_cons_succ]
  refine wpAnyT_takeD (i := 10) (v := ?_) rfl (by kernel_rfl) (by kernel_rfl) (by kernel_rfl) (by kernel_rfl) (fun _ _ _ h => h) (Or.inl ⟨by kernel_rfl, ?_⟩) hS ?_
  rotate_left 1
  · (intro w' hSw; (try dsimp only at hSw); go_simp; try (with_reducible rfl))
  try simp only [Act.put, List.setIfInBounds_toArray, List.set_cons_zero, List.set_cons_succ]
  refine wpAnyT_oneD (i := 11) rfl (by kernel_rfl) (by decide) (fun K hK => ?_)
  go_simp
  refine Calls.mono (HC2.out _ (Below.refl _ _).drew) ?_
  rintro e w7 ⟨v2, rfl, ho2, hb7', -⟩
  obtain ⟨A7, c7, rfl, -⟩ := own_sl ho2
  have hb7 : Below wa.heap.size wa w7 := below_undrew hb7'
  clear hb7'
  have q0 := (hb7.cell (p := ⟨w.heap.size, 0, none⟩) hz0).trans j0
  have q1 := (hb7.cell (p := ⟨w.heap.size, 1, none⟩) hz0).trans j1
  have hr7 := (hb7.block (w.heap.size + 1) hz1).trans HR.out
  have hf0 := frozen_of_row _ _ 0 _ _ hr7
  have hf1 := frozen_of_row _ _ 1 _ _ hr7
  have hg0 : w7.cell? ⟨w.heap.size + 1, 0, none⟩ = some (.slice none 0 0) := by rw [cell_of_row _ _ 0 _ _ (0, 0) hr7]; rfl
  have hg1 : w7.cell? ⟨w.heap.size + 1, 1, none⟩ = some (.slice none 0 0) := by rw [cell_of_row _ _ 1 _ _ (0, 0) hr7]; rfl
  go_wp2_with fail
  refine hK.out _ _ ⟨q0, q1⟩ (fun hS => ?_)
  clear hK
  try simp only [Act.put, List.setIfInBounds_toArray, List.set_cons_zero, List.set_cons_succ]
  refine wpAnyT_takeD (i := 12) (v := ?_) rfl (by kernel_rfl) (by kernel_rfl) (by kernel_rfl) (by kernel_rfl) (fun _ _ _ h => h) (Or.inl ⟨by kernel_rfl, ?_⟩) hS ?_
  rotate_left 1
  · (intro w' hSw; (try dsimp only at hSw); go_simp; try (with_reducible rfl))
  try simp only [Act.put, List.setIfInBounds_toArray, List.set_cons_zero, List.set_cons_succ]
  refine wpAnyT_endD rfl (by kernel_rfl) (by kernel_rfl) (fun K hK => ?_)
  go_simp
  refine hK.out _ _ ?_
  clear hK
  go_wp2_with fail
  refine bodyPost_ret (v := .agg #[.slice none 0 0, .slice A7 n2 c7]) ?_ rfl ?_
  · obtain ⟨f0, f1⟩ := word_set (x := .slice none 0 0) (y := .slice A7 n2 c7) hr7
    simp [results, Try.results43, go_sem, f0, f1]
  · exact nword_end (h := by rw [eP1]; exact World.ownsRow_nil w7 _ _ _) (h' := ho2) (hb.trans (hb7.mono (by omega))) (Nat.le_refl _) (by omega) hz1 HE1.out HE2.out rfl rfl
end Go.Proofs.Ytkikkplpalabhaa
