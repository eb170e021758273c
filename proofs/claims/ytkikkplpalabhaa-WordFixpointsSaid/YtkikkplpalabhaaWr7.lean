/- The walks of layer 27's reference: Norm, Shift. -/
import Derived.Test.YtkikkplpalabhaaWr6
namespace Go.Proofs.Ytkikkplpalabhaa
open Go.RowKit

set_option maxHeartbeats 2000000 in
theorem rNorm0_any (A1 A2 : Option Addr) (n1 c1 n2 c2 : Nat) (st lo : List Int) (w : World) (B : Nat) (h : WRd w B A1 A2 n1 c1 n2 c2 st lo) (hl : n1 + n2 ≤ 60000) (h0 : n2 = 0) :
    Calls Try.prog 42 #[.agg #[.slice A1 n1 c1, .slice A2 n2 c2]] w fun e w' => e = .returned (.agg #[.slice A1 n1 c1, .slice A2 n2 c2]) ∧ Below w.heap.size w w' := by
  have HX := Lib.hid (box2 w (.cells #[.slice A1 n1 c1, .slice A2 n2 c2] 34) (.cells #[.slice none 0 0, .slice none 0 0] 34))
  have HC := Lib.hid (fun (w' : World) => rCheck_any A1 A2 n1 c1 n2 c2 st lo w' h.l1 h.l2 hl)
  have hC := HC.out
  rw [if_pos h0] at hC
  have HC0 := Lib.hid hC
  clear h hC HC h0
  go_enter Try.func42, Try.ntmps42
  go_wp2_with fail
  refine Calls.mono (HC0.out _) ?_
  rintro e wa ⟨rfl, hba⟩
  obtain ⟨hb0, hx0, hx1, hxz⟩ := HX.out
  rw [hxz] at hba
  have hr7 := (hba.block (w.heap.size + 1) (by omega)).trans hx1
  have hf0 := frozen_of_row _ _ 0 _ _ hr7
  have hf1 := frozen_of_row _ _ 1 _ _ hr7
  have hg0 : wa.cell? ⟨w.heap.size + 1, 0, none⟩ = some (.slice none 0 0) := by rw [cell_of_row _ _ 0 _ _ (0, 0) hr7]; rfl
  have hg1 : wa.cell? ⟨w.heap.size + 1, 1, none⟩ = some (.slice none 0 0) := by rw [cell_of_row _ _ 1 _ _ (0, 0) hr7]; rfl
  have j0 : wa.cell? ⟨w.heap.size, 0, none⟩ = some (.slice A1 n1 c1) := by rw [cell_of_row _ _ 0 _ _ (0, 0) ((hba.block w.heap.size (by omega)).trans hx0)]; rfl
  have j1 : wa.cell? ⟨w.heap.size, 1, none⟩ = some (.slice A2 n2 c2) := by rw [cell_of_row _ _ 1 _ _ (0, 0) ((hba.block w.heap.size (by omega)).trans hx0)]; rfl
  have hb : Below w.heap.size w wa := hb0.trans (hba.mono (by omega))
  go_wp2_with fail
  refine bodyPost_ret (v := .agg #[.slice A1 n1 c1, .slice A2 n2 c2]) ?_ rfl ?_
  · obtain ⟨f0, f1⟩ := word_set (x := .slice A1 n1 c1) (y := .slice A2 n2 c2) hr7
    simp [results, Try.results42, go_sem, f0, f1]
  · exact ⟨rfl, (hb.setCell (p := ⟨w.heap.size + 1, 0, none⟩) (by show w.heap.size ≤ w.heap.size + 1; omega) _).setCell (p := ⟨w.heap.size + 1, 1, none⟩) (by show w.heap.size ≤ w.heap.size + 1; omega) _⟩

set_option maxHeartbeats 8000000 in
set_option maxRecDepth 100000 in
theorem rNorm_any (A1 A2 : Option Addr) (n1 c1 n2 c2 : Nat) (st lo : List Int) (w : World) (B : Nat) (h : WRd w B A1 A2 n1 c1 n2 c2 st lo) (hB : B ≤ w.heap.size) (hl : n1 + n2 ≤ 60000) (h0 : n2 ≠ 0) :
    Calls Try.prog 42 #[.agg #[.slice A1 n1 c1, .slice A2 n2 c2]] w (NewWord w (normL st lo)) := by
  have HX := Lib.hid (box2 w (.cells #[.slice A1 n1 c1, .slice A2 n2 c2] 34) (.cells #[.slice none 0 0, .slice none 0 0] 34))
  have HC := Lib.hid (fun (w' : World) => rCheck_any A1 A2 n1 c1 n2 c2 st lo w' h.l1 h.l2 hl)
  have hC := HC.out
  rw [if_neg h0] at hC
  have HC0 := Lib.hid hC
  have HWR := Lib.hid h
  have hlo0 : lo ≠ [] := fun e => h0 (by have := h.l2; rw [e] at this; simpa using this)
  have HL1 := Lib.hid h.l1
  have HL2 := Lib.hid h.l2
  have hpl := (period_spec hlo0).2.1
  obtain ⟨p, HPL⟩ : ∃ p, Hid (p = periodL lo) := ⟨_, Lib.hid rfl⟩
  have hp1 : 1 ≤ p := by rw [HPL.out]; exact (period_spec hlo0).1
  have hpn : p ≤ n2 := by rw [HPL.out, h.l2]; exact hpl
  have HAT := Lib.hid (fun (W : World) (k : Nat) (hk : k ≤ 1000000) (hb : Below w.heap.size w W) => (atW_nat st lo k) ▸ rAt_any A1 A2 n1 c1 n2 c2 st lo (k : Int) W B (h.below hb hB) (Nat.le_trans hB hb.size) hl (by omega))
  have HPT := Lib.hid (fun (W : World) (fr tk : Nat) (h1 : fr ≤ 200000) (h2 : tk ≤ 200000) (hb : Below w.heap.size w W) => rpart_any A1 A2 n1 c1 n2 c2 fr tk st lo W B (h.below hb hB) (Nat.le_trans hB hb.size) hl h1 h2)
  have HP0 := Lib.hid (fun (W : World) (tk : Nat) (h2 : tk ≤ 200000) (hb : Below w.heap.size w W) => by have := rpart_any A1 A2 n1 c1 n2 c2 0 tk st lo W B (h.below hb hB) (Nat.le_trans hB hb.size) hl (by omega) h2; rw [show ((0 : Nat) : Int) = 0 from rfl, Nat.sub_zero] at this; exact this)
  have HP := Lib.hid (fun (W : World) (hb : Below w.heap.size w W) => by have := rperiod_any A2 n2 c2 lo W B (h.s2.below hb hB) h.l2 (by omega); rw [← HPL.out] at this; exact this)
  clear hpl
  clear h hC HC
  go_enter Try.func42, Try.ntmps42
  go_wp2_with fail
  refine Calls.mono (HC0.out _) ?_
  rintro e w1 ⟨rfl, hba⟩
  obtain ⟨hb0, hx0, hx1, hxz⟩ := HX.out
  rw [hxz] at hba
  have HR1 := Lib.hid ((hba.block (w.heap.size + 1) (by omega)).trans hx1)
  have j0 : w1.cell? ⟨w.heap.size, 0, none⟩ = some (.slice A1 n1 c1) := by rw [cell_of_row _ _ 0 _ _ (0, 0) ((hba.block w.heap.size (by omega)).trans hx0)]; rfl
  have j1 : w1.cell? ⟨w.heap.size, 1, none⟩ = some (.slice A2 n2 c2) := by rw [cell_of_row _ _ 1 _ _ (0, 0) ((hba.block w.heap.size (by omega)).trans hx0)]; rfl
  have hz1 : w.heap.size + 1 < w1.heap.size := by have := hba.size; omega
  have hz0 : w.heap.size < w1.heap.size := by omega
  have hb1 : Below w.heap.size w w1 := hb0.trans (hba.mono (by omega))
  have HB0z : Hid (w.heap.size ≤ w.heap.size) := Lib.hid (Nat.le_refl _)
  clear hx0 hx1 hxz hba hb0 HX
  go_wp2_with fail
  refine Calls.mono (HP.out _ hb1) ?_
  rintro e _ ⟨rfl, m, rfl⟩
  obtain ⟨w4, hw4⟩ : ∃ W, W = w1.drewN m := ⟨_, rfl⟩
  rw [← hw4]
  have hb4 : Below w1.heap.size w1 w4 := by rw [hw4]; exact below_drewN (Below.refl _ _) m
  have hz4 := hb4.size
  clear hw4
  have k0 := (hb4.cell (p := ⟨w.heap.size, 0, none⟩) hz0).trans j0
  have k1 := (hb4.cell (p := ⟨w.heap.size, 1, none⟩) hz0).trans j1
  go_wp2_with fail
  go_loopw [4] (fun x wr => ∃ m : Nat, x = .int .i64 m ∧ m ≤ n1 ∧ Hid (stemN st lo = roll (seqW st lo) (periodL lo) m) ∧ Below w4.heap.size w4 wr) (fun x _ => (intOf x).toNat)
  case atStart => exact ⟨n1, rfl, Nat.le_refl _, Lib.hid (by rw [stemN, HL1.out]), Below.refl _ _⟩
  case round =>
    obtain ⟨m, rfl, hm, hro, hbr⟩ := hrel
    rename_i wr
    have hzr4 := hbr.size
    have hzr0 : w.heap.size ≤ wr.heap.size := by omega
    have hb : Below w.heap.size w wr := hb1.trans ((hb4.mono (by omega)).trans (hbr.mono (by omega)))
    have HR := Lib.hid ((hbr.block (w.heap.size + 1) (by omega)).trans ((hb4.block (w.heap.size + 1) (by omega)).trans HR1.out))
    have j0 := (hbr.cell (p := ⟨w.heap.size, 0, none⟩) (show w.heap.size < w4.heap.size by omega)).trans k0
    have j1 := (hbr.cell (p := ⟨w.heap.size, 1, none⟩) (show w.heap.size < w4.heap.size by omega)).trans k1
    have hz1 : w.heap.size + 1 < wr.heap.size := by omega
    have hz0 : w.heap.size < wr.heap.size := by omega
    clear k0 k1
    by_cases hm0 : m = 0
    · have hs : stemN st lo = m := by rw [hro.out, hm0, roll]
      have d0 : decide (0 < m) = false := by simp [hm0]
      clear hm0
      go_wp2_with fail
      refine wp_region_held_drew (S := fun w' => True) (by kernel_rfl) trivial (fun hS => ?_)
      refine wpAnyH_takeD (i := 0) (v := ?_) rfl (by kernel_rfl) (by kernel_rfl) (by kernel_rfl) (fun _ _ _ h => h) (Or.inl ⟨by kernel_rfl, ?_⟩) hS ?_
      rotate_left 1
      · (intro w' hSw; (try dsimp only at hSw); go_simp; try (with_reducible rfl))
      try simp only [Act.put, List.setIfInBounds_toArray, List.set_cons_zero, List.set_cons_succ]
      refine wpAnyH_takeD (i := 1) (v := ?_) rfl (by kernel_rfl) (by kernel_rfl) (by kernel_rfl) (fun _ _ _ h => h) (Or.inl ⟨by kernel_rfl, ?_⟩) hS ?_
      rotate_left 1
      · (intro w' hSw; (try dsimp only at hSw); go_simp; try (with_reducible rfl))
      try simp only [Act.put, List.setIfInBounds_toArray, List.set_cons_zero, List.set_cons_succ]
      refine wpAnyH_takeD (i := 2) (v := ?_) rfl (by kernel_rfl) (by kernel_rfl) (by kernel_rfl) (fun _ _ _ h => h) (Or.inl ⟨by kernel_rfl, ?_⟩) hS ?_
      rotate_left 1
      · (intro w' hSw; (try dsimp only at hSw); go_simp; try (with_reducible rfl))
      try simp only [Act.put, List.setIfInBounds_toArray, List.set_cons_zero, List.set_cons_succ]
      refine wpAnyH_takeD (i := 3) (v := undef) rfl (by kernel_rfl) (by kernel_rfl) (by kernel_rfl) (fun _ _ _ h => h) (Or.inr ⟨by kernel_rfl, rfl⟩) hS ?_
      try simp only [Act.put, List.setIfInBounds_toArray, List.set_cons_zero, List.set_cons_succ]
      refine wpAnyH_takeD (i := 4) (v := undef) rfl (by kernel_rfl) (by kernel_rfl) (by kernel_rfl) (fun _ _ _ h => h) (Or.inr ⟨by kernel_rfl, rfl⟩) hS ?_
      try simp only [Act.put, List.setIfInBounds_toArray, List.set_cons_zero, List.set_cons_succ]
      refine wpAnyH_takeD (i := 5) (v := undef) rfl (by kernel_rfl) (by kernel_rfl) (by kernel_rfl) (fun _ _ _ h => h) (Or.inr ⟨by kernel_rfl, rfl⟩) hS ?_
      try simp only [Act.put, List.setIfInBounds_toArray, List.set_cons_zero, List.set_cons_succ]
      refine wpAnyH_takeD (i := 6) (v := undef) rfl (by kernel_rfl) (by kernel_rfl) (by kernel_rfl) (fun _ _ _ h => h) (Or.inr ⟨by kernel_rfl, rfl⟩) hS ?_
      try simp only [Act.put, List.setIfInBounds_toArray, List.set_cons_zero, List.set_cons_succ]
      refine wpAnyH_takeD (i := 7) (v := undef) rfl (by kernel_rfl) (by kernel_rfl) (by kernel_rfl) (fun _ _ _ h => h) (Or.inr ⟨by kernel_rfl, rfl⟩) hS ?_
      try simp only [Act.put, List.setIfInBounds_toArray, List.set_cons_zero, List.set_cons_succ]
      refine wpAnyH_takeD (i := 8) (v := undef) rfl (by kernel_rfl) (by kernel_rfl) (by kernel_rfl) (fun _ _ _ h => h) (Or.inr ⟨by kernel_rfl, rfl⟩) hS ?_
      try simp only [Act.put, List.setIfInBounds_toArray, List.set_cons_zero, List.set_cons_succ]
      refine wpAnyH_takeD (i := 9) (v := undef) rfl (by kernel_rfl) (by kernel_rfl) (by kernel_rfl) (fun _ _ _ h => h) (Or.inr ⟨by kernel_rfl, rfl⟩) hS ?_
      try simp only [Act.put, List.setIfInBounds_toArray, List.set_cons_zero, List.set_cons_succ]
      refine wpAnyH_takeD (i := 10) (v := undef) rfl (by kernel_rfl) (by kernel_rfl) (by kernel_rfl) (fun _ _ _ h => h) (Or.inr ⟨by kernel_rfl, rfl⟩) hS ?_
      try simp only [Act.put, List.setIfInBounds_toArray, List.set_cons_zero, List.set_cons_succ]
      refine wpAnyH_takeD (i := 11) (v := undef) rfl (by kernel_rfl) (by kernel_rfl) (by kernel_rfl) (fun _ _ _ h => h) (Or.inr ⟨by kernel_rfl, rfl⟩) hS ?_
      try simp only [Act.put, List.setIfInBounds_toArray, List.set_cons_zero, List.set_cons_succ]
      refine wpAnyH_takeD (i := 12) (v := undef) rfl (by kernel_rfl) (by kernel_rfl) (by kernel_rfl) (fun _ _ _ h => h) (Or.inr ⟨by kernel_rfl, rfl⟩) hS ?_
      try simp only [Act.put, List.setIfInBounds_toArray, List.set_cons_zero, List.set_cons_succ]
      refine wpAnyH_takeD (i := 13) (v := undef) rfl (by kernel_rfl) (by kernel_rfl) (by kernel_rfl) (fun _ _ _ h => h) (Or.inr ⟨by kernel_rfl, rfl⟩) hS ?_
      try simp only [Act.put, List.setIfInBounds_toArray, List.set_cons_zero, List.set_cons_succ]
      refine wpAnyH_takeD (i := 14) (v := ?_) rfl (by kernel_rfl) (by kernel_rfl) (by kernel_rfl) (fun _ _ _ h => h) (Or.inl ⟨by kernel_rfl, ?_⟩) hS ?_
      rotate_left 1
      · (intro w' hSw; (try dsimp only at hSw); go_simp; try (with_reducible rfl))
      try simp only [Act.put, List.setIfInBounds_toArray, List.set_cons_zero, List.set_cons_succ]
      refine wpAnyH_done (by kernel_rfl) ?_ _
      obtain ⟨qe, HQE⟩ : ∃ q, Hid (q = m + p) := ⟨_, Lib.hid rfl⟩
      have hqe2 : qe ≤ 200000 := by have := HQE.out; omega
      have hres : normL st lo = (partW (seqW st lo) 0 m, partW (seqW st lo) m qe) := by rw [normL, hs, ← HPL.out, HQE.out]
      have u3 : IntKind.i64.wrap ((m : Int) + (p : Int)) = (qe : Int) := by rw [HQE.out, IntWalk.i64_in _ (by omega)]; omega
      have HRES := Lib.hid hres
      clear hres hs
      go_wp2_with fail
      obtain ⟨ws, hws⟩ : ∃ W, W = wr.drew := ⟨_, rfl⟩
      have hbs : Below wr.heap.size wr ws := by rw [hws]; exact (Below.refl _ _).drew
      rw [← hws]
      clear hws
      have hsz := hbs.size
      have hbw : Below w.heap.size w ws := below_tr hb hbs (by omega)
      have HRW := Lib.hid ((hbs.block (w.heap.size + 1) (by omega)).trans HR.out)
      have z0 := (hbs.cell (p := ⟨w.heap.size, 0, none⟩) (show w.heap.size < wr.heap.size by omega)).trans j0
      have z1 := (hbs.cell (p := ⟨w.heap.size, 1, none⟩) (show w.heap.size < wr.heap.size by omega)).trans j1
      have hzw : w.heap.size + 1 < ws.heap.size := by omega
      clear j0 j1 hb
      refine wp_region_T (S := fun w' => w'.cell? ⟨w.heap.size, 0, none⟩ = some (.slice A1 n1 c1) ∧ w'.cell? ⟨w.heap.size, 1, none⟩ = some (.slice A2 n2 c2)) 10 (by kernel_rfl) ⟨z0, z1⟩ (fun hS => ?_)
      refine wpAnyT_takeD (i := 0) (v := ?_) rfl (by kernel_rfl) (by kernel_rfl) (by kernel_rfl) (by kernel_rfl) (fun _ _ _ h => h) (Or.inl ⟨by kernel_rfl, ?_⟩) hS ?_
      rotate_left 1
      · (intro w' hSw; (try dsimp only at hSw); go_simp; try (with_reducible rfl))
      try simp only [Act.put, List.setIfInBounds_toArray, List.set_cons_zero, List.set_cons_succ]
      refine wpAnyT_takeD (i := 1) (v := ?_) rfl (by kernel_rfl) (by kernel_rfl) (by kernel_rfl) (by kernel_rfl) (fun _ _ _ h => h) (Or.inl ⟨by kernel_rfl, ?_⟩) hS ?_
      rotate_left 1
      · (intro w' hSw; (try dsimp only at hSw); go_simp; try (with_reducible rfl))
      try simp only [Act.put, List.setIfInBounds_toArray, List.set_cons_zero, List.set_cons_succ]
      refine wpAnyT_takeD (i := 3) (v := ?_) rfl (by kernel_rfl) (by kernel_rfl) (by kernel_rfl) (by kernel_rfl) (fun _ _ _ h => h) (Or.inl ⟨by kernel_rfl, ?_⟩) hS ?_
      rotate_left 1
      · (intro w' hSw; (try dsimp only at hSw); go_simp; try (with_reducible rfl))
      try simp only [Act.put, List.setIfInBounds_toArray, List.set_cons_zero, List.set_cons_succ]
      refine wpAnyT_takeD (i := 4) (v := ?_) rfl (by kernel_rfl) (by kernel_rfl) (by kernel_rfl) (by kernel_rfl) (fun _ _ _ h => h) (Or.inl ⟨by kernel_rfl, ?_⟩) hS ?_
      rotate_left 1
      · (intro w' hSw; (try dsimp only at hSw); go_simp; try (with_reducible rfl))
      try simp only [Act.put, List.setIfInBounds_toArray, List.set_cons_zero, List.set_cons_succ]
      refine wpAnyT_takeD (i := 5) (v := ?_) rfl (by kernel_rfl) (by kernel_rfl) (by kernel_rfl) (by kernel_rfl) (fun _ _ _ h => h) (Or.inl ⟨by kernel_rfl, ?_⟩) hS ?_
      rotate_left 1
      · (intro w' hSw; (try dsimp only at hSw); go_simp; try (with_reducible rfl))
      try simp only [Act.put, List.setIfInBounds_toArray, List.set_cons_zero, List.set_cons_succ]
      refine wpAnyT_takeD (i := 6) (v := ?_) rfl (by kernel_rfl) (by kernel_rfl) (by kernel_rfl) (by kernel_rfl) (fun _ _ _ h => h) (Or.inl ⟨by kernel_rfl, ?_⟩) hS ?_
      rotate_left 1
      · (intro w' hSw; (try dsimp only at hSw); go_simp; try (with_reducible rfl))
      try simp only [Act.put, List.setIfInBounds_toArray, List.set_cons_zero, List.set_cons_succ]
      refine wpAnyT_takeD (i := 7) (v := ?_) rfl (by kernel_rfl) (by kernel_rfl) (by kernel_rfl) (by kernel_rfl) (fun _ _ _ h => h) (Or.inl ⟨by kernel_rfl, ?_⟩) hS ?_
      rotate_left 1
      · (intro w' hSw; (try dsimp only at hSw); go_simp; try (with_reducible rfl))
      try simp only [Act.put, List.setIfInBounds_toArray, List.set_cons_zero, List.set_cons_succ]
      refine wpAnyT_oneD (i := 2) rfl (by kernel_rfl) (by decide) (fun K hK => ?_)
      go_simp
      refine Calls.mono (HP0.out _ m (by omega) (below_tr hbw (Below.refl _ _).drew (by omega))) ?_
      rintro e w6 ⟨v1, rfl, ho1, hb6', -⟩
      obtain ⟨A6, c6, rfl, -⟩ := own_sl ho1
      have hb6 : Below ws.heap.size ws w6 := below_undrew hb6'
      clear hb6'
      have k0 := (hb6.cell (p := ⟨w.heap.size, 0, none⟩) (show w.heap.size < ws.heap.size by omega)).trans z0
      have k1 := (hb6.cell (p := ⟨w.heap.size, 1, none⟩) (show w.heap.size < ws.heap.size by omega)).trans z1
      have hm6 := hb6.size
      go_wp2_with fail
      refine hK.out _ _ ⟨k0, k1⟩ (fun hS => ?_)
      clear hK
      try simp only [Act.put, List.setIfInBounds_toArray, List.set_cons_zero, List.set_cons_succ]
      refine wpAnyT_oneD (i := 8) rfl (by kernel_rfl) (by decide) (fun K hK => ?_)
      go_simp
      refine Calls.mono (HPT.out _ m qe (by omega) (by omega) (below_tr hbw hb6 (by omega))) ?_
      rintro e w7 ⟨v2, rfl, ho2, hb7, -⟩
      obtain ⟨A7, c7, rfl, -⟩ := own_sl ho2
      have q0 := (hb7.cell (p := ⟨w.heap.size, 0, none⟩) (show w.heap.size < w6.heap.size by omega)).trans k0
      have q1 := (hb7.cell (p := ⟨w.heap.size, 1, none⟩) (show w.heap.size < w6.heap.size by omega)).trans k1
      have hw7 := hb6.trans (hb7.mono hm6)
      have hr7 := (hb7.block (w.heap.size + 1) (by omega)).trans ((hb6.block (w.heap.size + 1) hzw).trans HRW.out)
      have hf0 := frozen_of_row _ _ 0 _ _ hr7
      have hf1 := frozen_of_row _ _ 1 _ _ hr7
      have hg0 : w7.cell? ⟨w.heap.size + 1, 0, none⟩ = some (.slice none 0 0) := by rw [cell_of_row _ _ 0 _ _ (0, 0) hr7]; rfl
      have hg1 : w7.cell? ⟨w.heap.size + 1, 1, none⟩ = some (.slice none 0 0) := by rw [cell_of_row _ _ 1 _ _ (0, 0) hr7]; rfl
      go_wp2_with fail
      refine hK.out _ _ ⟨q0, q1⟩ (fun hS => ?_)
      clear hK
      try simp only [Act.put, List.setIfInBounds_toArray, List.set_cons_zero, List.set_cons_succ]
      refine wpAnyT_takeD (i := 9) (v := ?_) rfl (by kernel_rfl) (by kernel_rfl) (by kernel_rfl) (by kernel_rfl) (fun _ _ _ h => h) (Or.inl ⟨by kernel_rfl, ?_⟩) hS ?_
      rotate_left 1
      · (intro w' hSw; (try dsimp only at hSw); go_simp; try (with_reducible rfl))
      try simp only [Act.put, List.setIfInBounds_toArray, List.set_cons_zero, List.set_cons_succ]
      refine wpAnyT_endD rfl (by kernel_rfl) (by kernel_rfl) (fun K hK => ?_)
      go_simp
      refine hK.out _ _ ?_
      clear hK
      go_wp2_with fail
      refine bodyPost_ret (v := .agg #[.slice A6 (m) c6, .slice A7 (qe - m) c7]) ?_ rfl ?_
      · obtain ⟨f0, f1⟩ := word_set (x := .slice A6 (m) c6) (y := .slice A7 (qe - m) c7) hr7
        simp [results, Try.results42, go_sem, f0, f1]
      · rw [HRES.out]
        exact nword_end (p := (_, _)) (h := own_belW hb7 (Nat.le_refl _) ho1) (h' := own_base ho2 hm6) (hbw.trans (hw7.mono (by omega))) (Nat.le_refl _) (by omega) hzw (by simp [partW_len]) (by simp [partW_len]) rfl rfl
    · obtain ⟨k, hmk⟩ : ∃ k, m = k + 1 := ⟨m - 1, by omega⟩
      have hro1 := hro.out
      rw [hmk, roll, ← HPL.out] at hro1
      have HRO := Lib.hid hro1
      have d0 : decide (0 < m) = true := by simp; omega
      have hk2 : k ≤ n1 := by omega
      have u1 : IntKind.i64.wrap ((m : Int) - 1) = (k : Int) := by rw [IntWalk.i64_in _ (by omega)]; omega
      have HM := Lib.hid hmk
      obtain ⟨q, HQ⟩ : ∃ q, Hid (q = k + p) := ⟨_, Lib.hid rfl⟩
      have hq2 : q ≤ 200000 := by have := HQ.out; omega
      have u2 : IntKind.i64.wrap ((k : Int) + (p : Int)) = (q : Int) := by rw [HQ.out, IntWalk.i64_in _ (by omega)]; omega
      have hcmp : ∀ b, (seqW st lo k == seqW st lo q) = b → (b = true ↔ seqW st lo k = seqW st lo (k + p)) := fun b hb => by rw [← hb, beq_iff_eq, HQ.out]
      obtain ⟨b, hbq⟩ : ∃ b, (seqW st lo k == seqW st lo q) = b := ⟨_, rfl⟩
      have HCM := Lib.hid (hcmp b hbq)
      clear hro1 hcmp hmk hm0
      go_wp2_with fail
      refine wp_region_held_drew (S := fun w' => w'.cell? ⟨w.heap.size, 0, none⟩ = some (.slice A1 n1 c1) ∧ w'.cell? ⟨w.heap.size, 1, none⟩ = some (.slice A2 n2 c2)) (by kernel_rfl) ⟨j0, j1⟩ (fun hS => ?_)
      refine wpAnyH_takeD (i := 0) (v := ?_) rfl (by kernel_rfl) (by kernel_rfl) (by kernel_rfl) (fun _ _ _ h => h) (Or.inl ⟨by kernel_rfl, ?_⟩) hS ?_
      rotate_left 1
      · (intro w' hSw; (try dsimp only at hSw); go_simp; try (with_reducible rfl))
      try simp only [Act.put, List.setIfInBounds_toArray, List.set_cons_zero, List.set_cons_succ]
      refine wpAnyH_takeD (i := 1) (v := ?_) rfl (by kernel_rfl) (by kernel_rfl) (by kernel_rfl) (fun _ _ _ h => h) (Or.inl ⟨by kernel_rfl, ?_⟩) hS ?_
      rotate_left 1
      · (intro w' hSw; (try dsimp only at hSw); go_simp; try (with_reducible rfl))
      try simp only [Act.put, List.setIfInBounds_toArray, List.set_cons_zero, List.set_cons_succ]
      refine wpAnyH_takeD (i := 2) (v := ?_) rfl (by kernel_rfl) (by kernel_rfl) (by kernel_rfl) (fun _ _ _ h => h) (Or.inl ⟨by kernel_rfl, ?_⟩) hS ?_
      rotate_left 1
      · (intro w' hSw; (try dsimp only at hSw); go_simp; try (with_reducible rfl))
      try simp only [Act.put, List.setIfInBounds_toArray, List.set_cons_zero, List.set_cons_succ]
      refine wpAnyH_takeD (i := 3) (v := ?_) rfl (by kernel_rfl) (by kernel_rfl) (by kernel_rfl) (fun _ _ _ h => h) (Or.inl ⟨by kernel_rfl, ?_⟩) hS ?_
      rotate_left 1
      · (intro w' hSw; (try dsimp only at hSw); go_simp; try (with_reducible rfl))
      try simp only [Act.put, List.setIfInBounds_toArray, List.set_cons_zero, List.set_cons_succ]
      refine wpAnyH_takeD (i := 4) (v := ?_) rfl (by kernel_rfl) (by kernel_rfl) (by kernel_rfl) (fun _ _ _ h => h) (Or.inl ⟨by kernel_rfl, ?_⟩) hS ?_
      rotate_left 1
      · (intro w' hSw; (try dsimp only at hSw); go_simp; try (with_reducible rfl))
      try simp only [Act.put, List.setIfInBounds_toArray, List.set_cons_zero, List.set_cons_succ]
      refine wpAnyH_takeD (i := 5) (v := ?_) rfl (by kernel_rfl) (by kernel_rfl) (by kernel_rfl) (fun _ _ _ h => h) (Or.inl ⟨by kernel_rfl, ?_⟩) hS ?_
      rotate_left 1
      · (intro w' hSw; (try dsimp only at hSw); go_simp; try (with_reducible rfl))
      try simp only [Act.put, List.setIfInBounds_toArray, List.set_cons_zero, List.set_cons_succ]
      refine wpAnyH_takeD (i := 7) (v := ?_) rfl (by kernel_rfl) (by kernel_rfl) (by kernel_rfl) (fun _ _ _ h => h) (Or.inl ⟨by kernel_rfl, ?_⟩) hS ?_
      rotate_left 1
      · (intro w' hSw; (try dsimp only at hSw); go_simp; try (with_reducible rfl))
      try simp only [Act.put, List.setIfInBounds_toArray, List.set_cons_zero, List.set_cons_succ]
      refine wpAnyH_takeD (i := 8) (v := ?_) rfl (by kernel_rfl) (by kernel_rfl) (by kernel_rfl) (fun _ _ _ h => h) (Or.inl ⟨by kernel_rfl, ?_⟩) hS ?_
      rotate_left 1
      · (intro w' hSw; (try dsimp only at hSw); go_simp; try (with_reducible rfl))
      try simp only [Act.put, List.setIfInBounds_toArray, List.set_cons_zero, List.set_cons_succ]
      refine wpAnyH_takeD (i := 9) (v := ?_) rfl (by kernel_rfl) (by kernel_rfl) (by kernel_rfl) (fun _ _ _ h => h) (Or.inl ⟨by kernel_rfl, ?_⟩) hS ?_
      rotate_left 1
      · (intro w' hSw; (try dsimp only at hSw); go_simp; try (with_reducible rfl))
      try simp only [Act.put, List.setIfInBounds_toArray, List.set_cons_zero, List.set_cons_succ]
      refine wpAnyH_takeD (i := 10) (v := ?_) rfl (by kernel_rfl) (by kernel_rfl) (by kernel_rfl) (fun _ _ _ h => h) (Or.inl ⟨by kernel_rfl, ?_⟩) hS ?_
      rotate_left 1
      · (intro w' hSw; (try dsimp only at hSw); go_simp; try (with_reducible rfl))
      try simp only [Act.put, List.setIfInBounds_toArray, List.set_cons_zero, List.set_cons_succ]
      refine wpAnyH_takeD (i := 11) (v := ?_) rfl (by kernel_rfl) (by kernel_rfl) (by kernel_rfl) (fun _ _ _ h => h) (Or.inl ⟨by kernel_rfl, ?_⟩) hS ?_
      rotate_left 1
      · (intro w' hSw; (try dsimp only at hSw); go_simp; try (with_reducible rfl))
      try simp only [Act.put, List.setIfInBounds_toArray, List.set_cons_zero, List.set_cons_succ]
      refine wpAnyH_oneD (i := 6) rfl (by kernel_rfl) (fun K hK => ?_)
      rw [if_pos (by kernel_rfl)]
      go_simp
      refine Calls.mono (HAT.out _ k (by omega) (below_tr hb (Below.refl _ _).drew (Nat.le_trans HB0z.out hzr0))) ?_
      rintro e wa ⟨rfl, hba'⟩
      have hba : Below wr.heap.size wr wa := below_undrew hba'
      have hbz := hba.size
      have k0 := (hba.cell (p := ⟨w.heap.size, 0, none⟩) (show w.heap.size < wr.heap.size by omega)).trans j0
      have k1 := (hba.cell (p := ⟨w.heap.size, 1, none⟩) (show w.heap.size < wr.heap.size by omega)).trans j1
      go_wp2_with fail
      refine hK.out _ _ ⟨k0, k1⟩ (fun hS => ?_)
      clear hK
      try simp only [Act.put, List.setIfInBounds_toArray, List.set_cons_zero, List.set_cons_succ]
      refine wpAnyH_oneD (i := 12) rfl (by kernel_rfl) (fun K hK => ?_)
      rw [if_pos (by kernel_rfl)]
      go_simp
      refine Calls.mono (HAT.out _ q (by omega) (below_tr hb hba (Nat.le_trans HB0z.out hzr0))) ?_
      rintro e wbb ⟨rfl, hbb'⟩
      have hbb : Below wr.heap.size wr wbb := hba.trans (hbb'.mono hba.size)
      have hbbz := hbb.size
      have q0 := (hbb'.cell (p := ⟨w.heap.size, 0, none⟩) (show w.heap.size < wa.heap.size by omega)).trans k0
      have q1 := (hbb'.cell (p := ⟨w.heap.size, 1, none⟩) (show w.heap.size < wa.heap.size by omega)).trans k1
      go_wp2_with fail
      refine hK.out _ _ ⟨q0, q1⟩ (fun hS => ?_)
      clear hK
      try simp only [Act.put, List.setIfInBounds_toArray, List.set_cons_zero, List.set_cons_succ]
      refine wpAnyH_takeD (i := 13) (v := ?_) rfl (by kernel_rfl) (by kernel_rfl) (by kernel_rfl) (fun _ _ _ h => h) (Or.inl ⟨by kernel_rfl, ?_⟩) hS ?_
      rotate_left 1
      · (intro w' hSw; (try dsimp only at hSw); go_simp; try (with_reducible rfl))
      try simp only [Act.put, List.setIfInBounds_toArray, List.set_cons_zero, List.set_cons_succ]
      refine wpAnyH_takeD (i := 14) (v := ?_) rfl (by kernel_rfl) (by kernel_rfl) (by kernel_rfl) (fun _ _ _ h => h) (Or.inl ⟨by kernel_rfl, ?_⟩) hS ?_
      rotate_left 1
      · (intro w' hSw; (try dsimp only at hSw); go_simp; try (with_reducible rfl))
      try simp only [Act.put, List.setIfInBounds_toArray, List.set_cons_zero, List.set_cons_succ]
      refine wpAnyH_done (by kernel_rfl) ?_ _
      cases b
      · have hne : ¬ seqW st lo k = seqW st lo (k + p) := fun e => by have := HCM.out.2 e; cases this
        have hs : stemN st lo = m := by rw [HRO.out, if_neg hne, HM.out]
        clear hne HCM HRO u1 u2 k0 k1 hbq
        obtain ⟨qe, HQE⟩ : ∃ q, Hid (q = m + p) := ⟨_, Lib.hid rfl⟩
        have hqe2 : qe ≤ 200000 := by have := HQE.out; omega
        have hres : normL st lo = (partW (seqW st lo) 0 m, partW (seqW st lo) m qe) := by rw [normL, hs, ← HPL.out, HQE.out]
        have u3 : IntKind.i64.wrap ((m : Int) + (p : Int)) = (qe : Int) := by rw [HQE.out, IntWalk.i64_in _ (by omega)]; omega
        have HRES := Lib.hid hres
        clear hres hs
        go_wp2_with fail
        obtain ⟨ws, hws⟩ : ∃ W, W = wbb := ⟨_, rfl⟩
        have hbs : Below wr.heap.size wr ws := by rw [hws]; exact hbb
        rw [← hws]
        clear hws
        have hsz := hbs.size
        have hbw : Below w.heap.size w ws := below_tr hb hbs (by omega)
        have HRW := Lib.hid ((hbs.block (w.heap.size + 1) (by omega)).trans HR.out)
        have z0 := (hbs.cell (p := ⟨w.heap.size, 0, none⟩) (show w.heap.size < wr.heap.size by omega)).trans j0
        have z1 := (hbs.cell (p := ⟨w.heap.size, 1, none⟩) (show w.heap.size < wr.heap.size by omega)).trans j1
        have hzw : w.heap.size + 1 < ws.heap.size := by omega
        clear j0 j1 hb
        refine wp_region_T (S := fun w' => w'.cell? ⟨w.heap.size, 0, none⟩ = some (.slice A1 n1 c1) ∧ w'.cell? ⟨w.heap.size, 1, none⟩ = some (.slice A2 n2 c2)) 10 (by kernel_rfl) ⟨z0, z1⟩ (fun hS => ?_)
        refine wpAnyT_takeD (i := 0) (v := ?_) rfl (by kernel_rfl) (by kernel_rfl) (by kernel_rfl) (by kernel_rfl) (fun _ _ _ h => h) (Or.inl ⟨by kernel_rfl, ?_⟩) hS ?_
        rotate_left 1
        · (intro w' hSw; (try dsimp only at hSw); go_simp; try (with_reducible rfl))
        try simp only [Act.put, List.setIfInBounds_toArray, List.set_cons_zero, List.set_cons_succ]
        refine wpAnyT_takeD (i := 1) (v := ?_) rfl (by kernel_rfl) (by kernel_rfl) (by kernel_rfl) (by kernel_rfl) (fun _ _ _ h => h) (Or.inl ⟨by kernel_rfl, ?_⟩) hS ?_
        rotate_left 1
        · (intro w' hSw; (try dsimp only at hSw); go_simp; try (with_reducible rfl))
        try simp only [Act.put, List.setIfInBounds_toArray, List.set_cons_zero, List.set_cons_succ]
        refine wpAnyT_takeD (i := 3) (v := ?_) rfl (by kernel_rfl) (by kernel_rfl) (by kernel_rfl) (by kernel_rfl) (fun _ _ _ h => h) (Or.inl ⟨by kernel_rfl, ?_⟩) hS ?_
        rotate_left 1
        · (intro w' hSw; (try dsimp only at hSw); go_simp; try (with_reducible rfl))
        try simp only [Act.put, List.setIfInBounds_toArray, List.set_cons_zero, List.set_cons_succ]
        refine wpAnyT_takeD (i := 4) (v := ?_) rfl (by kernel_rfl) (by kernel_rfl) (by kernel_rfl) (by kernel_rfl) (fun _ _ _ h => h) (Or.inl ⟨by kernel_rfl, ?_⟩) hS ?_
        rotate_left 1
        · (intro w' hSw; (try dsimp only at hSw); go_simp; try (with_reducible rfl))
        try simp only [Act.put, List.setIfInBounds_toArray, List.set_cons_zero, List.set_cons_succ]
        refine wpAnyT_takeD (i := 5) (v := ?_) rfl (by kernel_rfl) (by kernel_rfl) (by kernel_rfl) (by kernel_rfl) (fun _ _ _ h => h) (Or.inl ⟨by kernel_rfl, ?_⟩) hS ?_
        rotate_left 1
        · (intro w' hSw; (try dsimp only at hSw); go_simp; try (with_reducible rfl))
        try simp only [Act.put, List.setIfInBounds_toArray, List.set_cons_zero, List.set_cons_succ]
        refine wpAnyT_takeD (i := 6) (v := ?_) rfl (by kernel_rfl) (by kernel_rfl) (by kernel_rfl) (by kernel_rfl) (fun _ _ _ h => h) (Or.inl ⟨by kernel_rfl, ?_⟩) hS ?_
        rotate_left 1
        · (intro w' hSw; (try dsimp only at hSw); go_simp; try (with_reducible rfl))
        try simp only [Act.put, List.setIfInBounds_toArray, List.set_cons_zero, List.set_cons_succ]
        refine wpAnyT_takeD (i := 7) (v := ?_) rfl (by kernel_rfl) (by kernel_rfl) (by kernel_rfl) (by kernel_rfl) (fun _ _ _ h => h) (Or.inl ⟨by kernel_rfl, ?_⟩) hS ?_
        rotate_left 1
        · (intro w' hSw; (try dsimp only at hSw); go_simp; try (with_reducible rfl))
        try simp only [Act.put, List.setIfInBounds_toArray, List.set_cons_zero, List.set_cons_succ]
        refine wpAnyT_oneD (i := 2) rfl (by kernel_rfl) (by decide) (fun K hK => ?_)
        go_simp
        refine Calls.mono (HP0.out _ m (by omega) (below_tr hbw (Below.refl _ _).drew (by omega))) ?_
        rintro e w6 ⟨v1, rfl, ho1, hb6', -⟩
        obtain ⟨A6, c6, rfl, -⟩ := own_sl ho1
        have hb6 : Below ws.heap.size ws w6 := below_undrew hb6'
        clear hb6'
        have k0 := (hb6.cell (p := ⟨w.heap.size, 0, none⟩) (show w.heap.size < ws.heap.size by omega)).trans z0
        have k1 := (hb6.cell (p := ⟨w.heap.size, 1, none⟩) (show w.heap.size < ws.heap.size by omega)).trans z1
        have hm6 := hb6.size
        go_wp2_with fail
        refine hK.out _ _ ⟨k0, k1⟩ (fun hS => ?_)
        clear hK
        try simp only [Act.put, List.setIfInBounds_toArray, List.set_cons_zero, List.set_cons_succ]
        refine wpAnyT_oneD (i := 8) rfl (by kernel_rfl) (by decide) (fun K hK => ?_)
        go_simp
        refine Calls.mono (HPT.out _ m qe (by omega) (by omega) (below_tr hbw hb6 (by omega))) ?_
        rintro e w7 ⟨v2, rfl, ho2, hb7, -⟩
        obtain ⟨A7, c7, rfl, -⟩ := own_sl ho2
        have q0 := (hb7.cell (p := ⟨w.heap.size, 0, none⟩) (show w.heap.size < w6.heap.size by omega)).trans k0
        have q1 := (hb7.cell (p := ⟨w.heap.size, 1, none⟩) (show w.heap.size < w6.heap.size by omega)).trans k1
        have hw7 := hb6.trans (hb7.mono hm6)
        have hr7 := (hb7.block (w.heap.size + 1) (by omega)).trans ((hb6.block (w.heap.size + 1) hzw).trans HRW.out)
        have hf0 := frozen_of_row _ _ 0 _ _ hr7
        have hf1 := frozen_of_row _ _ 1 _ _ hr7
        have hg0 : w7.cell? ⟨w.heap.size + 1, 0, none⟩ = some (.slice none 0 0) := by rw [cell_of_row _ _ 0 _ _ (0, 0) hr7]; rfl
        have hg1 : w7.cell? ⟨w.heap.size + 1, 1, none⟩ = some (.slice none 0 0) := by rw [cell_of_row _ _ 1 _ _ (0, 0) hr7]; rfl
        go_wp2_with fail
        refine hK.out _ _ ⟨q0, q1⟩ (fun hS => ?_)
        clear hK
        try simp only [Act.put, List.setIfInBounds_toArray, List.set_cons_zero, List.set_cons_succ]
        refine wpAnyT_takeD (i := 9) (v := ?_) rfl (by kernel_rfl) (by kernel_rfl) (by kernel_rfl) (by kernel_rfl) (fun _ _ _ h => h) (Or.inl ⟨by kernel_rfl, ?_⟩) hS ?_
        rotate_left 1
        · (intro w' hSw; (try dsimp only at hSw); go_simp; try (with_reducible rfl))
        try simp only [Act.put, List.setIfInBounds_toArray, List.set_cons_zero, List.set_cons_succ]
        refine wpAnyT_endD rfl (by kernel_rfl) (by kernel_rfl) (fun K hK => ?_)
        go_simp
        refine hK.out _ _ ?_
        clear hK
        go_wp2_with fail
        refine bodyPost_ret (v := .agg #[.slice A6 (m) c6, .slice A7 (qe - m) c7]) ?_ rfl ?_
        · obtain ⟨f0, f1⟩ := word_set (x := .slice A6 (m) c6) (y := .slice A7 (qe - m) c7) hr7
          simp [results, Try.results42, go_sem, f0, f1]
        · rw [HRES.out]
          exact nword_end (p := (_, _)) (h := own_belW hb7 (Nat.le_refl _) ho1) (h' := own_base ho2 hm6) (hbw.trans (hw7.mono (by omega))) (Nat.le_refl _) (by omega) hzw (by simp [partW_len]) (by simp [partW_len]) rfl rfl
      · have he : seqW st lo k = seqW st lo (k + p) := HCM.out.1 rfl
        have hs : stemN st lo = roll (seqW st lo) (periodL lo) k := by rw [HRO.out, if_pos he, HPL.out]
        have HS := Lib.hid hs
        clear hs he HCM HRO
        go_wp2
        go_roundw
        case rel => exact ⟨k, by go_num, by omega, HS.out, hbr.trans (hbb.mono hbr.size)⟩
        case measure => have := HM.out; simp [intOf] <;> omega
end Go.Proofs.Ytkikkplpalabhaa
