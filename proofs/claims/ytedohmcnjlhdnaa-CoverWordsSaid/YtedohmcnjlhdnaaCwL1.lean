/- The example of layer 28; CoverMeets. -/
import Derived.Test.YtedohmcnjlhdnaaCwL0
namespace Go.Proofs.Ytedohmcnjlhdnaa
open Go.RowKit

def exF : List Nd := [⟨3, 0⟩, ⟨3, 1⟩, ⟨9, 0⟩]
def exC1 : Cov := (2, 0, [false, false, false], [false, true, true])
def exC2 : Cov := (1, 0, [false, false, true], [true, false, true])
theorem exAsked : askedL exF [2] = [exC1, exC2] := by decide
theorem exMeets1 : meetsN exF (natI [1, 2]) = 1 := by decide
theorem exMeets2 : meetsN exF (natI [0, 2]) = 0 := by decide
set_option maxHeartbeats 4000000 in
set_option maxRecDepth 100000 in
theorem lives28_any (w : World) : Calls Try.prog 27 #[] w (Tru w true) := by
  obtain ⟨hb0, p0, q0, z0⟩ := box5 w (.cells #[.int .i64 3, .int .i64 0, .int .i64 3, .int .i64 1, .int .i64 9, .int .i64 0] 38) (.cells #[.int .i64 2] 3)
  obtain ⟨W0, hW0⟩ : ∃ W0, (w.alloc (.cells #[.int .i64 3, .int .i64 0, .int .i64 3, .int .i64 1, .int .i64 9, .int .i64 0] 38)).alloc (.cells #[.int .i64 2] 3) = W0 := ⟨_, rfl⟩
  rw [hW0] at hb0 p0 q0 z0
  have hf : Sl W0 W0.heap.size 2 (some ⟨w.heap.size, 0, none⟩) 3 3 (ncells exF) := by
    refine ⟨rfl, Nat.le_refl _, by unfold maxLen; omega, fun h => (by cases h), .inr ⟨w.heap.size, 0, rfl, by omega, fun j u hu => ?_⟩⟩
    rw [cell_of_row _ _ _ _ _ (0, 0) p0, Nat.zero_add]
    match j, hu with
    | 0, hu => exact hu
    | 1, hu => exact hu
    | 2, hu => exact hu
    | 3, hu => exact hu
    | 4, hu => exact hu
    | 5, hu => exact hu
    | j + 6, hu => simp [ncells, exF] at hu
  have hp : Sl W0 W0.heap.size 1 (some ⟨w.heap.size + 1, 0, none⟩) 1 1 (icells [2]) := by
    refine ⟨rfl, Nat.le_refl _, by unfold maxLen; omega, fun h => (by cases h), .inr ⟨w.heap.size + 1, 0, rfl, by omega, fun j u hu => ?_⟩⟩
    rw [cell_of_row _ _ _ _ _ (0, 0) q0, Nat.zero_add]
    match j, hu with
    | 0, hu => exact hu
    | j + 1, hu => simp [icells] at hu
  have HO := Lib.hid (of_any (some ⟨w.heap.size, 0, none⟩) 3 exF (some ⟨w.heap.size + 1, 0, none⟩) 1 1 [2] W0 hf hp rfl (by decide) (by decide) (fun _ => by decide))
  have HF := Lib.hid hf
  rw [exAsked] at HO
  have HW0 := Lib.hid hW0
  clear hW0 hf hp p0 q0
  go_enter Try.func27, Try.ntmps27
  go_wp2_with fail
  rw [HW0.out]
  refine Calls.mono HO.out ?_
  rintro e w1 ⟨v, xs, rfl, hown, hcv, hb1⟩
  obtain ⟨A1, c1, rfl, hs1⟩ := own_sl hown
  have hb01 := hb0.trans (hb1.mono (by omega))
  obtain ⟨b, o, E1, e1, E2, e2, rfl, hbl, k0, k1, k2, k3, t1, t2⟩ := rd_cov hs1.rd hcv (show [exC1, exC2][0]? = some exC1 from rfl)
  obtain ⟨b', o', D1, d1, D2, d2, hA, hbl', l0, l1, l2, l3, s1, s2⟩ := rd_cov hs1.rd hcv (show [exC1, exC2][1]? = some exC2 from rfl)
  cases hA
  have hc1 := hs1.cap
  have hg1 := t1.sl.cap
  have hg2 := t2.sl.cap
  have hg3 := s1.sl.cap
  have hg4 := s2.sl.cap
  obtain ⟨bs, os, hDs, hbs, hs0⟩ := s1.sl.rd.at_ (j := 0) (u := .int .i64 2) rfl
  subst hDs
  simp only [Nat.zero_mul, Nat.one_mul, Nat.add_zero, Nat.add_assoc] at k0 k1 k2 k3 l0 l1 l2 l3 hs0
  change _ = (some (.int .u64 2) : Option Value) at k0
  change _ = (some (.int .u64 0) : Option Value) at k1
  change _ = (some (.slice _ 0 _) : Option Value) at k2
  change _ = (some (.slice _ 2 _) : Option Value) at k3
  change _ = (some (.int .u64 1) : Option Value) at l0
  change _ = (some (.int .u64 0) : Option Value) at l1
  change _ = (some (.slice _ 1 _) : Option Value) at l2
  change _ = (some (.slice _ 2 _) : Option Value) at l3
  change 1 ≤ d1 at hg3
  have hz1 := hb01.size
  have HM1 := Lib.hid (meets_any (some ⟨w.heap.size, 0, none⟩) 3 exF 2 0 (.slice E1 0 e1) E2 2 e2 (natI [1, 2]) w1 w1.heap.size ((HF.out.below hb1 (Nat.le_refl _)).up hb1.size) t2.sl rfl (Nat.le_refl _) (by decide) (by decide))
  rw [exMeets1] at HM1
  have HT1 := Lib.hid t1
  have HS2 := Lib.hid s2
  have HB1 := Lib.hid hb1
  clear t1 t2 s1 s2 hown hcv hb1 HO hg1 hg2 hg4 hs1
  go_wp2_with fail
  refine Calls.mono HM1.out ?_
  rintro e w2 ⟨rfl, hb2⟩
  replace l0 := (hb2.cell (p := ⟨b, o + 4, none⟩) hbl).trans l0
  replace l1 := (hb2.cell (p := ⟨b, o + 5, none⟩) hbl).trans l1
  replace l2 := (hb2.cell (p := ⟨b, o + 6, none⟩) hbl).trans l2
  replace l3 := (hb2.cell (p := ⟨b, o + 7, none⟩) hbl).trans l3
  have HM2 := Lib.hid (meets_any (some ⟨w.heap.size, 0, none⟩) 3 exF 1 0 (.slice (some ⟨bs, os, none⟩) 1 d1) D2 2 d2 (natI [0, 2]) w2 w2.heap.size (((HF.out.below HB1.out (Nat.le_refl _)).up HB1.out.size |>.below hb2 (Nat.le_refl _)).up hb2.size) (HS2.out.below hb2).sl rfl (Nat.le_refl _) (by decide) (by decide))
  rw [exMeets2] at HM2
  clear k0 k1 k2 k3
  go_wp2_with fail
  refine Calls.mono HM2.out ?_
  rintro e w3 ⟨rfl, hb3⟩
  go_wp2_with fail
  go_ret
  exact ⟨rfl, (hb01.trans (hb2.mono hz1)).trans (hb3.mono (Nat.le_trans hz1 hb2.size))⟩

set_option maxHeartbeats 4000000 in
set_option maxRecDepth 100000 in
theorem CoverMeets_any (A : Option Addr) (c : Nat) (f : List Nd) (need ban : Int) (A3 : Option Addr) (n3 c3 : Nat) (A4 : Option Addr) (n4 c4 : Nat) (now : List Int) (w : World) (hf : Sl w w.heap.size 2 A f.length c (ncells f)) (h4 : Sl w w.heap.size 1 A4 n4 c4 (icells now)) (hn : n4 = now.length) (hl : f.length ≤ 8796093022208) (hl4 : n4 ≤ 17592186044416) :
    Calls Try.prog 10 #[.slice A f.length c, .agg #[.int .u64 need, .int .u64 ban, .slice A3 n3 c3, .slice A4 n4 c4]] w (Tru w true) := by
  have hb0 : Below w.heap.size w (w.alloc (.cells #[.int .u64 need, .int .u64 ban, .slice A3 n3 c3, .slice A4 n4 c4] 47)) := (Below.refl _ _).alloc (Nat.le_refl _) _
  have hx0 := heap_alloc_new w (.cells #[.int .u64 need, .int .u64 ban, .slice A3 n3 c3, .slice A4 n4 c4] 47)
  have hxz : (w.alloc (.cells #[.int .u64 need, .int .u64 ban, .slice A3 n3 c3, .slice A4 n4 c4] 47)).heap.size = w.heap.size + 1 := by simp
  obtain ⟨W0, hW0⟩ : ∃ W0, w.alloc (.cells #[.int .u64 need, .int .u64 ban, .slice A3 n3 c3, .slice A4 n4 c4] 47) = W0 := ⟨_, rfl⟩
  rw [hW0] at hb0 hx0 hxz
  have HW0 := Lib.hid hW0
  have HF := Lib.hid hf
  have H4 := Lib.hid h4
  have HN := Lib.hid hn
  have hcf := hf.cap
  have hc4 := h4.cap
  obtain ⟨k0, k1, k2, k3⟩ := cell4 hx0
  have HX0 := Lib.hid hx0
  clear hW0 hf h4 hx0 hn
  by_cases h5 : 500 < f.length
  · have d5 : decide ((500 : Int) < (f.length : Int)) = true := by simp; omega
    have HL := Lib.hid (lives28_any W0)
    clear h5
    go_enter Try.func10, Try.ntmps10
    go_wp2_with fail
    rw [HW0.out]
    go_wp2_with fail
    refine Calls.mono HL.out ?_
    rintro e w1 ⟨rfl, hb1⟩
    go_wp2_with fail
    go_ret
    exact ⟨rfl, hb0.trans (hb1.mono (by omega))⟩
  · have d5 : decide ((500 : Int) < (f.length : Int)) = false := by simp; omega
    by_cases h6 : 500 < n4
    · have d6 : decide ((500 : Int) < (n4 : Int)) = true := by simp; omega
      have HL := Lib.hid (lives28_any W0)
      clear h5 h6
      go_enter Try.func10, Try.ntmps10
      go_wp2_with fail
      rw [HW0.out]
      go_wp2_with fail
      refine Calls.mono HL.out ?_
      rintro e w1 ⟨rfl, hb1⟩
      go_wp2_with fail
      go_ret
      exact ⟨rfl, hb0.trans (hb1.mono (by omega))⟩
    · have d6 : decide ((500 : Int) < (n4 : Int)) = false := by simp; omega
      have HM := Lib.hid (fun (w' : World) (hb : Below w.heap.size w w') => meets_any A c f need ban (.slice A3 n3 c3) A4 n4 c4 now w' w.heap.size (HF.out.below hb (Nat.le_refl _)) (H4.out.below hb (Nat.le_refl _)) HN.out hb.size (by omega) (by omega))
      have HMR := Lib.hid (fun (w' : World) (hb : Below w.heap.size w w') => meetsR_any A c f need ban (.slice A3 n3 c3) A4 n4 c4 now w' w.heap.size (HF.out.below hb (Nat.le_refl _)) (H4.out.below hb (Nat.le_refl _)) HN.out hb.size (by omega) (by omega))
      generalize meetsN f now = m at *
      clear h5 h6
      go_enter Try.func10, Try.ntmps10
      go_wp2_with fail
      rw [HW0.out]
      go_wp2_with fail
      have hbd : Below W0.heap.size W0 W0.drew := Below.drew (Below.refl _ _)
      obtain ⟨wd, hwd⟩ : ∃ wd, W0.drew = wd := ⟨_, rfl⟩
      rw [hwd] at hbd
      have HWD := Lib.hid hwd
      have hbdw := hb0.trans (hbd.mono (by omega))
      have hzd := hbd.size
      have hzw := hb0.size
      clear hwd
      refine wp_region_held_drew (S := fun w' => w'.cell? ⟨w.heap.size, 0, none⟩ = some (.int .u64 need) ∧ w'.cell? ⟨w.heap.size, 1, none⟩ = some (.int .u64 ban) ∧ w'.cell? ⟨w.heap.size, 2, none⟩ = some (.slice A3 n3 c3) ∧ w'.cell? ⟨w.heap.size, 3, none⟩ = some (.slice A4 n4 c4)) (by kernel_rfl) ⟨k0, k1, k2, k3⟩ (fun hS => ?_)
      refine wpAnyH_takeD (i := 0) (v := ?_) rfl (by kernel_rfl) (by kernel_rfl) (by kernel_rfl) (fun _ _ _ h => h) (Or.inl ⟨by kernel_rfl, ?_⟩) hS ?_
      rotate_left 1
      · (intro w' hSw; (try dsimp only at hSw); go_simp; try (with_reducible rfl))
      try simp only [Act.put, List.setIfInBounds_toArray, List.set_cons_zero, List.set_cons_succ]
      refine wpAnyH_takeD (i := 1) (v := ?_) rfl (by kernel_rfl) (by kernel_rfl) (by kernel_rfl) (fun _ _ _ h => h) (Or.inl ⟨by kernel_rfl, ?_⟩) hS ?_
      rotate_left 1
      · (intro w' hSw; (try dsimp only at hSw); go_simp; try (with_reducible rfl))
      try simp only [Act.put, List.setIfInBounds_toArray, List.set_cons_zero, List.set_cons_succ]
      refine wpAnyH_takeD (i := 3) (v := ?_) rfl (by kernel_rfl) (by kernel_rfl) (by kernel_rfl) (fun _ _ _ h => h) (Or.inl ⟨by kernel_rfl, ?_⟩) hS ?_
      rotate_left 1
      · (intro w' hSw; (try dsimp only at hSw); go_simp; try (with_reducible rfl))
      try simp only [Act.put, List.setIfInBounds_toArray, List.set_cons_zero, List.set_cons_succ]
      refine wpAnyH_takeD (i := 4) (v := ?_) rfl (by kernel_rfl) (by kernel_rfl) (by kernel_rfl) (fun _ _ _ h => h) (Or.inl ⟨by kernel_rfl, ?_⟩) hS ?_
      rotate_left 1
      · (intro w' hSw; (try dsimp only at hSw); go_simp; try (with_reducible rfl))
      try simp only [Act.put, List.setIfInBounds_toArray, List.set_cons_zero, List.set_cons_succ]
      refine wpAnyH_oneD (i := 2) rfl (by kernel_rfl) (fun K hK => ?_)
      go_simp
      rw [HWD.out]
      refine Calls.mono (HM.out wd hbdw) ?_
      rintro e w1 ⟨rfl, hx'⟩
      have hb1 : Below W0.heap.size W0 w1 := hbd.trans (hx'.mono hbd.size)
      clear hx'
      dsimp only
      refine hK.out _ _ ⟨(hb1.cell (p := ⟨w.heap.size, 0, none⟩) (show w.heap.size < W0.heap.size by omega)).trans k0, (hb1.cell (p := ⟨w.heap.size, 1, none⟩) (show w.heap.size < W0.heap.size by omega)).trans k1, (hb1.cell (p := ⟨w.heap.size, 2, none⟩) (show w.heap.size < W0.heap.size by omega)).trans k2, (hb1.cell (p := ⟨w.heap.size, 3, none⟩) (show w.heap.size < W0.heap.size by omega)).trans k3⟩ (fun hS => ?_)
      clear hK
      try simp only [Act.put, List.setIfInBounds_toArray, List.set_cons_zero, List.set_cons_succ]
      refine wpAnyH_oneD (i := 5) rfl (by kernel_rfl) (fun K hK => ?_)
      go_simp
      refine Calls.mono (HMR.out w1 (hb0.trans (hb1.mono hzw))) ?_
      rintro e w2 ⟨rfl, hx'⟩
      have hb2 : Below W0.heap.size W0 w2 := hb1.trans (hx'.mono hb1.size)
      clear hx'
      dsimp only
      refine hK.out _ _ ⟨(hb2.cell (p := ⟨w.heap.size, 0, none⟩) (show w.heap.size < W0.heap.size by omega)).trans k0, (hb2.cell (p := ⟨w.heap.size, 1, none⟩) (show w.heap.size < W0.heap.size by omega)).trans k1, (hb2.cell (p := ⟨w.heap.size, 2, none⟩) (show w.heap.size < W0.heap.size by omega)).trans k2, (hb2.cell (p := ⟨w.heap.size, 3, none⟩) (show w.heap.size < W0.heap.size by omega)).trans k3⟩ (fun hS => ?_)
      clear hK
      try simp only [Act.put, List.setIfInBounds_toArray, List.set_cons_zero, List.set_cons_succ]
      refine wpAnyH_takeD (i := 6) (v := ?_) rfl (by kernel_rfl) (by kernel_rfl) (by kernel_rfl) (fun _ _ _ h => h) (Or.inl ⟨by kernel_rfl, ?_⟩) hS ?_
      rotate_left 1
      · (intro w' hSw; (try dsimp only at hSw); go_simp; try (with_reducible rfl))
      try simp only [Act.put, List.setIfInBounds_toArray, List.set_cons_zero, List.set_cons_succ]
      refine wpAnyH_takeD (i := 7) (v := ?_) rfl (by kernel_rfl) (by kernel_rfl) (by kernel_rfl) (fun _ _ _ h => h) (Or.inl ⟨by kernel_rfl, ?_⟩) hS ?_
      rotate_left 1
      · (intro w' hSw; (try dsimp only at hSw); go_simp; try (with_reducible rfl))
      try simp only [Act.put, List.setIfInBounds_toArray, List.set_cons_zero, List.set_cons_succ]
      refine wpAnyH_oneD (i := 8) rfl (by kernel_rfl) (fun K hK => ?_)
      rw [if_pos (by kernel_rfl)]
      go_simp
      refine Calls.mono (lives28_any w2) ?_
      rintro e w3 ⟨rfl, hx'⟩
      have hbL : Below W0.heap.size W0 w3 := hb2.trans (hx'.mono hb2.size)
      clear hx'
      dsimp only
      refine hK.out _ _ ⟨(hbL.cell (p := ⟨w.heap.size, 0, none⟩) (show w.heap.size < W0.heap.size by omega)).trans k0, (hbL.cell (p := ⟨w.heap.size, 1, none⟩) (show w.heap.size < W0.heap.size by omega)).trans k1, (hbL.cell (p := ⟨w.heap.size, 2, none⟩) (show w.heap.size < W0.heap.size by omega)).trans k2, (hbL.cell (p := ⟨w.heap.size, 3, none⟩) (show w.heap.size < W0.heap.size by omega)).trans k3⟩ (fun hS => ?_)
      clear hK
      try simp only [Act.put, List.setIfInBounds_toArray, List.set_cons_zero, List.set_cons_succ]
      refine wpAnyH_takeD (i := 9) (v := ?_) rfl (by kernel_rfl) (by kernel_rfl) (by kernel_rfl) (fun _ _ _ h => h) (Or.inl ⟨by kernel_rfl, ?_⟩) hS ?_
      rotate_left 1
      · (intro w' hSw; (try dsimp only at hSw); go_simp; try (with_reducible rfl))
      try simp only [Act.put, List.setIfInBounds_toArray, List.set_cons_zero, List.set_cons_succ]
      refine wpAnyH_takeD (i := 10) (v := ?_) rfl (by kernel_rfl) (by kernel_rfl) (by kernel_rfl) (fun _ _ _ h => h) (Or.inl ⟨by kernel_rfl, ?_⟩) hS ?_
      rotate_left 1
      · (intro w' hSw; (try dsimp only at hSw); go_simp; try (with_reducible rfl))
      try simp only [Act.put, List.setIfInBounds_toArray, List.set_cons_zero, List.set_cons_succ]
      refine wpAnyH_done (by kernel_rfl) ?_ _
      go_wp2_with fail
      go_ret
      exact ⟨rfl, hb0.trans (hbL.mono hzw)⟩
end Go.Proofs.Ytedohmcnjlhdnaa
