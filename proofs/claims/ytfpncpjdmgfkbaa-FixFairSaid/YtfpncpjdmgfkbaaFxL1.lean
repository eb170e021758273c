/- The law FixFair. -/
import Derived.Test.YtfpncpjdmgfkbaaFx20
namespace Go.Proofs.Ytfpncpjdmgfkbaa
open Go.RowKit

section
variable (ai ae al : Option Addr) (ni ci ne ce nl cl : Nat)
set_option maxHeartbeats 8000000 in
set_option maxRecDepth 100000 in
theorem FixFair_any (As : Option Addr) (ns cs : Nat) (G : Gph) (sets : List (List Bool)) (w : World) (B : Nat) (h : GrRd w B ai ni ci ae ne ce al nl cl G) (hs : Sl2 w B 1 As ns cs (sets.map bcells)) (hB : B ≤ w.heap.size) :
    Calls Try.prog 10 #[.agg #[.slice ai ni ci, .slice ae ne ce, .slice al nl cl], .slice As ns cs] w (Tru w true) := by
  obtain ⟨wb, hwb, hbb, hzb, hx0, hx1, hx2⟩ := boxed3 w (.slice ai ni ci) (.slice ae ne ce) (.slice al nl cl) 26
  have HWB := Lib.hid hwb
  have h' := h.below hbb hB
  have hs' := hs.below hbb hB
  have HHV := Lib.hid (heavyF_any ai ae al ni ci ne ce nl cl G sets As ns cs wb B h' hs' (by omega))
  obtain ⟨L1, L2, L3⟩ := h.lens
  have L4 : ns = sets.length := by have := hs.len; simpa using this
  have hgb : w.heap.size < wb.heap.size := by omega
  clear hwb hzb h hs
  cases hv : heavyF G sets
  · obtain ⟨q1, q2, q3, q4, q5⟩ := heavyF_bd hv
    obtain ⟨z, hz⟩ := gfp_exists G.edges (asksOf sets)
    have hzn : ne = z.length := by rw [hz.1, L2]
    have b1 : ne ≤ 60 := by omega
    have b2 : ni ≤ 60 := by omega
    have b3 : ns ≤ 8 := by omega
    have HV := Lib.hid hv
    have HZ := Lib.hid hz
    have HZN := Lib.hid hzn
    have HR := Lib.hid q4
    clear hv hz hzn q1 q2 q3 q4 q5 L1 L2 L3 L4
    go_enter Try.func10, Try.ntmps10
    go_wp2_with fail
    rw [← HWB.out]
    refine HHV.out.mono ?_
    rw [HV.out]
    rintro e w0 ⟨rfl, hbh⟩
    have hzh := hbh.size
    have hgl : w.heap.size < w0.heap.size := by omega
    have a0 := (hbh.cell (p := ⟨w.heap.size, 0, none⟩) hgb).trans hx0
    have a1 := (hbh.cell (p := ⟨w.heap.size, 1, none⟩) hgb).trans hx1
    have a2 := (hbh.cell (p := ⟨w.heap.size, 2, none⟩) hgb).trans hx2
    have HG := Lib.hid ((h'.below hbh (by omega)).up (show B ≤ w0.heap.size by omega))
    have HE := Lib.hid ((hs'.below hbh (by omega)).up (show B ≤ w0.heap.size by omega))
    have HBW := Lib.hid (hbb.trans (hbh.mono (by omega)))
    clear HHV HWB hx0 hx1 hx2 h' hs'
    cases hib : initB z G.init
    all_goals
      have HIB := Lib.hid hib
      clear hib
      go_wp2_with fail
      have hb00 : Below w0.heap.size w0 w0.drew := Below.drew (Below.refl _ _)
      refine wp_region_held_drew (S := fun w' => w'.cell? ⟨w.heap.size, 0, none⟩ = some (.slice ai ni ci) ∧ w'.cell? ⟨w.heap.size, 1, none⟩ = some (.slice ae ne ce) ∧ w'.cell? ⟨w.heap.size, 2, none⟩ = some (.slice al nl cl)) (by kernel_rfl) ⟨a0, a1, a2⟩ (fun hS => ?_)
      refine wpAnyH_takeD (i := 0) (v := ?_) rfl (by kernel_rfl) (by kernel_rfl) (by kernel_rfl) (fun _ _ _ h => h) (Or.inl ⟨by kernel_rfl, ?_⟩) hS ?_
      rotate_left 1
      · (intro w' hSw; (try dsimp only at hSw); go_simp; try (with_reducible rfl))
      try simp only [Act.put, List.setIfInBounds_toArray, List.set_cons_zero, List.set_cons_succ]
      refine wpAnyH_takeD (i := 1) (v := ?_) rfl (by kernel_rfl) (by kernel_rfl) (by kernel_rfl) (fun _ _ _ h => h) (Or.inl ⟨by kernel_rfl, ?_⟩) hS ?_
      rotate_left 1
      · (intro w' hSw; (try dsimp only at hSw); go_simp; try (with_reducible rfl))
      try simp only [Act.put, List.setIfInBounds_toArray, List.set_cons_zero, List.set_cons_succ]
      refine wpAnyH_takeD (i := 3) (v := ?_) rfl (by kernel_rfl) (by kernel_rfl) (by kernel_rfl) (fun _ _ _ h => h) (Or.inl ⟨by kernel_rfl, ?_⟩) hS ?_
      rotate_left 1
      · (intro w' hSw; (try dsimp only at hSw); go_simp; try (with_reducible rfl))
      try simp only [Act.put, List.setIfInBounds_toArray, List.set_cons_zero, List.set_cons_succ]
      refine wpAnyH_takeD (i := 4) (v := ?_) rfl (by kernel_rfl) (by kernel_rfl) (by kernel_rfl) (fun _ _ _ h => h) (Or.inl ⟨by kernel_rfl, ?_⟩) hS ?_
      rotate_left 1
      · (intro w' hSw; (try dsimp only at hSw); go_simp; try (with_reducible rfl))
      try simp only [Act.put, List.setIfInBounds_toArray, List.set_cons_zero, List.set_cons_succ]
      refine wpAnyH_oneD (i := 2) rfl (by kernel_rfl) (fun K hK => ?_)
      go_simp
      refine (ffair_any ai ae al ni ci ne ce nl cl G sets As ns cs z (w0.drew) w0.heap.size (HG.out.below hb00 (Nat.le_refl _)) (HE.out.below hb00 (Nat.le_refl _)) HZ.out hb00.size (by omega) 30 HR.out (by omega) (by omega)).mono ?_
      rintro e W1 ⟨vW1, rfl, hoW1, hqW1, _⟩
      have hbW1 : Below w0.heap.size w0 W1 := hb00.trans (hqW1.mono hb00.size)
      have hzW1 := hbW1.size
      obtain ⟨AF1, cF1, rfl, F1W1⟩ := own_sl hoW1
      have kW1_0 := (hbW1.cell (p := ⟨w.heap.size, 0, none⟩) hgl).trans a0
      have kW1_1 := (hbW1.cell (p := ⟨w.heap.size, 1, none⟩) hgl).trans a1
      have kW1_2 := (hbW1.cell (p := ⟨w.heap.size, 2, none⟩) hgl).trans a2
      go_wp2_with fail
      refine hK.out _ _ ⟨kW1_0, kW1_1, kW1_2⟩ (fun hS => ?_)
      clear hK
      try simp only [Act.put, List.setIfInBounds_toArray, List.set_cons_zero, List.set_cons_succ]
      refine wpAnyH_oneD (i := 5) rfl (by kernel_rfl) (fun K hK => ?_)
      go_simp
      refine (rfair_any ai ae al ni ci ne ce nl cl G sets As ns cs z (W1) w0.heap.size (HG.out.below hbW1 (Nat.le_refl _)) (HE.out.below hbW1 (Nat.le_refl _)) HZ.out hbW1.size (by omega) 30 HR.out (by omega) (by omega)).mono ?_
      rintro e W2 ⟨vW2, rfl, hoW2, hqW2, _⟩
      have hbW2 : Below w0.heap.size w0 W2 := hbW1.trans (hqW2.mono hbW1.size)
      have hzW2 := hbW2.size
      have F1W2 := (F1W1.below hqW2 (Nat.le_refl _)).up hqW2.size
      obtain ⟨AF2, cF2, rfl, F2W2⟩ := own_sl hoW2
      have kW2_0 := (hbW2.cell (p := ⟨w.heap.size, 0, none⟩) hgl).trans a0
      have kW2_1 := (hbW2.cell (p := ⟨w.heap.size, 1, none⟩) hgl).trans a1
      have kW2_2 := (hbW2.cell (p := ⟨w.heap.size, 2, none⟩) hgl).trans a2
      go_wp2_with fail
      refine hK.out _ _ ⟨kW2_0, kW2_1, kW2_2⟩ (fun hS => ?_)
      clear hK
      try simp only [Act.put, List.setIfInBounds_toArray, List.set_cons_zero, List.set_cons_succ]
      refine wpAnyH_oneD (i := 6) rfl (by kernel_rfl) (fun K hK => ?_)
      go_simp
      refine (boolsF_any AF1 AF2 ne cF1 ne cF2 z z (W2) _ _ F1W2 F2W2 HZN.out HZN.out (by omega)).mono ?_
      rw [show decide (z = z) = true from by simp]
      rintro e _ ⟨rfl, ndW3, rfl⟩
      obtain ⟨W3, hwW3⟩ : ∃ W, W = (W2).drewN ndW3 := ⟨_, rfl⟩
      have hqW3 := below_len hwW3
      rw [← hwW3]
      clear hwW3
      have hbW3 : Below w0.heap.size w0 W3 := hbW2.trans (hqW3.mono hbW2.size)
      have hzW3 := hbW3.size
      have F1W3 := (F1W2.below hqW3 (Nat.le_refl _)).up hqW3.size
      have F2W3 := (F2W2.below hqW3 (Nat.le_refl _)).up hqW3.size
      have kW3_0 := (hbW3.cell (p := ⟨w.heap.size, 0, none⟩) hgl).trans a0
      have kW3_1 := (hbW3.cell (p := ⟨w.heap.size, 1, none⟩) hgl).trans a1
      have kW3_2 := (hbW3.cell (p := ⟨w.heap.size, 2, none⟩) hgl).trans a2
      go_wp2_with fail
      refine hK.out _ _ ⟨kW3_0, kW3_1, kW3_2⟩ (fun hS => ?_)
      clear hK
      try simp only [Act.put, List.setIfInBounds_toArray, List.set_cons_zero, List.set_cons_succ]
      refine wpAnyH_takeD (i := 7) (v := ?_) rfl (by kernel_rfl) (by kernel_rfl) (by kernel_rfl) (fun _ _ _ h => h) (Or.inl ⟨by kernel_rfl, ?_⟩) hS ?_
      rotate_left 1
      · (intro w' hSw; (try dsimp only at hSw); go_simp; try (with_reducible rfl))
      try simp only [Act.put, List.setIfInBounds_toArray, List.set_cons_zero, List.set_cons_succ]
      refine wpAnyH_takeD (i := 8) (v := ?_) rfl (by kernel_rfl) (by kernel_rfl) (by kernel_rfl) (fun _ _ _ h => h) (Or.inl ⟨by kernel_rfl, ?_⟩) hS ?_
      rotate_left 1
      · (intro w' hSw; (try dsimp only at hSw); go_simp; try (with_reducible rfl))
      try simp only [Act.put, List.setIfInBounds_toArray, List.set_cons_zero, List.set_cons_succ]
      refine wpAnyH_takeD (i := 9) (v := ?_) rfl (by kernel_rfl) (by kernel_rfl) (by kernel_rfl) (fun _ _ _ h => h) (Or.inl ⟨by kernel_rfl, ?_⟩) hS ?_
      rotate_left 1
      · (intro w' hSw; (try dsimp only at hSw); go_simp; try (with_reducible rfl))
      try simp only [Act.put, List.setIfInBounds_toArray, List.set_cons_zero, List.set_cons_succ]
      refine wpAnyH_takeD (i := 11) (v := ?_) rfl (by kernel_rfl) (by kernel_rfl) (by kernel_rfl) (fun _ _ _ h => h) (Or.inl ⟨by kernel_rfl, ?_⟩) hS ?_
      rotate_left 1
      · (intro w' hSw; (try dsimp only at hSw); go_simp; try (with_reducible rfl))
      try simp only [Act.put, List.setIfInBounds_toArray, List.set_cons_zero, List.set_cons_succ]
      refine wpAnyH_takeD (i := 12) (v := ?_) rfl (by kernel_rfl) (by kernel_rfl) (by kernel_rfl) (fun _ _ _ h => h) (Or.inl ⟨by kernel_rfl, ?_⟩) hS ?_
      rotate_left 1
      · (intro w' hSw; (try dsimp only at hSw); go_simp; try (with_reducible rfl))
      try simp only [Act.put, List.setIfInBounds_toArray, List.set_cons_zero, List.set_cons_succ]
      refine wpAnyH_oneD (i := 10) rfl (by kernel_rfl) (fun K hK => ?_)
      rw [if_pos (by kernel_rfl)]
      go_simp
      refine (fsome_of ai ae al ni ci ne ce nl cl G z (.slice As ns cs) (W3) w0.heap.size (HG.out.below hbW3 (Nat.le_refl _)) HZN.out hbW3.size (by omega) (fun W hW => ffair_any ai ae al ni ci ne ce nl cl G sets As ns cs z W w0.heap.size ((HG.out.below hbW3 (Nat.le_refl _)).below hW (by have := hbW3.size; omega)) ((HE.out.below hbW3 (Nat.le_refl _)).below hW (by have := hbW3.size; omega)) HZ.out (Nat.le_trans hbW3.size hW.size) (by omega) 30 HR.out (by omega) (by omega))).mono ?_
      rw [HIB.out]
      rintro e W4 ⟨rfl, hqW4⟩
      have hbW4 : Below w0.heap.size w0 W4 := hbW3.trans (hqW4.mono hbW3.size)
      have hzW4 := hbW4.size
      have F1W4 := (F1W3.below hqW4 (Nat.le_refl _)).up hqW4.size
      have F2W4 := (F2W3.below hqW4 (Nat.le_refl _)).up hqW4.size
      have kW4_0 := (hbW4.cell (p := ⟨w.heap.size, 0, none⟩) hgl).trans a0
      have kW4_1 := (hbW4.cell (p := ⟨w.heap.size, 1, none⟩) hgl).trans a1
      have kW4_2 := (hbW4.cell (p := ⟨w.heap.size, 2, none⟩) hgl).trans a2
      go_wp2_with fail
      refine hK.out _ _ ⟨kW4_0, kW4_1, kW4_2⟩ (fun hS => ?_)
      clear hK
      try simp only [Act.put, List.setIfInBounds_toArray, List.set_cons_zero, List.set_cons_succ]
      refine wpAnyH_oneD (i := 13) rfl (by kernel_rfl) (fun K hK => ?_)
      rw [if_pos (by kernel_rfl)]
      go_simp
      refine (rsome_of ai ae al ni ci ne ce nl cl G z (.slice As ns cs) (W4) w0.heap.size (HG.out.below hbW4 (Nat.le_refl _)) HZN.out hbW4.size (by omega) (fun W hW => rfair_any ai ae al ni ci ne ce nl cl G sets As ns cs z W w0.heap.size ((HG.out.below hbW4 (Nat.le_refl _)).below hW (by have := hbW4.size; omega)) ((HE.out.below hbW4 (Nat.le_refl _)).below hW (by have := hbW4.size; omega)) HZ.out (Nat.le_trans hbW4.size hW.size) (by omega) 30 HR.out (by omega) (by omega))).mono ?_
      rw [HIB.out]
      rintro e W5 ⟨rfl, hqW5⟩
      have hbW5 : Below w0.heap.size w0 W5 := hbW4.trans (hqW5.mono hbW4.size)
      have hzW5 := hbW5.size
      have F1W5 := (F1W4.below hqW5 (Nat.le_refl _)).up hqW5.size
      have F2W5 := (F2W4.below hqW5 (Nat.le_refl _)).up hqW5.size
      have kW5_0 := (hbW5.cell (p := ⟨w.heap.size, 0, none⟩) hgl).trans a0
      have kW5_1 := (hbW5.cell (p := ⟨w.heap.size, 1, none⟩) hgl).trans a1
      have kW5_2 := (hbW5.cell (p := ⟨w.heap.size, 2, none⟩) hgl).trans a2
      go_wp2_with fail
      refine hK.out _ _ ⟨kW5_0, kW5_1, kW5_2⟩ (fun hS => ?_)
      clear hK
      try simp only [Act.put, List.setIfInBounds_toArray, List.set_cons_zero, List.set_cons_succ]
      refine wpAnyH_takeD (i := 14) (v := ?_) rfl (by kernel_rfl) (by kernel_rfl) (by kernel_rfl) (fun _ _ _ h => h) (Or.inl ⟨by kernel_rfl, ?_⟩) hS ?_
      rotate_left 1
      · (intro w' hSw; (try dsimp only at hSw); go_simp; try (with_reducible rfl))
      try simp only [Act.put, List.setIfInBounds_toArray, List.set_cons_zero, List.set_cons_succ]
      refine wpAnyH_takeD (i := 15) (v := ?_) rfl (by kernel_rfl) (by kernel_rfl) (by kernel_rfl) (fun _ _ _ h => h) (Or.inl ⟨by kernel_rfl, ?_⟩) hS ?_
      rotate_left 1
      · (intro w' hSw; (try dsimp only at hSw); go_simp; try (with_reducible rfl))
      try simp only [Act.put, List.setIfInBounds_toArray, List.set_cons_zero, List.set_cons_succ]
      refine wpAnyH_takeD (i := 16) (v := ?_) rfl (by kernel_rfl) (by kernel_rfl) (by kernel_rfl) (fun _ _ _ h => h) (Or.inl ⟨by kernel_rfl, ?_⟩) hS ?_
      rotate_left 1
      · (intro w' hSw; (try dsimp only at hSw); go_simp; try (with_reducible rfl))
      try simp only [Act.put, List.setIfInBounds_toArray, List.set_cons_zero, List.set_cons_succ]
      refine wpAnyH_oneD (i := 17) rfl (by kernel_rfl) (fun K hK => ?_)
      rw [if_pos (by kernel_rfl)]
      go_simp
      refine (awakeF_any (W5)).mono ?_
      rintro e W6 ⟨rfl, hqW6⟩
      have hbW6 : Below w0.heap.size w0 W6 := hbW5.trans (hqW6.mono hbW5.size)
      have hzW6 := hbW6.size
      have F1W6 := (F1W5.below hqW6 (Nat.le_refl _)).up hqW6.size
      have F2W6 := (F2W5.below hqW6 (Nat.le_refl _)).up hqW6.size
      have kW6_0 := (hbW6.cell (p := ⟨w.heap.size, 0, none⟩) hgl).trans a0
      have kW6_1 := (hbW6.cell (p := ⟨w.heap.size, 1, none⟩) hgl).trans a1
      have kW6_2 := (hbW6.cell (p := ⟨w.heap.size, 2, none⟩) hgl).trans a2
      go_wp2_with fail
      refine hK.out _ _ ⟨kW6_0, kW6_1, kW6_2⟩ (fun hS => ?_)
      clear hK
      try simp only [Act.put, List.setIfInBounds_toArray, List.set_cons_zero, List.set_cons_succ]
      refine wpAnyH_takeD (i := 18) (v := ?_) rfl (by kernel_rfl) (by kernel_rfl) (by kernel_rfl) (fun _ _ _ h => h) (Or.inl ⟨by kernel_rfl, ?_⟩) hS ?_
      rotate_left 1
      · (intro w' hSw; (try dsimp only at hSw); go_simp; try (with_reducible rfl))
      try simp only [Act.put, List.setIfInBounds_toArray, List.set_cons_zero, List.set_cons_succ]
      refine wpAnyH_takeD (i := 19) (v := ?_) rfl (by kernel_rfl) (by kernel_rfl) (by kernel_rfl) (fun _ _ _ h => h) (Or.inl ⟨by kernel_rfl, ?_⟩) hS ?_
      rotate_left 1
      · (intro w' hSw; (try dsimp only at hSw); go_simp; try (with_reducible rfl))
      try simp only [Act.put, List.setIfInBounds_toArray, List.set_cons_zero, List.set_cons_succ]
      refine wpAnyH_done (by kernel_rfl) ?_ _
      go_wp2
      go_ret
      exact ⟨rfl, HBW.out.trans (hbW6.mono HBW.out.size)⟩
  · have HV := Lib.hid hv
    clear hv L1 L2 L3 L4
    go_enter Try.func10, Try.ntmps10
    go_wp2_with fail
    rw [← HWB.out]
    refine HHV.out.mono ?_
    rw [HV.out]
    rintro e w0 ⟨rfl, hbh⟩
    go_wp2_with fail
    refine (awakeF_any _).mono ?_
    rintro e w2 ⟨rfl, hb2⟩
    have HB2 := Lib.hid (hbb.trans ((hbh.trans (hb2.mono hbh.size)).mono (by omega)))
    go_wp2
    go_ret
    exact ⟨rfl, HB2.out⟩
end
end Go.Proofs.Ytfpncpjdmgfkbaa
