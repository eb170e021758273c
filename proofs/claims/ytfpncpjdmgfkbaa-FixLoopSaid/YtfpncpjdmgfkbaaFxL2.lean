/- The law FixLoop. -/
import Derived.Test.YtfpncpjdmgfkbaaFx20
namespace Go.Proofs.Ytfpncpjdmgfkbaa
open Go.RowKit

section
variable (ai ae al : Option Addr) (ni ci ne ce nl cl : Nat)
set_option maxHeartbeats 8000000 in
set_option maxRecDepth 100000 in
theorem FixLoop_any (As : Option Addr) (ns cs : Nat) (s1 s2 : Option Addr) (n1 c1 n2 c2 : Nat) (G : Gph) (sets : List (List Bool)) (stem loop : List Int) (w : World) (B : Nat) (h : GrRd w B ai ni ci ae ne ce al nl cl G) (hs : Sl2 w B 1 As ns cs (sets.map bcells)) (hs1 : Sl w B 1 s1 n1 c1 (icells stem)) (hs2 : Sl w B 1 s2 n2 c2 (icells loop)) (hB : B ≤ w.heap.size) (hnl : nl ≤ 17592186044416) :
    Calls Try.prog 11 #[.agg #[.slice ai ni ci, .slice ae ne ce, .slice al nl cl], .slice As ns cs, .agg #[.slice s1 n1 c1, .slice s2 n2 c2]] w (Tru w true) := by
  obtain ⟨wb, hwb, hbb, hzb, ⟨hx0, hx1, hx2⟩, ⟨hy0, hy1⟩⟩ := boxed32 w (.slice ai ni ci) (.slice ae ne ce) (.slice al nl cl) (.slice s1 n1 c1) (.slice s2 n2 c2) 26 51
  have HWB := Lib.hid hwb
  have h' := h.below hbb hB
  have hs' := hs.below hbb hB
  have hs1' := hs1.below hbb hB
  have hs2' := hs2.below hbb hB
  have HHV := Lib.hid (heavyF_any ai ae al ni ci ne ce nl cl G sets As ns cs wb B h' hs' (by omega))
  obtain ⟨L1, L2, L3⟩ := h.lens
  have L4 : ns = sets.length := by have := hs.len; simpa using this
  have hgb : w.heap.size < wb.heap.size := by omega
  have hlb : w.heap.size + 1 < wb.heap.size := by omega
  have hBb : B ≤ wb.heap.size := by omega
  clear hwb hzb h hs hs1 hs2
  cases hv : heavyF G sets
  rotate_left 1
  · have HV := Lib.hid hv
    clear hv L1 L2 L3 L4
    go_enter Try.func11, Try.ntmps11
    go_wp2_with fail
    rw [← HWB.out]
    refine HHV.out.mono ?_
    rw [HV.out]
    rintro e w1 ⟨rfl, hb1⟩
    have hz1 := hb1.size
    have hgl1 : w.heap.size < w1.heap.size := by omega
    have hll1 : w.heap.size + 1 < w1.heap.size := by omega
    go_wp2_with fail
    refine (awakeF_any _).mono ?_
    rintro e w2 ⟨rfl, hb2⟩
    have HB2 := Lib.hid (hbb.trans ((hb1.trans (hb2.mono hb1.size)).mono (by omega)))
    go_wp2
    go_ret
    exact ⟨rfl, HB2.out⟩
  obtain ⟨q1, q2, q3, q4, q5⟩ := heavyF_bd hv
  obtain ⟨z, hz⟩ := gfp_exists G.edges (asksOf sets)
  have hzn : ne = z.length := by rw [hz.1, L2]
  have b1 : ne ≤ 60 := by omega
  have b2 : ni ≤ 60 := by omega
  have b3 : ns ≤ 8 := by omega
  have HV := Lib.hid hv
  have HZ := Lib.hid hz
  have HZN := Lib.hid hzn
  have HR := Lib.hid q4
  clear hv hz hzn q1 q2 q3 q4 q5 L1 L2 L3 L4
  by_cases p1 : 60 < n1
  · have d1 : decide ((60 : Int) < (n1 : Int)) = true := by simp; omega
    go_enter Try.func11, Try.ntmps11
    go_wp2_with fail
    rw [← HWB.out]
    refine HHV.out.mono ?_
    rw [HV.out]
    rintro e w1 ⟨rfl, hb1⟩
    have hz1 := hb1.size
    have hgl1 : w.heap.size < w1.heap.size := by omega
    have hll1 : w.heap.size + 1 < w1.heap.size := by omega
    have a0 := (hb1.cell (p := ⟨w.heap.size, 0, none⟩) hgb).trans hx0
    have a1 := (hb1.cell (p := ⟨w.heap.size, 1, none⟩) hgb).trans hx1
    have a2 := (hb1.cell (p := ⟨w.heap.size, 2, none⟩) hgb).trans hx2
    have a3 := (hb1.cell (p := ⟨w.heap.size + 1, 0, none⟩) hlb).trans hy0
    have a4 := (hb1.cell (p := ⟨w.heap.size + 1, 1, none⟩) hlb).trans hy1
    go_wp2_with fail
    refine (awakeF_any _).mono ?_
    rintro e w2 ⟨rfl, hb2⟩
    have HB2 := Lib.hid (hbb.trans ((hb1.trans (hb2.mono hb1.size)).mono (by omega)))
    go_wp2
    go_ret
    exact ⟨rfl, HB2.out⟩
  have d1 : decide ((60 : Int) < (n1 : Int)) = false := by simp; omega
  by_cases p2 : 60 < n2
  · have d2 : decide ((60 : Int) < (n2 : Int)) = true := by simp; omega
    go_enter Try.func11, Try.ntmps11
    go_wp2_with fail
    rw [← HWB.out]
    refine HHV.out.mono ?_
    rw [HV.out]
    rintro e w1 ⟨rfl, hb1⟩
    have hz1 := hb1.size
    have hgl1 : w.heap.size < w1.heap.size := by omega
    have hll1 : w.heap.size + 1 < w1.heap.size := by omega
    have a0 := (hb1.cell (p := ⟨w.heap.size, 0, none⟩) hgb).trans hx0
    have a1 := (hb1.cell (p := ⟨w.heap.size, 1, none⟩) hgb).trans hx1
    have a2 := (hb1.cell (p := ⟨w.heap.size, 2, none⟩) hgb).trans hx2
    have a3 := (hb1.cell (p := ⟨w.heap.size + 1, 0, none⟩) hlb).trans hy0
    have a4 := (hb1.cell (p := ⟨w.heap.size + 1, 1, none⟩) hlb).trans hy1
    go_wp2_with fail
    refine (awakeF_any _).mono ?_
    rintro e w2 ⟨rfl, hb2⟩
    have HB2 := Lib.hid (hbb.trans ((hb1.trans (hb2.mono hb1.size)).mono (by omega)))
    go_wp2
    go_ret
    exact ⟨rfl, HB2.out⟩
  have d2 : decide ((60 : Int) < (n2 : Int)) = false := by simp; omega
  have hG1 := fun (W : World) (hb : Below wb.heap.size wb W) => (h'.below hb hBb).up (show B ≤ W.heap.size by have := hb.size; omega)
  have hE1 := fun (W : World) (hb : Below wb.heap.size wb W) => (hs'.below hb hBb).up (show B ≤ W.heap.size by have := hb.size; omega)
  have hS1 := fun (W : World) (hb : Below wb.heap.size wb W) => (hs1'.below hb hBb).up (show B ≤ W.heap.size by have := hb.size; omega)
  have hS2 := fun (W : World) (hb : Below wb.heap.size wb W) => (hs2'.below hb hBb).up (show B ≤ W.heap.size by have := hb.size; omega)
  go_enter Try.func11, Try.ntmps11
  go_wp2_with fail
  rw [← HWB.out]
  refine HHV.out.mono ?_
  rw [HV.out]
  rintro e w1 ⟨rfl, hb1⟩
  have hz1 := hb1.size
  have hgl1 : w.heap.size < w1.heap.size := by omega
  have hll1 : w.heap.size + 1 < w1.heap.size := by omega
  have a0 := (hb1.cell (p := ⟨w.heap.size, 0, none⟩) hgb).trans hx0
  have a1 := (hb1.cell (p := ⟨w.heap.size, 1, none⟩) hgb).trans hx1
  have a2 := (hb1.cell (p := ⟨w.heap.size, 2, none⟩) hgb).trans hx2
  have a3 := (hb1.cell (p := ⟨w.heap.size + 1, 0, none⟩) hlb).trans hy0
  have a4 := (hb1.cell (p := ⟨w.heap.size + 1, 1, none⟩) hlb).trans hy1
  go_wp2_with fail
  refine (floop_any ai ae al ni ci ne ce nl cl G sets As ns cs z w1 w1.heap.size (hG1 w1 hb1) (hE1 w1 hb1) HZ.out (Nat.le_refl _) (by omega) (by omega) hnl 30 HR.out (by omega) (by omega)).mono ?_
  rintro e w2 ⟨hb2, hl⟩
  rcases hl with ⟨hib, rfl⟩ | ⟨hib, stm, lop, t1, t2, m1, d1', m2, d2', rfl, ht1, ht2, hisl, hm1, hm2⟩
  · have HIB := Lib.hid hib
    clear hib
    have hbw2 : Below wb.heap.size wb w2 := hb1.trans (hb2.mono hz1)
    have hz2 := hb2.size
    clear a0 a1 a2 a3 a4
    go_wp2_with fail
    · skip
      obtain ⟨w0, hw0⟩ : ∃ W, W = w2.alloc (.cells #[.slice none 0 0, .slice none 0 0] 51) := ⟨_, rfl⟩
      have hb3 : Below w2.heap.size w2 w0 := by rw [hw0]; exact (Below.refl _ _).alloc (Nat.le_refl _) _
      have hlo := blk2 (show w0.heap[w2.heap.size]? = some (.cells #[.slice none 0 0, .slice none 0 0] 51 (0, 0)) by rw [hw0]; exact heap_alloc_new _ _)
      obtain ⟨⟨l0, l1⟩, _, hxl⟩ := hlo
      rw [← hw0]
      obtain ⟨xb, hxb⟩ : ∃ b, b = w2.heap.size := ⟨_, rfl⟩
      rw [← hxb] at l0 l1 hxl
      rw [← hxb]
      have hbw0 : Below wb.heap.size wb w0 := hbw2.trans (hb3.mono (by omega))
      have hz0 := hbw0.size
      have a0 := (hbw0.cell (p := ⟨w.heap.size, 0, none⟩) hgb).trans hx0
      have a1 := (hbw0.cell (p := ⟨w.heap.size, 1, none⟩) hgb).trans hx1
      have a2 := (hbw0.cell (p := ⟨w.heap.size, 2, none⟩) hgb).trans hx2
      have a3 := (hbw0.cell (p := ⟨w.heap.size + 1, 0, none⟩) hlb).trans hy0
      have a4 := (hbw0.cell (p := ⟨w.heap.size + 1, 1, none⟩) hlb).trans hy1
      have hgl : w.heap.size < w0.heap.size := by omega
      have hll : w.heap.size + 1 < w0.heap.size := by omega
      have HG := Lib.hid (hG1 w0 hbw0)
      have HE := Lib.hid (hE1 w0 hbw0)
      have HS1 := Lib.hid (hS1 w0 hbw0)
      have HS2 := Lib.hid (hS2 w0 hbw0)
      have HBW := Lib.hid (hbb.trans (hbw0.mono (by omega)))
      clear hw0 hxb hx0 hx1 hx2 hy0 hy1 hG1 hE1 hS1 hS2 h' hs' hs1' hs2' HHV
      cases hisb : isB ne G.edges G.init sets stem loop
      all_goals
        have HISB := Lib.hid hisb
        clear hisb
        have hb00 : Below w0.heap.size w0 w0.drew := Below.drew (Below.refl _ _)
        refine wp_region_held_drew (S := fun w' => w'.cell? ⟨w.heap.size, 0, none⟩ = some (.slice ai ni ci) ∧ w'.cell? ⟨w.heap.size, 1, none⟩ = some (.slice ae ne ce) ∧ w'.cell? ⟨w.heap.size, 2, none⟩ = some (.slice al nl cl) ∧ w'.cell? ⟨w.heap.size + 1, 0, none⟩ = some (.slice s1 n1 c1) ∧ w'.cell? ⟨w.heap.size + 1, 1, none⟩ = some (.slice s2 n2 c2)) (by kernel_rfl) ⟨a0, a1, a2, a3, a4⟩ (fun hS => ?_)
        refine wpAnyH_takeD (i := 0) (v := ?_) rfl (by kernel_rfl) (by kernel_rfl) (by kernel_rfl) (fun _ _ _ h => h) (Or.inl ⟨by kernel_rfl, ?_⟩) hS ?_
        rotate_left 1
        · (intro w' hSw; (try dsimp only at hSw); go_simp; try (with_reducible rfl))
        try simp only [Act.put, List.setIfInBounds_toArray, List.set_cons_zero, List.set_cons_succ]
        refine wpAnyH_takeD (i := 1) (v := ?_) rfl (by kernel_rfl) (by kernel_rfl) (by kernel_rfl) (fun _ _ _ h => h) (Or.inl ⟨by kernel_rfl, ?_⟩) hS ?_
        rotate_left 1
        · (intro w' hSw; (try dsimp only at hSw); go_simp; try (with_reducible rfl))
        try simp only [Act.put, List.setIfInBounds_toArray, List.set_cons_zero, List.set_cons_succ]
        refine wpAnyH_takeD (i := 2) (v := ?_) rfl (by kernel_rfl) (by kernel_rfl) (by kernel_rfl) (fun _ _ _ h => h) (Or.inl ⟨by kernel_rfl, ?_⟩) hS ?_
        rotate_left 1
        · (intro w' hSw; (try dsimp only at hSw); go_simp; try (with_reducible rfl))
        try simp only [Act.put, List.setIfInBounds_toArray, List.set_cons_zero, List.set_cons_succ]
        refine wpAnyH_takeD (i := 4) (v := ?_) rfl (by kernel_rfl) (by kernel_rfl) (by kernel_rfl) (fun _ _ _ h => h) (Or.inl ⟨by kernel_rfl, ?_⟩) hS ?_
        rotate_left 1
        · (intro w' hSw; (try dsimp only at hSw); go_simp; try (with_reducible rfl))
        try simp only [Act.put, List.setIfInBounds_toArray, List.set_cons_zero, List.set_cons_succ]
        refine wpAnyH_takeD (i := 5) (v := ?_) rfl (by kernel_rfl) (by kernel_rfl) (by kernel_rfl) (fun _ _ _ h => h) (Or.inl ⟨by kernel_rfl, ?_⟩) hS ?_
        rotate_left 1
        · (intro w' hSw; (try dsimp only at hSw); go_simp; try (with_reducible rfl))
        try simp only [Act.put, List.setIfInBounds_toArray, List.set_cons_zero, List.set_cons_succ]
        refine wpAnyH_takeD (i := 6) (v := ?_) rfl (by kernel_rfl) (by kernel_rfl) (by kernel_rfl) (fun _ _ _ h => h) (Or.inl ⟨by kernel_rfl, ?_⟩) hS ?_
        rotate_left 1
        · (intro w' hSw; (try dsimp only at hSw); go_simp; try (with_reducible rfl))
        try simp only [Act.put, List.setIfInBounds_toArray, List.set_cons_zero, List.set_cons_succ]
        refine wpAnyH_oneD (i := 3) rfl (by kernel_rfl) (fun K hK => ?_)
        go_simp
        refine (fis_any ai ae al ni ci ne ce nl cl G sets stem loop As ns cs s1 s2 n1 c1 n2 c2 (w0.drew) w0.heap.size (HG.out.below hb00 (Nat.le_refl _)) (HE.out.below hb00 (Nat.le_refl _)) (HS1.out.below hb00 (Nat.le_refl _)) (HS2.out.below hb00 (Nat.le_refl _)) hb00.size (by omega) (by omega) (fun l hl => by have := HR.out l hl; omega) (by omega) (by omega) (by omega)).mono ?_
        rw [HISB.out]
        rintro e W1 ⟨rfl, hqW1⟩
        have hbW1 : Below w0.heap.size w0 W1 := hb00.trans (hqW1.mono hb00.size)
        have hzW1 := hbW1.size
        have kW1_0 := (hbW1.cell (p := ⟨w.heap.size, 0, none⟩) hgl).trans a0
        have kW1_1 := (hbW1.cell (p := ⟨w.heap.size, 1, none⟩) hgl).trans a1
        have kW1_2 := (hbW1.cell (p := ⟨w.heap.size, 2, none⟩) hgl).trans a2
        have kW1_3 := (hbW1.cell (p := ⟨w.heap.size + 1, 0, none⟩) hll).trans a3
        have kW1_4 := (hbW1.cell (p := ⟨w.heap.size + 1, 1, none⟩) hll).trans a4
        go_wp2_with fail
        refine hK.out _ _ ⟨kW1_0, kW1_1, kW1_2, kW1_3, kW1_4⟩ (fun hS => ?_)
        clear hK
        try simp only [Act.put, List.setIfInBounds_toArray, List.set_cons_zero, List.set_cons_succ]
        refine wpAnyH_oneD (i := 7) rfl (by kernel_rfl) (fun K hK => ?_)
        go_simp
        refine (ris_any ai ae al ni ci ne ce nl cl G sets stem loop As ns cs s1 s2 n1 c1 n2 c2 (W1) w0.heap.size (HG.out.below hbW1 (Nat.le_refl _)) (HE.out.below hbW1 (Nat.le_refl _)) (HS1.out.below hbW1 (Nat.le_refl _)) (HS2.out.below hbW1 (Nat.le_refl _)) hbW1.size (by omega) (by omega) (fun l hl => by have := HR.out l hl; omega) (by omega) (by omega) (by omega)).mono ?_
        rw [HISB.out]
        rintro e W2 ⟨rfl, hqW2⟩
        have hbW2 : Below w0.heap.size w0 W2 := hbW1.trans (hqW2.mono hbW1.size)
        have hzW2 := hbW2.size
        have kW2_0 := (hbW2.cell (p := ⟨w.heap.size, 0, none⟩) hgl).trans a0
        have kW2_1 := (hbW2.cell (p := ⟨w.heap.size, 1, none⟩) hgl).trans a1
        have kW2_2 := (hbW2.cell (p := ⟨w.heap.size, 2, none⟩) hgl).trans a2
        have kW2_3 := (hbW2.cell (p := ⟨w.heap.size + 1, 0, none⟩) hll).trans a3
        have kW2_4 := (hbW2.cell (p := ⟨w.heap.size + 1, 1, none⟩) hll).trans a4
        go_wp2_with fail
        refine hK.out _ _ ⟨kW2_0, kW2_1, kW2_2, kW2_3, kW2_4⟩ (fun hS => ?_)
        clear hK
        try simp only [Act.put, List.setIfInBounds_toArray, List.set_cons_zero, List.set_cons_succ]
        refine wpAnyH_takeD (i := 8) (v := ?_) rfl (by kernel_rfl) (by kernel_rfl) (by kernel_rfl) (fun _ _ _ h => h) (Or.inl ⟨by kernel_rfl, ?_⟩) hS ?_
        rotate_left 1
        · (intro w' hSw; (try dsimp only at hSw); go_simp; try (with_reducible rfl))
        try simp only [Act.put, List.setIfInBounds_toArray, List.set_cons_zero, List.set_cons_succ]
        refine wpAnyH_takeD (i := 9) (v := ?_) rfl (by kernel_rfl) (by kernel_rfl) (by kernel_rfl) (fun _ _ _ h => h) (Or.inl ⟨by kernel_rfl, ?_⟩) hS ?_
        rotate_left 1
        · (intro w' hSw; (try dsimp only at hSw); go_simp; try (with_reducible rfl))
        try simp only [Act.put, List.setIfInBounds_toArray, List.set_cons_zero, List.set_cons_succ]
        refine wpAnyH_takeD (i := 10) (v := ?_) rfl (by kernel_rfl) (by kernel_rfl) (by kernel_rfl) (fun _ _ _ h => h) (Or.inl ⟨by kernel_rfl, ?_⟩) hS ?_
        rotate_left 1
        · (intro w' hSw; (try dsimp only at hSw); go_simp; try (with_reducible rfl))
        try simp only [Act.put, List.setIfInBounds_toArray, List.set_cons_zero, List.set_cons_succ]
        refine wpAnyH_takeD (i := 11) (v := ?_) rfl (by kernel_rfl) (by kernel_rfl) (by kernel_rfl) (fun _ _ _ h => h) (Or.inl ⟨by kernel_rfl, ?_⟩) hS ?_
        rotate_left 1
        · (intro w' hSw; (try dsimp only at hSw); go_simp; try (with_reducible rfl))
        try simp only [Act.put, List.setIfInBounds_toArray, List.set_cons_zero, List.set_cons_succ]
        refine wpAnyH_takeD (i := 12) (v := ?_) rfl (by kernel_rfl) (by kernel_rfl) (by kernel_rfl) (fun _ _ _ h => h) (Or.inl ⟨by kernel_rfl, ?_⟩) hS ?_
        rotate_left 1
        · (intro w' hSw; (try dsimp only at hSw); go_simp; try (with_reducible rfl))
        try simp only [Act.put, List.setIfInBounds_toArray, List.set_cons_zero, List.set_cons_succ]
        refine wpAnyH_oneD (i := 13) rfl (by kernel_rfl) (fun K hK => ?_)
        rw [if_pos (by kernel_rfl)]
        go_simp
        refine (rsome_of ai ae al ni ci ne ce nl cl G z (.slice As ns cs) (W2) w0.heap.size (HG.out.below hbW2 (Nat.le_refl _)) HZN.out hbW2.size (by omega) (fun W hW => rfair_any ai ae al ni ci ne ce nl cl G sets As ns cs z W w0.heap.size ((HG.out.below hbW2 (Nat.le_refl _)).below hW (by have := hbW2.size; omega)) ((HE.out.below hbW2 (Nat.le_refl _)).below hW (by have := hbW2.size; omega)) HZ.out (Nat.le_trans hbW2.size hW.size) (by omega) 30 HR.out (by omega) (by omega))).mono ?_
        rw [HIB.out]
        rintro e W3 ⟨rfl, hqW3⟩
        have hbW3 : Below w0.heap.size w0 W3 := hbW2.trans (hqW3.mono hbW2.size)
        have hzW3 := hbW3.size
        have kW3_0 := (hbW3.cell (p := ⟨w.heap.size, 0, none⟩) hgl).trans a0
        have kW3_1 := (hbW3.cell (p := ⟨w.heap.size, 1, none⟩) hgl).trans a1
        have kW3_2 := (hbW3.cell (p := ⟨w.heap.size, 2, none⟩) hgl).trans a2
        have kW3_3 := (hbW3.cell (p := ⟨w.heap.size + 1, 0, none⟩) hll).trans a3
        have kW3_4 := (hbW3.cell (p := ⟨w.heap.size + 1, 1, none⟩) hll).trans a4
        go_wp2_with fail
        refine hK.out _ _ ⟨kW3_0, kW3_1, kW3_2, kW3_3, kW3_4⟩ (fun hS => ?_)
        clear hK
        try simp only [Act.put, List.setIfInBounds_toArray, List.set_cons_zero, List.set_cons_succ]
        refine wpAnyH_takeD (i := 14) (v := ?_) rfl (by kernel_rfl) (by kernel_rfl) (by kernel_rfl) (fun _ _ _ h => h) (Or.inl ⟨by kernel_rfl, ?_⟩) hS ?_
        rotate_left 1
        · (intro w' hSw; (try dsimp only at hSw); go_simp; try (with_reducible rfl))
        try simp only [Act.put, List.setIfInBounds_toArray, List.set_cons_zero, List.set_cons_succ]
        refine wpAnyH_takeD (i := 15) (v := ?_) rfl (by kernel_rfl) (by kernel_rfl) (by kernel_rfl) (fun _ _ _ h => h) (Or.inl ⟨by kernel_rfl, ?_⟩) hS ?_
        rotate_left 1
        · (intro w' hSw; (try dsimp only at hSw); go_simp; try (with_reducible rfl))
        try simp only [Act.put, List.setIfInBounds_toArray, List.set_cons_zero, List.set_cons_succ]
        refine wpAnyH_done (by kernel_rfl) ?_ _
        have x0 := (hbW3.cell (p := ⟨xb, 0, none⟩) hxl).trans l0
        have x1 := (hbW3.cell (p := ⟨xb, 1, none⟩) hxl).trans l1
        go_wp2_with fail
        refine (awakeF_any _).mono ?_
        rintro e wz ⟨rfl, hbz⟩
        have HBZ := Lib.hid (HBW.out.trans ((hbW3.trans (hbz.mono hbW3.size)).mono HBW.out.size))
        go_wp2
        go_ret
        exact ⟨rfl, HBZ.out⟩
  · have HIB := Lib.hid hib
    have HISX : Hid (isB ne G.edges G.init sets stm lop = true) := Lib.hid (isB_iff.2 hisl)
    obtain ⟨d1, rfl⟩ : ∃ d, d = d1' := ⟨_, rfl⟩
    obtain ⟨d2, rfl⟩ : ∃ d, d = d2' := ⟨_, rfl⟩
    have HT1a := Lib.hid ht1
    have HT2a := Lib.hid ht2
    clear hib hisl ht1 ht2
    have hbw2 : Below wb.heap.size wb w2 := hb1.trans (hb2.mono hz1)
    have hz2 := hb2.size
    clear a0 a1 a2 a3 a4
    go_wp2_with fail
    · skip
      obtain ⟨w0, hw0⟩ : ∃ W, W = w2.alloc (.cells #[.slice t1 m1 d1, .slice t2 m2 d2] 51) := ⟨_, rfl⟩
      have hb3 : Below w2.heap.size w2 w0 := by rw [hw0]; exact (Below.refl _ _).alloc (Nat.le_refl _) _
      have hlo := blk2 (show w0.heap[w2.heap.size]? = some (.cells #[.slice t1 m1 d1, .slice t2 m2 d2] 51 (0, 0)) by rw [hw0]; exact heap_alloc_new _ _)
      obtain ⟨⟨l0, l1⟩, _, hxl⟩ := hlo
      rw [← hw0]
      obtain ⟨xb, hxb⟩ : ∃ b, b = w2.heap.size := ⟨_, rfl⟩
      rw [← hxb] at l0 l1 hxl
      rw [← hxb]
      have hbw0 : Below wb.heap.size wb w0 := hbw2.trans (hb3.mono (by omega))
      have hz0 := hbw0.size
      have a0 := (hbw0.cell (p := ⟨w.heap.size, 0, none⟩) hgb).trans hx0
      have a1 := (hbw0.cell (p := ⟨w.heap.size, 1, none⟩) hgb).trans hx1
      have a2 := (hbw0.cell (p := ⟨w.heap.size, 2, none⟩) hgb).trans hx2
      have a3 := (hbw0.cell (p := ⟨w.heap.size + 1, 0, none⟩) hlb).trans hy0
      have a4 := (hbw0.cell (p := ⟨w.heap.size + 1, 1, none⟩) hlb).trans hy1
      have hgl : w.heap.size < w0.heap.size := by omega
      have hll : w.heap.size + 1 < w0.heap.size := by omega
      have HG := Lib.hid (hG1 w0 hbw0)
      have HE := Lib.hid (hE1 w0 hbw0)
      have HS1 := Lib.hid (hS1 w0 hbw0)
      have HS2 := Lib.hid (hS2 w0 hbw0)
      have HBW := Lib.hid (hbb.trans (hbw0.mono (by omega)))
      have HT1 := Lib.hid ((HT1a.out.below hb3 (Nat.le_refl _)).up hb3.size)
      have HT2 := Lib.hid ((HT2a.out.below hb3 (Nat.le_refl _)).up hb3.size)
      clear hw0 hxb hx0 hx1 hx2 hy0 hy1 hG1 hE1 hS1 hS2 h' hs' hs1' hs2' HHV
      cases hisb : isB ne G.edges G.init sets stem loop
      all_goals
        have HISB := Lib.hid hisb
        clear hisb
        have hb00 : Below w0.heap.size w0 w0.drew := Below.drew (Below.refl _ _)
        refine wp_region_held_drew (S := fun w' => w'.cell? ⟨w.heap.size, 0, none⟩ = some (.slice ai ni ci) ∧ w'.cell? ⟨w.heap.size, 1, none⟩ = some (.slice ae ne ce) ∧ w'.cell? ⟨w.heap.size, 2, none⟩ = some (.slice al nl cl) ∧ w'.cell? ⟨w.heap.size + 1, 0, none⟩ = some (.slice s1 n1 c1) ∧ w'.cell? ⟨w.heap.size + 1, 1, none⟩ = some (.slice s2 n2 c2)) (by kernel_rfl) ⟨a0, a1, a2, a3, a4⟩ (fun hS => ?_)
        refine wpAnyH_takeD (i := 0) (v := ?_) rfl (by kernel_rfl) (by kernel_rfl) (by kernel_rfl) (fun _ _ _ h => h) (Or.inl ⟨by kernel_rfl, ?_⟩) hS ?_
        rotate_left 1
        · (intro w' hSw; (try dsimp only at hSw); go_simp; try (with_reducible rfl))
        try simp only [Act.put, List.setIfInBounds_toArray, List.set_cons_zero, List.set_cons_succ]
        refine wpAnyH_takeD (i := 1) (v := ?_) rfl (by kernel_rfl) (by kernel_rfl) (by kernel_rfl) (fun _ _ _ h => h) (Or.inl ⟨by kernel_rfl, ?_⟩) hS ?_
        rotate_left 1
        · (intro w' hSw; (try dsimp only at hSw); go_simp; try (with_reducible rfl))
        try simp only [Act.put, List.setIfInBounds_toArray, List.set_cons_zero, List.set_cons_succ]
        refine wpAnyH_takeD (i := 2) (v := ?_) rfl (by kernel_rfl) (by kernel_rfl) (by kernel_rfl) (fun _ _ _ h => h) (Or.inl ⟨by kernel_rfl, ?_⟩) hS ?_
        rotate_left 1
        · (intro w' hSw; (try dsimp only at hSw); go_simp; try (with_reducible rfl))
        try simp only [Act.put, List.setIfInBounds_toArray, List.set_cons_zero, List.set_cons_succ]
        refine wpAnyH_takeD (i := 4) (v := ?_) rfl (by kernel_rfl) (by kernel_rfl) (by kernel_rfl) (fun _ _ _ h => h) (Or.inl ⟨by kernel_rfl, ?_⟩) hS ?_
        rotate_left 1
        · (intro w' hSw; (try dsimp only at hSw); go_simp; try (with_reducible rfl))
        try simp only [Act.put, List.setIfInBounds_toArray, List.set_cons_zero, List.set_cons_succ]
        refine wpAnyH_takeD (i := 5) (v := ?_) rfl (by kernel_rfl) (by kernel_rfl) (by kernel_rfl) (fun _ _ _ h => h) (Or.inl ⟨by kernel_rfl, ?_⟩) hS ?_
        rotate_left 1
        · (intro w' hSw; (try dsimp only at hSw); go_simp; try (with_reducible rfl))
        try simp only [Act.put, List.setIfInBounds_toArray, List.set_cons_zero, List.set_cons_succ]
        refine wpAnyH_takeD (i := 6) (v := ?_) rfl (by kernel_rfl) (by kernel_rfl) (by kernel_rfl) (fun _ _ _ h => h) (Or.inl ⟨by kernel_rfl, ?_⟩) hS ?_
        rotate_left 1
        · (intro w' hSw; (try dsimp only at hSw); go_simp; try (with_reducible rfl))
        try simp only [Act.put, List.setIfInBounds_toArray, List.set_cons_zero, List.set_cons_succ]
        refine wpAnyH_oneD (i := 3) rfl (by kernel_rfl) (fun K hK => ?_)
        go_simp
        refine (fis_any ai ae al ni ci ne ce nl cl G sets stem loop As ns cs s1 s2 n1 c1 n2 c2 (w0.drew) w0.heap.size (HG.out.below hb00 (Nat.le_refl _)) (HE.out.below hb00 (Nat.le_refl _)) (HS1.out.below hb00 (Nat.le_refl _)) (HS2.out.below hb00 (Nat.le_refl _)) hb00.size (by omega) (by omega) (fun l hl => by have := HR.out l hl; omega) (by omega) (by omega) (by omega)).mono ?_
        rw [HISB.out]
        rintro e W4 ⟨rfl, hqW4⟩
        have hbW4 : Below w0.heap.size w0 W4 := hb00.trans (hqW4.mono hb00.size)
        have hzW4 := hbW4.size
        have kW4_0 := (hbW4.cell (p := ⟨w.heap.size, 0, none⟩) hgl).trans a0
        have kW4_1 := (hbW4.cell (p := ⟨w.heap.size, 1, none⟩) hgl).trans a1
        have kW4_2 := (hbW4.cell (p := ⟨w.heap.size, 2, none⟩) hgl).trans a2
        have kW4_3 := (hbW4.cell (p := ⟨w.heap.size + 1, 0, none⟩) hll).trans a3
        have kW4_4 := (hbW4.cell (p := ⟨w.heap.size + 1, 1, none⟩) hll).trans a4
        go_wp2_with fail
        refine hK.out _ _ ⟨kW4_0, kW4_1, kW4_2, kW4_3, kW4_4⟩ (fun hS => ?_)
        clear hK
        try simp only [Act.put, List.setIfInBounds_toArray, List.set_cons_zero, List.set_cons_succ]
        refine wpAnyH_oneD (i := 7) rfl (by kernel_rfl) (fun K hK => ?_)
        go_simp
        refine (ris_any ai ae al ni ci ne ce nl cl G sets stem loop As ns cs s1 s2 n1 c1 n2 c2 (W4) w0.heap.size (HG.out.below hbW4 (Nat.le_refl _)) (HE.out.below hbW4 (Nat.le_refl _)) (HS1.out.below hbW4 (Nat.le_refl _)) (HS2.out.below hbW4 (Nat.le_refl _)) hbW4.size (by omega) (by omega) (fun l hl => by have := HR.out l hl; omega) (by omega) (by omega) (by omega)).mono ?_
        rw [HISB.out]
        rintro e W5 ⟨rfl, hqW5⟩
        have hbW5 : Below w0.heap.size w0 W5 := hbW4.trans (hqW5.mono hbW4.size)
        have hzW5 := hbW5.size
        have kW5_0 := (hbW5.cell (p := ⟨w.heap.size, 0, none⟩) hgl).trans a0
        have kW5_1 := (hbW5.cell (p := ⟨w.heap.size, 1, none⟩) hgl).trans a1
        have kW5_2 := (hbW5.cell (p := ⟨w.heap.size, 2, none⟩) hgl).trans a2
        have kW5_3 := (hbW5.cell (p := ⟨w.heap.size + 1, 0, none⟩) hll).trans a3
        have kW5_4 := (hbW5.cell (p := ⟨w.heap.size + 1, 1, none⟩) hll).trans a4
        go_wp2_with fail
        refine hK.out _ _ ⟨kW5_0, kW5_1, kW5_2, kW5_3, kW5_4⟩ (fun hS => ?_)
        clear hK
        try simp only [Act.put, List.setIfInBounds_toArray, List.set_cons_zero, List.set_cons_succ]
        refine wpAnyH_takeD (i := 8) (v := ?_) rfl (by kernel_rfl) (by kernel_rfl) (by kernel_rfl) (fun _ _ _ h => h) (Or.inl ⟨by kernel_rfl, ?_⟩) hS ?_
        rotate_left 1
        · (intro w' hSw; (try dsimp only at hSw); go_simp; try (with_reducible rfl))
        try simp only [Act.put, List.setIfInBounds_toArray, List.set_cons_zero, List.set_cons_succ]
        refine wpAnyH_takeD (i := 9) (v := ?_) rfl (by kernel_rfl) (by kernel_rfl) (by kernel_rfl) (fun _ _ _ h => h) (Or.inl ⟨by kernel_rfl, ?_⟩) hS ?_
        rotate_left 1
        · (intro w' hSw; (try dsimp only at hSw); go_simp; try (with_reducible rfl))
        try simp only [Act.put, List.setIfInBounds_toArray, List.set_cons_zero, List.set_cons_succ]
        refine wpAnyH_takeD (i := 10) (v := ?_) rfl (by kernel_rfl) (by kernel_rfl) (by kernel_rfl) (fun _ _ _ h => h) (Or.inl ⟨by kernel_rfl, ?_⟩) hS ?_
        rotate_left 1
        · (intro w' hSw; (try dsimp only at hSw); go_simp; try (with_reducible rfl))
        try simp only [Act.put, List.setIfInBounds_toArray, List.set_cons_zero, List.set_cons_succ]
        refine wpAnyH_takeD (i := 11) (v := ?_) rfl (by kernel_rfl) (by kernel_rfl) (by kernel_rfl) (fun _ _ _ h => h) (Or.inl ⟨by kernel_rfl, ?_⟩) hS ?_
        rotate_left 1
        · (intro w' hSw; (try dsimp only at hSw); go_simp; try (with_reducible rfl))
        try simp only [Act.put, List.setIfInBounds_toArray, List.set_cons_zero, List.set_cons_succ]
        refine wpAnyH_takeD (i := 12) (v := ?_) rfl (by kernel_rfl) (by kernel_rfl) (by kernel_rfl) (fun _ _ _ h => h) (Or.inl ⟨by kernel_rfl, ?_⟩) hS ?_
        rotate_left 1
        · (intro w' hSw; (try dsimp only at hSw); go_simp; try (with_reducible rfl))
        try simp only [Act.put, List.setIfInBounds_toArray, List.set_cons_zero, List.set_cons_succ]
        refine wpAnyH_oneD (i := 13) rfl (by kernel_rfl) (fun K hK => ?_)
        rw [if_pos (by kernel_rfl)]
        go_simp
        refine (rsome_of ai ae al ni ci ne ce nl cl G z (.slice As ns cs) (W5) w0.heap.size (HG.out.below hbW5 (Nat.le_refl _)) HZN.out hbW5.size (by omega) (fun W hW => rfair_any ai ae al ni ci ne ce nl cl G sets As ns cs z W w0.heap.size ((HG.out.below hbW5 (Nat.le_refl _)).below hW (by have := hbW5.size; omega)) ((HE.out.below hbW5 (Nat.le_refl _)).below hW (by have := hbW5.size; omega)) HZ.out (Nat.le_trans hbW5.size hW.size) (by omega) 30 HR.out (by omega) (by omega))).mono ?_
        rw [HIB.out]
        rintro e W6 ⟨rfl, hqW6⟩
        have hbW6 : Below w0.heap.size w0 W6 := hbW5.trans (hqW6.mono hbW5.size)
        have hzW6 := hbW6.size
        have kW6_0 := (hbW6.cell (p := ⟨w.heap.size, 0, none⟩) hgl).trans a0
        have kW6_1 := (hbW6.cell (p := ⟨w.heap.size, 1, none⟩) hgl).trans a1
        have kW6_2 := (hbW6.cell (p := ⟨w.heap.size, 2, none⟩) hgl).trans a2
        have kW6_3 := (hbW6.cell (p := ⟨w.heap.size + 1, 0, none⟩) hll).trans a3
        have kW6_4 := (hbW6.cell (p := ⟨w.heap.size + 1, 1, none⟩) hll).trans a4
        go_wp2_with fail
        refine hK.out _ _ ⟨kW6_0, kW6_1, kW6_2, kW6_3, kW6_4⟩ (fun hS => ?_)
        clear hK
        try simp only [Act.put, List.setIfInBounds_toArray, List.set_cons_zero, List.set_cons_succ]
        refine wpAnyH_takeD (i := 14) (v := ?_) rfl (by kernel_rfl) (by kernel_rfl) (by kernel_rfl) (fun _ _ _ h => h) (Or.inl ⟨by kernel_rfl, ?_⟩) hS ?_
        rotate_left 1
        · (intro w' hSw; (try dsimp only at hSw); go_simp; try (with_reducible rfl))
        try simp only [Act.put, List.setIfInBounds_toArray, List.set_cons_zero, List.set_cons_succ]
        refine wpAnyH_takeD (i := 15) (v := ?_) rfl (by kernel_rfl) (by kernel_rfl) (by kernel_rfl) (fun _ _ _ h => h) (Or.inl ⟨by kernel_rfl, ?_⟩) hS ?_
        rotate_left 1
        · (intro w' hSw; (try dsimp only at hSw); go_simp; try (with_reducible rfl))
        try simp only [Act.put, List.setIfInBounds_toArray, List.set_cons_zero, List.set_cons_succ]
        refine wpAnyH_done (by kernel_rfl) ?_ _
        have x0 := (hbW6.cell (p := ⟨xb, 0, none⟩) hxl).trans l0
        have x1 := (hbW6.cell (p := ⟨xb, 1, none⟩) hxl).trans l1
        go_wp2_with fail
        refine (ris_any ai ae al ni ci ne ce nl cl G sets stm lop As ns cs t1 t2 m1 d1 m2 d2 (W6) w0.heap.size (HG.out.below hbW6 (Nat.le_refl _)) (HE.out.below hbW6 (Nat.le_refl _)) (HT1.out.below hbW6 (Nat.le_refl _)) (HT2.out.below hbW6 (Nat.le_refl _)) hbW6.size (by omega) (by omega) (fun l hl => by have := HR.out l hl; omega) (by omega) (by omega) (by omega)).mono ?_
        rw [HISX.out]
        rintro e wx ⟨rfl, hbx⟩
        have hbx0 : Below w0.heap.size w0 wx := hbW6.trans (hbx.mono hbW6.size)
        have hzx := hbx0.size
        have y0 := (hbx0.cell (p := ⟨w.heap.size, 0, none⟩) hgl).trans a0
        have y1 := (hbx0.cell (p := ⟨w.heap.size, 1, none⟩) hgl).trans a1
        have y2 := (hbx0.cell (p := ⟨w.heap.size, 2, none⟩) hgl).trans a2
        have y3 := (hbx0.cell (p := ⟨xb, 0, none⟩) hxl).trans l0
        have y4 := (hbx0.cell (p := ⟨xb, 1, none⟩) hxl).trans l1
        go_wp2_with fail
        refine (fis_any ai ae al ni ci ne ce nl cl G sets stm lop As ns cs t1 t2 m1 d1 m2 d2 (wx) w0.heap.size (HG.out.below hbx0 (Nat.le_refl _)) (HE.out.below hbx0 (Nat.le_refl _)) (HT1.out.below hbx0 (Nat.le_refl _)) (HT2.out.below hbx0 (Nat.le_refl _)) hbx0.size (by omega) (by omega) (fun l hl => by have := HR.out l hl; omega) (by omega) (by omega) (by omega)).mono ?_
        rw [HISX.out]
        rintro e wy ⟨rfl, hby⟩
        have hby0 : Below w0.heap.size w0 wy := hbx0.trans (hby.mono hzx)
        go_wp2_with fail
        refine (awakeF_any _).mono ?_
        rintro e wz ⟨rfl, hbz⟩
        have HBZ := Lib.hid (HBW.out.trans ((hby0.trans (hbz.mono hby0.size)).mono HBW.out.size))
        go_wp2
        go_ret
        exact ⟨rfl, HBZ.out⟩
end
end Go.Proofs.Ytfpncpjdmgfkbaa
