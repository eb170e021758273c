/- The law WordTells of layer 27. -/
import Derived.Test.YtkikkplpalabhaaWk17
import Derived.Test.YtkikkplpalabhaaMe
namespace Go.Proofs.Ytkikkplpalabhaa
open Go.RowKit

set_option maxHeartbeats 4000000 in
set_option maxRecDepth 100000 in
theorem WordTells_any (A1 A2 : Option Addr) (n1 c1 n2 c2 : Nat) (st lo : List Int) (i : Int) (w : World) (h1 : n1 = st.length) (h2 : n2 = lo.length) (hs : Sl w w.heap.size 1 A1 n1 c1 (ucells st)) (ht : Sl w w.heap.size 1 A2 n2 c2 (ucells lo)) (hi : i ≤ 9223372036854775807)
    (hl1 : n1 ≤ 17592186044416) (hl2 : n2 ≤ 17592186044416) :
    Calls Try.prog 7 #[.agg #[.slice A1 n1 c1, .slice A2 n2 c2], .int .i64 i] w (Tru w true) := by
  obtain ⟨hb0, x0, x1⟩ := wbox w A1 A2 n1 c1 n2 c2
  obtain ⟨W0, hW0⟩ : ∃ W, W = w.alloc (.cells #[.slice A1 n1 c1, .slice A2 n2 c2] 34) := ⟨_, rfl⟩
  have hz0 : w.heap.size < W0.heap.size := by rw [hW0]; simp
  rw [← hW0] at hb0 x0 x1
  have HW0 := Lib.hid hW0
  clear hW0
  have HH := Lib.hid (heavyW_any none A1 A2 0 0 n1 c1 n2 c2 W0 (by omega) (by omega) (by omega))
  have hW := Lib.hid (⟨hs.below hb0 (Nat.le_refl _), ht.below hb0 (Nat.le_refl _), h1, h2⟩ : WRd W0 w.heap.size A1 A2 n1 c1 n2 c2 st lo)
  by_cases hg : 30 < n1 ∨ 30 < n2
  · have e : (decide (60 < 0) || decide (30 < n1) || decide (30 < n2)) = true := by simpa using hg
    rw [e] at HH
    clear e hg h1 h2 hs ht
    go_enter Try.func7, Try.ntmps7
    go_wp2_with fail
    rw [← HW0.out]
    refine Calls.mono HH.out ?_
    rintro e w1 ⟨rfl, hb1⟩
    go_wp2_with fail
    refine (wawake_any _).mono ?_
    rintro e w2 ⟨rfl, hb2⟩
    go_wp2
    go_ret
    exact ⟨rfl, hb0.trans ((hb1.trans (hb2.mono hb1.size)).mono hb0.size)⟩
  · have e : (decide (60 < 0) || decide (30 < n1) || decide (30 < n2)) = false := by simpa using hg
    rw [e] at HH
    have hn1 : n1 ≤ 30 := by omega
    have hn2 : n2 ≤ 30 := by omega
    have hc1 := fun W => pCheck_any A1 A2 n1 c1 n2 c2 st lo W h1 h2 (by omega)
    have hc2 := fun W => rCheck_any A1 A2 n1 c1 n2 c2 st lo W h1 h2 (by omega)
    generalize (if n2 = 0 then (8 : Int) else 0) = x at *
    have HC1 := Lib.hid hc1
    have HC2 := Lib.hid hc2
    clear e hg hs ht hl1 hl2 h1 h2 hc1 hc2
    go_enter Try.func7, Try.ntmps7
    go_wp2_with fail
    rw [← HW0.out]
    refine Calls.mono HH.out ?_
    rintro e w0 ⟨rfl, hb1⟩
    have hWW := Lib.hid (hW.out.below hb1 hb0.size)
    obtain ⟨B, hB⟩ : ∃ B, B = w.heap.size := ⟨_, rfl⟩
    have g0 := (hb1.cell (p := ⟨w.heap.size, 0, none⟩) hz0).trans x0
    have g1 := (hb1.cell (p := ⟨w.heap.size, 1, none⟩) hz0).trans x1
    have hzg : w.heap.size < w0.heap.size := Nat.lt_of_lt_of_le hz0 hb1.size
    have HB1 := Lib.hid (hb0.trans (hb1.mono hb0.size))
    rw [← hB] at hWW
    have hB0 : B ≤ w0.heap.size := by omega
    have HBB := Lib.hid hB
    clear hW HH HW0 x0 x1 hb0 hb1 hz0 hB

    clear W0
    go_wp2_with fail
    have hbd : Below w0.heap.size w0 w0.drew := Below.drew (Below.refl _ _)
    refine wp_region_held_drew (S := fun w' => w'.cell? ⟨w.heap.size, 0, none⟩ = some (.slice A1 n1 c1) ∧ w'.cell? ⟨w.heap.size, 1, none⟩ = some (.slice A2 n2 c2)) (by kernel_rfl) ⟨g0, g1⟩ (fun hS => ?_)
    refine wpAnyH_takeD (i := 0) (v := ?_) rfl (by kernel_rfl) (by kernel_rfl) (by kernel_rfl) (fun _ _ _ h => h) (Or.inl ⟨by kernel_rfl, ?_⟩) hS ?_
    rotate_left 1
    · (intro w' hSw; (try dsimp only at hSw); go_simp; try (with_reducible rfl))
    try simp only [Act.put, List.setIfInBounds_toArray, List.set_cons_zero, List.set_cons_succ]
    refine wpAnyH_takeD (i := 2) (v := ?_) rfl (by kernel_rfl) (by kernel_rfl) (by kernel_rfl) (fun _ _ _ h => h) (Or.inl ⟨by kernel_rfl, ?_⟩) hS ?_
    rotate_left 1
    · (intro w' hSw; (try dsimp only at hSw); go_simp; try (with_reducible rfl))
    try simp only [Act.put, List.setIfInBounds_toArray, List.set_cons_zero, List.set_cons_succ]
    refine wpAnyH_oneD (i := 1) rfl (by kernel_rfl) (fun K hK => ?_)
    go_simp
    refine (HC1.out _).mono ?_
    rintro e Rw1 ⟨rfl, hbRw1'⟩
    have hbRw1 : Below w0.heap.size w0 Rw1 := hbd.trans (hbRw1'.mono hbd.size)
    have hzRw1 := hbRw1.size
    have rRw1_0 := (hbRw1.cell (p := ⟨w.heap.size, 0, none⟩) hzg).trans g0
    have rRw1_1 := (hbRw1.cell (p := ⟨w.heap.size, 1, none⟩) hzg).trans g1
    go_wp2_with fail
    refine hK.out _ _ ⟨rRw1_0, rRw1_1⟩ (fun hS => ?_)
    clear hK
    try simp only [Act.put, List.setIfInBounds_toArray, List.set_cons_zero, List.set_cons_succ]
    refine wpAnyH_oneD (i := 3) rfl (by kernel_rfl) (fun K hK => ?_)
    go_simp
    refine (HC2.out _).mono ?_
    rintro e Rw2 ⟨rfl, hbRw2'⟩
    have hbRw2 : Below w0.heap.size w0 Rw2 := hbRw1.trans (hbRw2'.mono hbRw1.size)
    have hzRw2 := hbRw2.size
    have rRw2_0 := (hbRw2.cell (p := ⟨w.heap.size, 0, none⟩) hzg).trans g0
    have rRw2_1 := (hbRw2.cell (p := ⟨w.heap.size, 1, none⟩) hzg).trans g1
    have hxx : (x == x) = true := by simp
    go_wp2_with fail
    refine hK.out _ _ ⟨rRw2_0, rRw2_1⟩ (fun hS => ?_)
    clear hK
    try simp only [Act.put, List.setIfInBounds_toArray, List.set_cons_zero, List.set_cons_succ]
    refine wpAnyH_takeD (i := 4) (v := ?_) rfl (by kernel_rfl) (by kernel_rfl) (by kernel_rfl) (fun _ _ _ h => h) (Or.inl ⟨by kernel_rfl, ?_⟩) hS ?_
    rotate_left 1
    · (intro w' hSw; (try dsimp only at hSw); go_simp; try (with_reducible rfl))
    try simp only [Act.put, List.setIfInBounds_toArray, List.set_cons_zero, List.set_cons_succ]
    refine wpAnyH_takeD (i := 5) (v := ?_) rfl (by kernel_rfl) (by kernel_rfl) (by kernel_rfl) (fun _ _ _ h => h) (Or.inl ⟨by kernel_rfl, ?_⟩) hS ?_
    rotate_left 1
    · (intro w' hSw; (try dsimp only at hSw); go_simp; try (with_reducible rfl))
    try simp only [Act.put, List.setIfInBounds_toArray, List.set_cons_zero, List.set_cons_succ]
    refine wpAnyH_takeD (i := 6) (v := ?_) rfl (by kernel_rfl) (by kernel_rfl) (by kernel_rfl) (fun _ _ _ h => h) (Or.inl ⟨by kernel_rfl, ?_⟩) hS ?_
    rotate_left 1
    · (intro w' hSw; (try dsimp only at hSw); go_simp; try (with_reducible rfl))
    try simp only [Act.put, List.setIfInBounds_toArray, List.set_cons_zero, List.set_cons_succ]
    refine wpAnyH_takeD (i := 8) (v := ?_) rfl (by kernel_rfl) (by kernel_rfl) (by kernel_rfl) (fun _ _ _ h => h) (Or.inl ⟨by kernel_rfl, ?_⟩) hS ?_
    rotate_left 1
    · (intro w' hSw; (try dsimp only at hSw); go_simp; try (with_reducible rfl))
    try simp only [Act.put, List.setIfInBounds_toArray, List.set_cons_zero, List.set_cons_succ]
    refine wpAnyH_oneD (i := 7) rfl (by kernel_rfl) (fun K hK => ?_)
    rw [if_pos (by kernel_rfl)]
    go_simp
    refine (pLen_any A1 A2 n1 c1 n2 c2 _ (by omega)).mono ?_
    rintro e Rw3 ⟨rfl, hbRw3'⟩
    have hbRw3 : Below w0.heap.size w0 Rw3 := hbRw2.trans (hbRw3'.mono hbRw2.size)
    have hzRw3 := hbRw3.size
    have rRw3_0 := (hbRw3.cell (p := ⟨w.heap.size, 0, none⟩) hzg).trans g0
    have rRw3_1 := (hbRw3.cell (p := ⟨w.heap.size, 1, none⟩) hzg).trans g1
    go_wp2_with fail
    refine hK.out _ _ ⟨rRw3_0, rRw3_1⟩ (fun hS => ?_)
    clear hK
    try simp only [Act.put, List.setIfInBounds_toArray, List.set_cons_zero, List.set_cons_succ]
    refine wpAnyH_oneD (i := 9) rfl (by kernel_rfl) (fun K hK => ?_)
    rw [if_pos (by kernel_rfl)]
    go_simp
    refine (rLen_any A1 A2 n1 c1 n2 c2 _ (by omega)).mono ?_
    rintro e Rw4 ⟨rfl, hbRw4'⟩
    have hbRw4 : Below w0.heap.size w0 Rw4 := hbRw3.trans (hbRw4'.mono hbRw3.size)
    have hzRw4 := hbRw4.size
    have rRw4_0 := (hbRw4.cell (p := ⟨w.heap.size, 0, none⟩) hzg).trans g0
    have rRw4_1 := (hbRw4.cell (p := ⟨w.heap.size, 1, none⟩) hzg).trans g1
    have hyy : ((((n1 + n2 : Nat) : Int)) == ((n1 + n2 : Nat) : Int)) = true := by simp
    go_wp2_with fail
    refine hK.out _ _ ⟨rRw4_0, rRw4_1⟩ (fun hS => ?_)
    clear hK
    try simp only [Act.put, List.setIfInBounds_toArray, List.set_cons_zero, List.set_cons_succ]
    refine wpAnyH_takeD (i := 10) (v := ?_) rfl (by kernel_rfl) (by kernel_rfl) (by kernel_rfl) (fun _ _ _ h => h) (Or.inl ⟨by kernel_rfl, ?_⟩) hS ?_
    rotate_left 1
    · (intro w' hSw; (try dsimp only at hSw); go_simp; try (with_reducible rfl))
    try simp only [Act.put, List.setIfInBounds_toArray, List.set_cons_zero, List.set_cons_succ]
    refine wpAnyH_takeD (i := 11) (v := ?_) rfl (by kernel_rfl) (by kernel_rfl) (by kernel_rfl) (fun _ _ _ h => h) (Or.inl ⟨by kernel_rfl, ?_⟩) hS ?_
    rotate_left 1
    · (intro w' hSw; (try dsimp only at hSw); go_simp; try (with_reducible rfl))
    try simp only [Act.put, List.setIfInBounds_toArray, List.set_cons_zero, List.set_cons_succ]
    refine wpAnyH_takeD (i := 12) (v := ?_) rfl (by kernel_rfl) (by kernel_rfl) (by kernel_rfl) (fun _ _ _ h => h) (Or.inl ⟨by kernel_rfl, ?_⟩) hS ?_
    rotate_left 1
    · (intro w' hSw; (try dsimp only at hSw); go_simp; try (with_reducible rfl))
    try simp only [Act.put, List.setIfInBounds_toArray, List.set_cons_zero, List.set_cons_succ]
    refine wpAnyH_takeD (i := 13) (v := ?_) rfl (by kernel_rfl) (by kernel_rfl) (by kernel_rfl) (fun _ _ _ h => h) (Or.inl ⟨by kernel_rfl, ?_⟩) hS ?_
    rotate_left 1
    · (intro w' hSw; (try dsimp only at hSw); go_simp; try (with_reducible rfl))
    try simp only [Act.put, List.setIfInBounds_toArray, List.set_cons_zero, List.set_cons_succ]
    refine wpAnyH_takeD (i := 14) (v := ?_) rfl (by kernel_rfl) (by kernel_rfl) (by kernel_rfl) (fun _ _ _ h => h) (Or.inl ⟨by kernel_rfl, ?_⟩) hS ?_
    rotate_left 1
    · (intro w' hSw; (try dsimp only at hSw); go_simp; try (with_reducible rfl))
    try simp only [Act.put, List.setIfInBounds_toArray, List.set_cons_zero, List.set_cons_succ]
    refine wpAnyH_takeD (i := 16) (v := ?_) rfl (by kernel_rfl) (by kernel_rfl) (by kernel_rfl) (fun _ _ _ h => h) (Or.inl ⟨by kernel_rfl, ?_⟩) hS ?_
    rotate_left 1
    · (intro w' hSw; (try dsimp only at hSw); go_simp; try (with_reducible rfl))
    try simp only [Act.put, List.setIfInBounds_toArray, List.set_cons_zero, List.set_cons_succ]
    refine wpAnyH_takeD (i := 17) (v := ?_) rfl (by kernel_rfl) (by kernel_rfl) (by kernel_rfl) (fun _ _ _ h => h) (Or.inl ⟨by kernel_rfl, ?_⟩) hS ?_
    rotate_left 1
    · (intro w' hSw; (try dsimp only at hSw); go_simp; try (with_reducible rfl))
    try simp only [Act.put, List.setIfInBounds_toArray, List.set_cons_zero, List.set_cons_succ]
    refine wpAnyH_oneD (i := 15) rfl (by kernel_rfl) (fun K hK => ?_)
    rw [if_pos (by kernel_rfl)]
    go_simp
    refine (pAt_any A1 A2 n1 c1 n2 c2 st lo i _ B (hWW.out.below hbRw4 hB0) (Nat.le_trans hB0 hbRw4.size) (by omega) hi).mono ?_
    rintro e Rw5 ⟨rfl, hbRw5'⟩
    have hbRw5 : Below w0.heap.size w0 Rw5 := hbRw4.trans (hbRw5'.mono hbRw4.size)
    have hzRw5 := hbRw5.size
    have rRw5_0 := (hbRw5.cell (p := ⟨w.heap.size, 0, none⟩) hzg).trans g0
    have rRw5_1 := (hbRw5.cell (p := ⟨w.heap.size, 1, none⟩) hzg).trans g1
    go_wp2_with fail
    refine hK.out _ _ ⟨rRw5_0, rRw5_1⟩ (fun hS => ?_)
    clear hK
    try simp only [Act.put, List.setIfInBounds_toArray, List.set_cons_zero, List.set_cons_succ]
    refine wpAnyH_oneD (i := 18) rfl (by kernel_rfl) (fun K hK => ?_)
    rw [if_pos (by kernel_rfl)]
    go_simp
    refine (rAt_any A1 A2 n1 c1 n2 c2 st lo i _ B (hWW.out.below hbRw5 hB0) (Nat.le_trans hB0 hbRw5.size) (by omega) hi).mono ?_
    rintro e Rw6 ⟨rfl, hbRw6'⟩
    have hbRw6 : Below w0.heap.size w0 Rw6 := hbRw5.trans (hbRw6'.mono hbRw5.size)
    have hzRw6 := hbRw6.size
    have rRw6_0 := (hbRw6.cell (p := ⟨w.heap.size, 0, none⟩) hzg).trans g0
    have rRw6_1 := (hbRw6.cell (p := ⟨w.heap.size, 1, none⟩) hzg).trans g1
    generalize atW st lo i = y at *
    have hzz : (y == y) = true := by simp
    go_wp2_with fail
    refine hK.out _ _ ⟨rRw6_0, rRw6_1⟩ (fun hS => ?_)
    clear hK
    try simp only [Act.put, List.setIfInBounds_toArray, List.set_cons_zero, List.set_cons_succ]
    refine wpAnyH_takeD (i := 19) (v := ?_) rfl (by kernel_rfl) (by kernel_rfl) (by kernel_rfl) (fun _ _ _ h => h) (Or.inl ⟨by kernel_rfl, ?_⟩) hS ?_
    rotate_left 1
    · (intro w' hSw; (try dsimp only at hSw); go_simp; try (with_reducible rfl))
    try simp only [Act.put, List.setIfInBounds_toArray, List.set_cons_zero, List.set_cons_succ]
    refine wpAnyH_takeD (i := 20) (v := ?_) rfl (by kernel_rfl) (by kernel_rfl) (by kernel_rfl) (fun _ _ _ h => h) (Or.inl ⟨by kernel_rfl, ?_⟩) hS ?_
    rotate_left 1
    · (intro w' hSw; (try dsimp only at hSw); go_simp; try (with_reducible rfl))
    try simp only [Act.put, List.setIfInBounds_toArray, List.set_cons_zero, List.set_cons_succ]
    refine wpAnyH_takeD (i := 21) (v := ?_) rfl (by kernel_rfl) (by kernel_rfl) (by kernel_rfl) (fun _ _ _ h => h) (Or.inl ⟨by kernel_rfl, ?_⟩) hS ?_
    rotate_left 1
    · (intro w' hSw; (try dsimp only at hSw); go_simp; try (with_reducible rfl))
    try simp only [Act.put, List.setIfInBounds_toArray, List.set_cons_zero, List.set_cons_succ]
    refine wpAnyH_oneD (i := 22) rfl (by kernel_rfl) (fun K hK => ?_)
    rw [if_pos (by kernel_rfl)]
    go_simp
    refine (wawake_any _).mono ?_
    rintro e Rw7 ⟨rfl, hbRw7'⟩
    have hbRw7 : Below w0.heap.size w0 Rw7 := hbRw6.trans (hbRw7'.mono hbRw6.size)
    have hzRw7 := hbRw7.size
    have rRw7_0 := (hbRw7.cell (p := ⟨w.heap.size, 0, none⟩) hzg).trans g0
    have rRw7_1 := (hbRw7.cell (p := ⟨w.heap.size, 1, none⟩) hzg).trans g1
    go_wp2_with fail
    refine hK.out _ _ ⟨rRw7_0, rRw7_1⟩ (fun hS => ?_)
    clear hK
    try simp only [Act.put, List.setIfInBounds_toArray, List.set_cons_zero, List.set_cons_succ]
    refine wpAnyH_takeD (i := 23) (v := ?_) rfl (by kernel_rfl) (by kernel_rfl) (by kernel_rfl) (fun _ _ _ h => h) (Or.inl ⟨by kernel_rfl, ?_⟩) hS ?_
    rotate_left 1
    · (intro w' hSw; (try dsimp only at hSw); go_simp; try (with_reducible rfl))
    try simp only [Act.put, List.setIfInBounds_toArray, List.set_cons_zero, List.set_cons_succ]
    refine wpAnyH_takeD (i := 24) (v := ?_) rfl (by kernel_rfl) (by kernel_rfl) (by kernel_rfl) (fun _ _ _ h => h) (Or.inl ⟨by kernel_rfl, ?_⟩) hS ?_
    rotate_left 1
    · (intro w' hSw; (try dsimp only at hSw); go_simp; try (with_reducible rfl))
    try simp only [Act.put, List.setIfInBounds_toArray, List.set_cons_zero, List.set_cons_succ]
    refine wpAnyH_done (by kernel_rfl) ?_ _
    go_wp2
    go_ret
    exact ⟨rfl, HB1.out.trans (hbRw7.mono HB1.out.size)⟩
end Go.Proofs.Ytkikkplpalabhaa
