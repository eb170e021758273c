/- The walks of layer 27's reference: Shift. -/
import Derived.Test.YtkikkplpalabhaaWr7
namespace Go.Proofs.Ytkikkplpalabhaa
open Go.RowKit

theorem ext_getI {n : Nat} {a b : List Int} (ha : a.length = n) (hb : b.length = n) (h : ∀ i, i < n → a.getD i 0 = b.getD i 0) : a = b := by
  refine List.ext_getElem (by omega) (fun i h1 h2 => ?_)
  have := h i (by omega)
  rw [List.getD_eq_getElem?_getD, List.getD_eq_getElem?_getD, List.getElem?_eq_getElem h1, List.getElem?_eq_getElem h2] at this
  exact this
theorem part_drop {st lo : List Int} {k : Nat} (hk : k ≤ st.length) : partW (seqW st lo) k st.length = st.drop k := by
  refine ext_getI (n := st.length - k) (partW_len _ _ _) (by simp) (fun i hi => ?_)
  rw [partW_get hi, seqW_stem (by omega), List.getD_eq_getElem?_getD, List.getD_eq_getElem?_getD, List.getElem?_drop]
theorem part_lo {st lo : List Int} : partW (seqW st lo) st.length (st.length + lo.length) = lo := by
  refine ext_getI (n := lo.length) (by rw [partW_len]; omega) rfl (fun i hi => ?_)
  rw [partW_get (by omega), seqW_loop (by omega), show st.length + i - st.length = i by omega, Nat.mod_eq_of_lt hi]
theorem part_rot {st lo : List Int} {r : Nat} (hr : r < lo.length) : partW (seqW st lo) (st.length + r) (st.length + r + lo.length) = lo.drop r ++ lo.take r := by
  refine ext_getI (n := lo.length) (by rw [partW_len]; omega) (by simp; omega) (fun i hi => ?_)
  rw [partW_get (by omega), seqW_loop (by omega), show st.length + r + i - st.length = r + i by omega, rot_get hr hi]
set_option maxHeartbeats 2000000 in
theorem rShift0_any (A1 A2 : Option Addr) (n1 c1 n2 c2 : Nat) (st lo : List Int) (n : Int) (w : World) (B : Nat) (h : WRd w B A1 A2 n1 c1 n2 c2 st lo) (hl : n1 + n2 ≤ 60000) (h0 : n2 = 0) :
    Calls Try.prog 44 #[.agg #[.slice A1 n1 c1, .slice A2 n2 c2], .int .i64 n] w fun e w' => e = .returned (.agg #[.slice A1 n1 c1, .slice A2 n2 c2]) ∧ Below w.heap.size w w' := by
  have HX := Lib.hid (box2 w (.cells #[.slice A1 n1 c1, .slice A2 n2 c2] 34) (.cells #[.slice none 0 0, .slice none 0 0] 34))
  have HC := Lib.hid (fun (w' : World) => rCheck_any A1 A2 n1 c1 n2 c2 st lo w' h.l1 h.l2 hl)
  have hC := HC.out
  rw [if_pos h0] at hC
  have HC0 := Lib.hid hC
  clear h hC HC h0
  go_enter Try.func44, Try.ntmps44
  go_wp2_with fail
  refine Calls.mono (HC0.out _) ?_
  rintro e wa ⟨rfl, hba⟩
  obtain ⟨hb0, hx0, hx1, hxz⟩ := HX.out
  rw [hxz] at hba
  have hr7 := (hba.block (w.heap.size + 1) (by omega)).trans hx1
  have hf0 := frozen_of_row _ _ 0 _ _ hr7
  have hf1 := frozen_of_row _ _ 1 _ _ hr7
  have hg0 : wa.cell? ⟨w.heap.size + 1, 0, none⟩ = some (.slice none 0 0) := by rw [cell_of_row _ _ 0 _ _ (0, 0) hr7]; rfl
  have hg1 : wa.cell? ⟨w.heap.size + 1, 1, none⟩ = some (.slice none 0 0) := by rw [cell_of_row _ _ 1 _ _ (0, 0) hr7]; rfl
  have j0 : wa.cell? ⟨w.heap.size, 0, none⟩ = some (.slice A1 n1 c1) := by rw [cell_of_row _ _ 0 _ _ (0, 0) ((hba.block w.heap.size (by omega)).trans hx0)]; rfl
  have j1 : wa.cell? ⟨w.heap.size, 1, none⟩ = some (.slice A2 n2 c2) := by rw [cell_of_row _ _ 1 _ _ (0, 0) ((hba.block w.heap.size (by omega)).trans hx0)]; rfl
  have hb : Below w.heap.size w wa := hb0.trans (hba.mono (by omega))
  go_wp2_with fail
  refine bodyPost_ret (v := .agg #[.slice A1 n1 c1, .slice A2 n2 c2]) ?_ rfl ?_
  · obtain ⟨f0, f1⟩ := word_set (x := .slice A1 n1 c1) (y := .slice A2 n2 c2) hr7
    simp [results, Try.results44, go_sem, f0, f1]
  · exact ⟨rfl, (hb.setCell (p := ⟨w.heap.size + 1, 0, none⟩) (by show w.heap.size ≤ w.heap.size + 1; omega) _).setCell (p := ⟨w.heap.size + 1, 1, none⟩) (by show w.heap.size ≤ w.heap.size + 1; omega) _⟩
set_option maxHeartbeats 8000000 in
set_option maxRecDepth 100000 in
theorem rShiftN_any (A1 A2 : Option Addr) (n1 c1 n2 c2 : Nat) (st lo : List Int) (n : Int) (w : World) (B : Nat) (h : WRd w B A1 A2 n1 c1 n2 c2 st lo) (hB : B ≤ w.heap.size) (hl : n1 + n2 ≤ 60000) (h0 : n2 ≠ 0) (hn : n < 0) :
    Calls Try.prog 44 #[.agg #[.slice A1 n1 c1, .slice A2 n2 c2], .int .i64 n] w (NewWord w (shiftL st lo 0)) := by
  have HX := Lib.hid (box2 w (.cells #[.slice A1 n1 c1, .slice A2 n2 c2] 34) (.cells #[.slice none 0 0, .slice none 0 0] 34))
  have HC := Lib.hid (fun (w' : World) => rCheck_any A1 A2 n1 c1 n2 c2 st lo w' h.l1 h.l2 hl)
  have hC := HC.out
  rw [if_neg h0] at hC
  have HC0 := Lib.hid hC
  have HWR := Lib.hid h
  have hlo0 : lo ≠ [] := fun e => h0 (by have := h.l2; rw [e] at this; simpa using this)
  have HL1 := Lib.hid h.l1
  have HL2 := Lib.hid h.l2
  have HPT := Lib.hid (fun (W : World) (fr tk : Nat) (h1 : fr ≤ 200000) (h2 : tk ≤ 200000) (hb : Below w.heap.size w W) => rpart_any A1 A2 n1 c1 n2 c2 fr tk st lo W B (h.below hb hB) (Nat.le_trans hB hb.size) hl h1 h2)
  have HP0 := Lib.hid (fun (W : World) (tk : Nat) (h2 : tk ≤ 200000) (hb : Below w.heap.size w W) => by have := rpart_any A1 A2 n1 c1 n2 c2 0 tk st lo W B (h.below hb hB) (Nat.le_trans hB hb.size) hl (by omega) h2; rw [show ((0 : Nat) : Int) = 0 from rfl, Nat.sub_zero] at this; exact this)
  obtain ⟨q, HQ⟩ : ∃ q, Hid (q = n1 + n2) := ⟨_, Lib.hid rfl⟩
  have hq2 : q ≤ 200000 := by have := HQ.out; omega
  have hn1' : n1 ≤ 60000 := by omega
  have HLN := Lib.hid (fun (W : World) => by have := rLen_any A1 A2 n1 c1 n2 c2 W hl; rw [← HQ.out] at this; exact this)
  have hd : decide (n < 0) = true := by simpa using hn
  have hres : shiftL st lo 0 = (partW (seqW st lo) 0 n1, partW (seqW st lo) n1 q) := by rw [shiftL, if_pos (Nat.zero_le _), HQ.out, h.l1, h.l2, part_drop (Nat.zero_le _), part_lo]
  have HRES := Lib.hid hres
  clear hres hn
  clear h hC HC
  go_enter Try.func44, Try.ntmps44
  go_wp2_with fail
  refine Calls.mono (HC0.out _) ?_
  rintro e w1 ⟨rfl, hba⟩
  obtain ⟨hb0, hx0, hx1, hxz⟩ := HX.out
  rw [hxz] at hba
  have HR1 := Lib.hid ((hba.block (w.heap.size + 1) (by omega)).trans hx1)
  have j0 : w1.cell? ⟨w.heap.size, 0, none⟩ = some (.slice A1 n1 c1) := by rw [cell_of_row _ _ 0 _ _ (0, 0) ((hba.block w.heap.size (by omega)).trans hx0)]; rfl
  have j1 : w1.cell? ⟨w.heap.size, 1, none⟩ = some (.slice A2 n2 c2) := by rw [cell_of_row _ _ 1 _ _ (0, 0) ((hba.block w.heap.size (by omega)).trans hx0)]; rfl
  have hz1 : w.heap.size + 1 < w1.heap.size := by have := hba.size; omega
  have hz0 : w.heap.size < w1.heap.size := by omega
  have hb1 : Below w.heap.size w w1 := hb0.trans (hba.mono (by omega))
  have HB0z : Hid (w.heap.size ≤ w.heap.size) := Lib.hid (Nat.le_refl _)
  clear hx0 hx1 hxz hba hb0 HX h0
  go_wp2_with fail
  refine wp_region_T (S := fun w' => w'.cell? ⟨w.heap.size, 0, none⟩ = some (.slice A1 n1 c1) ∧ w'.cell? ⟨w.heap.size, 1, none⟩ = some (.slice A2 n2 c2)) 14 (by kernel_rfl) ⟨j0, j1⟩ (fun hS => ?_)
  refine wpAnyT_takeD (i := 0) (v := ?_) rfl (by kernel_rfl) (by kernel_rfl) (by kernel_rfl) (by kernel_rfl) (fun _ _ _ h => h) (Or.inl ⟨by kernel_rfl, ?_⟩) hS ?_
  rotate_left 1
  · (intro w' hSw; (try dsimp only at hSw); go_simp; try (with_reducible rfl))
  try simp only [Act.put, List.setIfInBounds_toArray, List.set_cons_zero, List.set_cons_succ]
  refine wpAnyT_takeD (i := 1) (v := ?_) rfl (by kernel_rfl) (by kernel_rfl) (by kernel_rfl) (by kernel_rfl) (fun _ _ _ h => h) (Or.inl ⟨by kernel_rfl, ?_⟩) hS ?_
  rotate_left 1
  · (intro w' hSw; (try dsimp only at hSw); go_simp; try (with_reducible rfl))
  try simp only [Act.put, List.setIfInBounds_toArray, List.set_cons_zero, List.set_cons_succ]
  refine wpAnyT_takeD (i := 2) (v := ?_) rfl (by kernel_rfl) (by kernel_rfl) (by kernel_rfl) (by kernel_rfl) (fun _ _ _ h => h) (Or.inl ⟨by kernel_rfl, ?_⟩) hS ?_
  rotate_left 1
  · (intro w' hSw; (try dsimp only at hSw); go_simp; try (with_reducible rfl))
  try simp only [Act.put, List.setIfInBounds_toArray, List.set_cons_zero, List.set_cons_succ]
  refine wpAnyT_takeD (i := 3) (v := ?_) rfl (by kernel_rfl) (by kernel_rfl) (by kernel_rfl) (by kernel_rfl) (fun _ _ _ h => h) (Or.inl ⟨by kernel_rfl, ?_⟩) hS ?_
  rotate_left 1
  · (intro w' hSw; (try dsimp only at hSw); go_simp; try (with_reducible rfl))
  try simp only [Act.put, List.setIfInBounds_toArray, List.set_cons_zero, List.set_cons_succ]
  refine wpAnyT_takeD (i := 4) (v := ?_) rfl (by kernel_rfl) (by kernel_rfl) (by kernel_rfl) (by kernel_rfl) (fun _ _ _ h => h) (Or.inl ⟨by kernel_rfl, ?_⟩) hS ?_
  rotate_left 1
  · (intro w' hSw; (try dsimp only at hSw); go_simp; try (with_reducible rfl))
  try simp only [Act.put, List.setIfInBounds_toArray, List.set_cons_zero, List.set_cons_succ]
  refine wpAnyT_takeD (i := 6) (v := ?_) rfl (by kernel_rfl) (by kernel_rfl) (by kernel_rfl) (by kernel_rfl) (fun _ _ _ h => h) (Or.inl ⟨by kernel_rfl, ?_⟩) hS ?_
  rotate_left 1
  · (intro w' hSw; (try dsimp only at hSw); go_simp; try (with_reducible rfl))
  try simp only [Act.put, List.setIfInBounds_toArray, List.set_cons_zero, List.set_cons_succ]
  refine wpAnyT_takeD (i := 7) (v := ?_) rfl (by kernel_rfl) (by kernel_rfl) (by kernel_rfl) (by kernel_rfl) (fun _ _ _ h => h) (Or.inl ⟨by kernel_rfl, ?_⟩) hS ?_
  rotate_left 1
  · (intro w' hSw; (try dsimp only at hSw); go_simp; try (with_reducible rfl))
  try simp only [Act.put, List.setIfInBounds_toArray, List.set_cons_zero, List.set_cons_succ]
  refine wpAnyT_takeD (i := 8) (v := ?_) rfl (by kernel_rfl) (by kernel_rfl) (by kernel_rfl) (by kernel_rfl) (fun _ _ _ h => h) (Or.inl ⟨by kernel_rfl, ?_⟩) hS ?_
  rotate_left 1
  · (intro w' hSw; (try dsimp only at hSw); go_simp; try (with_reducible rfl))
  try simp only [Act.put, List.setIfInBounds_toArray, List.set_cons_zero, List.set_cons_succ]
  refine wpAnyT_takeD (i := 9) (v := ?_) rfl (by kernel_rfl) (by kernel_rfl) (by kernel_rfl) (by kernel_rfl) (fun _ _ _ h => h) (Or.inl ⟨by kernel_rfl, ?_⟩) hS ?_
  rotate_left 1
  · (intro w' hSw; (try dsimp only at hSw); go_simp; try (with_reducible rfl))
  try simp only [Act.put, List.setIfInBounds_toArray, List.set_cons_zero, List.set_cons_succ]
  refine wpAnyT_takeD (i := 10) (v := ?_) rfl (by kernel_rfl) (by kernel_rfl) (by kernel_rfl) (by kernel_rfl) (fun _ _ _ h => h) (Or.inl ⟨by kernel_rfl, ?_⟩) hS ?_
  rotate_left 1
  · (intro w' hSw; (try dsimp only at hSw); go_simp; try (with_reducible rfl))
  try simp only [Act.put, List.setIfInBounds_toArray, List.set_cons_zero, List.set_cons_succ]
  refine wpAnyT_oneD (i := 5) rfl (by kernel_rfl) (by decide) (fun K hK => ?_)
  go_simp
  refine Calls.mono (HP0.out _ n1 (by omega) (hb1.trans (Below.refl _ _).drew)) ?_
  rintro e w6 ⟨v1, rfl, ho1, hb6', -⟩
  obtain ⟨A6, c6, rfl, -⟩ := own_sl ho1
  have hb6 : Below w1.heap.size w1 w6 := below_undrew hb6'
  clear hb6'
  have k0 := (hb6.cell (p := ⟨w.heap.size, 0, none⟩) (show w.heap.size < w1.heap.size by omega)).trans j0
  have k1 := (hb6.cell (p := ⟨w.heap.size, 1, none⟩) (show w.heap.size < w1.heap.size by omega)).trans j1
  have hm6 := hb6.size
  go_wp2_with fail
  refine hK.out _ _ ⟨k0, k1⟩ (fun hS => ?_)
  clear hK
  try simp only [Act.put, List.setIfInBounds_toArray, List.set_cons_zero, List.set_cons_succ]
  refine wpAnyT_oneD (i := 11) rfl (by kernel_rfl) (by decide) (fun K hK => ?_)
  go_simp
  refine Calls.mono (HLN.out _) ?_
  rintro e w8 ⟨rfl, hb8⟩
  have l0 := (hb8.cell (p := ⟨w.heap.size, 0, none⟩) (show w.heap.size < w6.heap.size by omega)).trans k0
  have l1 := (hb8.cell (p := ⟨w.heap.size, 1, none⟩) (show w.heap.size < w6.heap.size by omega)).trans k1
  have hm8 := hb8.size
  go_wp2_with fail
  refine hK.out _ _ ⟨l0, l1⟩ (fun hS => ?_)
  clear hK
  try simp only [Act.put, List.setIfInBounds_toArray, List.set_cons_zero, List.set_cons_succ]
  refine wpAnyT_oneD (i := 12) rfl (by kernel_rfl) (by decide) (fun K hK => ?_)
  go_simp
  refine Calls.mono (HPT.out _ n1 q (by omega) (by omega) (below_tr hb1 (hb6.trans (hb8.mono hm6)) (by omega))) ?_
  rintro e w7 ⟨v2, rfl, ho2, hb7, -⟩
  obtain ⟨A7, c7, rfl, -⟩ := own_sl ho2
  have q0 := (hb7.cell (p := ⟨w.heap.size, 0, none⟩) (show w.heap.size < w8.heap.size by omega)).trans l0
  have q1 := (hb7.cell (p := ⟨w.heap.size, 1, none⟩) (show w.heap.size < w8.heap.size by omega)).trans l1
  have hw7 := (hb6.trans (hb8.mono hm6)).trans (hb7.mono (Nat.le_trans hm6 hm8))
  have hr7 := (hw7.block (w.heap.size + 1) (by omega)).trans HR1.out
  have hf0 := frozen_of_row _ _ 0 _ _ hr7
  have hf1 := frozen_of_row _ _ 1 _ _ hr7
  have hg0 : w7.cell? ⟨w.heap.size + 1, 0, none⟩ = some (.slice none 0 0) := by rw [cell_of_row _ _ 0 _ _ (0, 0) hr7]; rfl
  have hg1 : w7.cell? ⟨w.heap.size + 1, 1, none⟩ = some (.slice none 0 0) := by rw [cell_of_row _ _ 1 _ _ (0, 0) hr7]; rfl
  go_wp2_with fail
  refine hK.out _ _ ⟨q0, q1⟩ (fun hS => ?_)
  clear hK
  try simp only [Act.put, List.setIfInBounds_toArray, List.set_cons_zero, List.set_cons_succ]
  refine wpAnyT_takeD (i := 13) (v := ?_) rfl (by kernel_rfl) (by kernel_rfl) (by kernel_rfl) (by kernel_rfl) (fun _ _ _ h => h) (Or.inl ⟨by kernel_rfl, ?_⟩) hS ?_
  rotate_left 1
  · (intro w' hSw; (try dsimp only at hSw); go_simp; try (with_reducible rfl))
  try simp only [Act.put, List.setIfInBounds_toArray, List.set_cons_zero, List.set_cons_succ]
  refine wpAnyT_endD rfl (by kernel_rfl) (by kernel_rfl) (fun K hK => ?_)
  go_simp
  refine hK.out _ _ ?_
  clear hK
  go_wp2_with fail
  refine bodyPost_ret (v := .agg #[.slice A6 (n1) c6, .slice A7 (q - n1) c7]) ?_ rfl ?_
  · obtain ⟨f0, f1⟩ := word_set (x := .slice A6 (n1) c6) (y := .slice A7 (q - n1) c7) hr7
    simp [results, Try.results44, go_sem, f0, f1]
  · rw [HRES.out]
    exact nword_end (p := (_, _)) (h := own_belW (hb8.trans (hb7.mono hm8)) (Nat.le_refl _) ho1) (h' := own_base ho2 (Nat.le_trans hm6 hm8)) (hb1.trans (hw7.mono (by omega))) (Nat.le_refl _) (by omega) hz1 (by simp [partW_len]) (by simp [partW_len]) rfl rfl
set_option maxHeartbeats 8000000 in
set_option maxRecDepth 100000 in
theorem rShiftS_any (A1 A2 : Option Addr) (n1 c1 n2 c2 : Nat) (st lo : List Int) (k : Nat) (w : World) (B : Nat) (h : WRd w B A1 A2 n1 c1 n2 c2 st lo) (hB : B ≤ w.heap.size) (hl : n1 + n2 ≤ 60000) (h0 : n2 ≠ 0) (hk : k ≤ n1) :
    Calls Try.prog 44 #[.agg #[.slice A1 n1 c1, .slice A2 n2 c2], .int .i64 (k : Int)] w (NewWord w (shiftL st lo k)) := by
  have HX := Lib.hid (box2 w (.cells #[.slice A1 n1 c1, .slice A2 n2 c2] 34) (.cells #[.slice none 0 0, .slice none 0 0] 34))
  have HC := Lib.hid (fun (w' : World) => rCheck_any A1 A2 n1 c1 n2 c2 st lo w' h.l1 h.l2 hl)
  have hC := HC.out
  rw [if_neg h0] at hC
  have HC0 := Lib.hid hC
  have HWR := Lib.hid h
  have hlo0 : lo ≠ [] := fun e => h0 (by have := h.l2; rw [e] at this; simpa using this)
  have HL1 := Lib.hid h.l1
  have HL2 := Lib.hid h.l2
  have HPT := Lib.hid (fun (W : World) (fr tk : Nat) (h1 : fr ≤ 200000) (h2 : tk ≤ 200000) (hb : Below w.heap.size w W) => rpart_any A1 A2 n1 c1 n2 c2 fr tk st lo W B (h.below hb hB) (Nat.le_trans hB hb.size) hl h1 h2)
  have HP0 := Lib.hid (fun (W : World) (tk : Nat) (h2 : tk ≤ 200000) (hb : Below w.heap.size w W) => by have := rpart_any A1 A2 n1 c1 n2 c2 0 tk st lo W B (h.below hb hB) (Nat.le_trans hB hb.size) hl (by omega) h2; rw [show ((0 : Nat) : Int) = 0 from rfl, Nat.sub_zero] at this; exact this)
  obtain ⟨q, HQ⟩ : ∃ q, Hid (q = n1 + n2) := ⟨_, Lib.hid rfl⟩
  have hq2 : q ≤ 200000 := by have := HQ.out; omega
  have hn1' : n1 ≤ 60000 := by omega
  have HLN := Lib.hid (fun (W : World) => by have := rLen_any A1 A2 n1 c1 n2 c2 W hl; rw [← HQ.out] at this; exact this)
  have hd : ¬ ((k : Int) < 0) := by omega
  have hres : shiftL st lo k = (partW (seqW st lo) k n1, partW (seqW st lo) n1 q) := by rw [shiftL, if_pos (by rw [← h.l1]; exact hk), HQ.out, h.l1, h.l2, part_drop (by rw [← h.l1]; exact hk), part_lo]
  have HRES := Lib.hid hres
  clear hres
  clear h hC HC
  go_enter Try.func44, Try.ntmps44
  go_wp2_with fail
  refine Calls.mono (HC0.out _) ?_
  rintro e w1 ⟨rfl, hba⟩
  obtain ⟨hb0, hx0, hx1, hxz⟩ := HX.out
  rw [hxz] at hba
  have HR1 := Lib.hid ((hba.block (w.heap.size + 1) (by omega)).trans hx1)
  have j0 : w1.cell? ⟨w.heap.size, 0, none⟩ = some (.slice A1 n1 c1) := by rw [cell_of_row _ _ 0 _ _ (0, 0) ((hba.block w.heap.size (by omega)).trans hx0)]; rfl
  have j1 : w1.cell? ⟨w.heap.size, 1, none⟩ = some (.slice A2 n2 c2) := by rw [cell_of_row _ _ 1 _ _ (0, 0) ((hba.block w.heap.size (by omega)).trans hx0)]; rfl
  have hz1 : w.heap.size + 1 < w1.heap.size := by have := hba.size; omega
  have hz0 : w.heap.size < w1.heap.size := by omega
  have hb1 : Below w.heap.size w w1 := hb0.trans (hba.mono (by omega))
  have HB0z : Hid (w.heap.size ≤ w.heap.size) := Lib.hid (Nat.le_refl _)
  clear hx0 hx1 hxz hba hb0 HX h0
  go_wp2_with fail
  refine wp_region_T (S := fun w' => w'.cell? ⟨w.heap.size, 0, none⟩ = some (.slice A1 n1 c1) ∧ w'.cell? ⟨w.heap.size, 1, none⟩ = some (.slice A2 n2 c2)) 14 (by kernel_rfl) ⟨j0, j1⟩ (fun hS => ?_)
  refine wpAnyT_takeD (i := 0) (v := ?_) rfl (by kernel_rfl) (by kernel_rfl) (by kernel_rfl) (by kernel_rfl) (fun _ _ _ h => h) (Or.inl ⟨by kernel_rfl, ?_⟩) hS ?_
  rotate_left 1
  · (intro w' hSw; (try dsimp only at hSw); go_simp; try (with_reducible rfl))
  try simp only [Act.put, List.setIfInBounds_toArray, List.set_cons_zero, List.set_cons_succ]
  refine wpAnyT_takeD (i := 1) (v := ?_) rfl (by kernel_rfl) (by kernel_rfl) (by kernel_rfl) (by kernel_rfl) (fun _ _ _ h => h) (Or.inl ⟨by kernel_rfl, ?_⟩) hS ?_
  rotate_left 1
  · (intro w' hSw; (try dsimp only at hSw); go_simp; try (with_reducible rfl))
  try simp only [Act.put, List.setIfInBounds_toArray, List.set_cons_zero, List.set_cons_succ]
  refine wpAnyT_takeD (i := 2) (v := ?_) rfl (by kernel_rfl) (by kernel_rfl) (by kernel_rfl) (by kernel_rfl) (fun _ _ _ h => h) (Or.inl ⟨by kernel_rfl, ?_⟩) hS ?_
  rotate_left 1
  · (intro w' hSw; (try dsimp only at hSw); go_simp; try (with_reducible rfl))
  try simp only [Act.put, List.setIfInBounds_toArray, List.set_cons_zero, List.set_cons_succ]
  refine wpAnyT_takeD (i := 3) (v := ?_) rfl (by kernel_rfl) (by kernel_rfl) (by kernel_rfl) (by kernel_rfl) (fun _ _ _ h => h) (Or.inl ⟨by kernel_rfl, ?_⟩) hS ?_
  rotate_left 1
  · (intro w' hSw; (try dsimp only at hSw); go_simp; try (with_reducible rfl))
  try simp only [Act.put, List.setIfInBounds_toArray, List.set_cons_zero, List.set_cons_succ]
  refine wpAnyT_takeD (i := 4) (v := ?_) rfl (by kernel_rfl) (by kernel_rfl) (by kernel_rfl) (by kernel_rfl) (fun _ _ _ h => h) (Or.inl ⟨by kernel_rfl, ?_⟩) hS ?_
  rotate_left 1
  · (intro w' hSw; (try dsimp only at hSw); go_simp; try (with_reducible rfl))
  try simp only [Act.put, List.setIfInBounds_toArray, List.set_cons_zero, List.set_cons_succ]
  refine wpAnyT_takeD (i := 6) (v := ?_) rfl (by kernel_rfl) (by kernel_rfl) (by kernel_rfl) (by kernel_rfl) (fun _ _ _ h => h) (Or.inl ⟨by kernel_rfl, ?_⟩) hS ?_
  rotate_left 1
  · (intro w' hSw; (try dsimp only at hSw); go_simp; try (with_reducible rfl))
  try simp only [Act.put, List.setIfInBounds_toArray, List.set_cons_zero, List.set_cons_succ]
  refine wpAnyT_takeD (i := 7) (v := ?_) rfl (by kernel_rfl) (by kernel_rfl) (by kernel_rfl) (by kernel_rfl) (fun _ _ _ h => h) (Or.inl ⟨by kernel_rfl, ?_⟩) hS ?_
  rotate_left 1
  · (intro w' hSw; (try dsimp only at hSw); go_simp; try (with_reducible rfl))
  try simp only [Act.put, List.setIfInBounds_toArray, List.set_cons_zero, List.set_cons_succ]
  refine wpAnyT_takeD (i := 8) (v := ?_) rfl (by kernel_rfl) (by kernel_rfl) (by kernel_rfl) (by kernel_rfl) (fun _ _ _ h => h) (Or.inl ⟨by kernel_rfl, ?_⟩) hS ?_
  rotate_left 1
  · (intro w' hSw; (try dsimp only at hSw); go_simp; try (with_reducible rfl))
  try simp only [Act.put, List.setIfInBounds_toArray, List.set_cons_zero, List.set_cons_succ]
  refine wpAnyT_takeD (i := 9) (v := ?_) rfl (by kernel_rfl) (by kernel_rfl) (by kernel_rfl) (by kernel_rfl) (fun _ _ _ h => h) (Or.inl ⟨by kernel_rfl, ?_⟩) hS ?_
  rotate_left 1
  · (intro w' hSw; (try dsimp only at hSw); go_simp; try (with_reducible rfl))
  try simp only [Act.put, List.setIfInBounds_toArray, List.set_cons_zero, List.set_cons_succ]
  refine wpAnyT_takeD (i := 10) (v := ?_) rfl (by kernel_rfl) (by kernel_rfl) (by kernel_rfl) (by kernel_rfl) (fun _ _ _ h => h) (Or.inl ⟨by kernel_rfl, ?_⟩) hS ?_
  rotate_left 1
  · (intro w' hSw; (try dsimp only at hSw); go_simp; try (with_reducible rfl))
  try simp only [Act.put, List.setIfInBounds_toArray, List.set_cons_zero, List.set_cons_succ]
  refine wpAnyT_oneD (i := 5) rfl (by kernel_rfl) (by decide) (fun K hK => ?_)
  go_simp
  refine Calls.mono (HPT.out _ k n1 (by omega) (by omega) (hb1.trans (Below.refl _ _).drew)) ?_
  rintro e w6 ⟨v1, rfl, ho1, hb6', -⟩
  obtain ⟨A6, c6, rfl, -⟩ := own_sl ho1
  have hb6 : Below w1.heap.size w1 w6 := below_undrew hb6'
  clear hb6'
  have k0 := (hb6.cell (p := ⟨w.heap.size, 0, none⟩) (show w.heap.size < w1.heap.size by omega)).trans j0
  have k1 := (hb6.cell (p := ⟨w.heap.size, 1, none⟩) (show w.heap.size < w1.heap.size by omega)).trans j1
  have hm6 := hb6.size
  go_wp2_with fail
  refine hK.out _ _ ⟨k0, k1⟩ (fun hS => ?_)
  clear hK
  try simp only [Act.put, List.setIfInBounds_toArray, List.set_cons_zero, List.set_cons_succ]
  refine wpAnyT_oneD (i := 11) rfl (by kernel_rfl) (by decide) (fun K hK => ?_)
  go_simp
  refine Calls.mono (HLN.out _) ?_
  rintro e w8 ⟨rfl, hb8⟩
  have l0 := (hb8.cell (p := ⟨w.heap.size, 0, none⟩) (show w.heap.size < w6.heap.size by omega)).trans k0
  have l1 := (hb8.cell (p := ⟨w.heap.size, 1, none⟩) (show w.heap.size < w6.heap.size by omega)).trans k1
  have hm8 := hb8.size
  go_wp2_with fail
  refine hK.out _ _ ⟨l0, l1⟩ (fun hS => ?_)
  clear hK
  try simp only [Act.put, List.setIfInBounds_toArray, List.set_cons_zero, List.set_cons_succ]
  refine wpAnyT_oneD (i := 12) rfl (by kernel_rfl) (by decide) (fun K hK => ?_)
  go_simp
  refine Calls.mono (HPT.out _ n1 q (by omega) (by omega) (below_tr hb1 (hb6.trans (hb8.mono hm6)) (by omega))) ?_
  rintro e w7 ⟨v2, rfl, ho2, hb7, -⟩
  obtain ⟨A7, c7, rfl, -⟩ := own_sl ho2
  have q0 := (hb7.cell (p := ⟨w.heap.size, 0, none⟩) (show w.heap.size < w8.heap.size by omega)).trans l0
  have q1 := (hb7.cell (p := ⟨w.heap.size, 1, none⟩) (show w.heap.size < w8.heap.size by omega)).trans l1
  have hw7 := (hb6.trans (hb8.mono hm6)).trans (hb7.mono (Nat.le_trans hm6 hm8))
  have hr7 := (hw7.block (w.heap.size + 1) (by omega)).trans HR1.out
  have hf0 := frozen_of_row _ _ 0 _ _ hr7
  have hf1 := frozen_of_row _ _ 1 _ _ hr7
  have hg0 : w7.cell? ⟨w.heap.size + 1, 0, none⟩ = some (.slice none 0 0) := by rw [cell_of_row _ _ 0 _ _ (0, 0) hr7]; rfl
  have hg1 : w7.cell? ⟨w.heap.size + 1, 1, none⟩ = some (.slice none 0 0) := by rw [cell_of_row _ _ 1 _ _ (0, 0) hr7]; rfl
  go_wp2_with fail
  refine hK.out _ _ ⟨q0, q1⟩ (fun hS => ?_)
  clear hK
  try simp only [Act.put, List.setIfInBounds_toArray, List.set_cons_zero, List.set_cons_succ]
  refine wpAnyT_takeD (i := 13) (v := ?_) rfl (by kernel_rfl) (by kernel_rfl) (by kernel_rfl) (by kernel_rfl) (fun _ _ _ h => h) (Or.inl ⟨by kernel_rfl, ?_⟩) hS ?_
  rotate_left 1
  · (intro w' hSw; (try dsimp only at hSw); go_simp; try (with_reducible rfl))
  try simp only [Act.put, List.setIfInBounds_toArray, List.set_cons_zero, List.set_cons_succ]
  refine wpAnyT_endD rfl (by kernel_rfl) (by kernel_rfl) (fun K hK => ?_)
  go_simp
  refine hK.out _ _ ?_
  clear hK
  go_wp2_with fail
  refine bodyPost_ret (v := .agg #[.slice A6 (n1 - k) c6, .slice A7 (q - n1) c7]) ?_ rfl ?_
  · obtain ⟨f0, f1⟩ := word_set (x := .slice A6 (n1 - k) c6) (y := .slice A7 (q - n1) c7) hr7
    simp [results, Try.results44, go_sem, f0, f1]
  · rw [HRES.out]
    exact nword_end (p := (_, _)) (h := own_belW (hb8.trans (hb7.mono hm8)) (Nat.le_refl _) ho1) (h' := own_base ho2 (Nat.le_trans hm6 hm8)) (hb1.trans (hw7.mono (by omega))) (Nat.le_refl _) (by omega) hz1 (by simp [partW_len]) (by simp [partW_len]) rfl rfl
set_option maxHeartbeats 8000000 in
set_option maxRecDepth 100000 in
theorem rShiftL_any (A1 A2 : Option Addr) (n1 c1 n2 c2 : Nat) (st lo : List Int) (k : Nat) (w : World) (B : Nat) (h : WRd w B A1 A2 n1 c1 n2 c2 st lo) (hB : B ≤ w.heap.size) (hl : n1 + n2 ≤ 60000) (h0 : n2 ≠ 0) (hk : n1 < k) (hkb : k ≤ 9223372036854775807) :
    Calls Try.prog 44 #[.agg #[.slice A1 n1 c1, .slice A2 n2 c2], .int .i64 (k : Int)] w (NewWord w (shiftL st lo k)) := by
  have HX := Lib.hid (box2 w (.cells #[.slice A1 n1 c1, .slice A2 n2 c2] 34) (.cells #[.slice none 0 0, .slice none 0 0] 34))
  have HC := Lib.hid (fun (w' : World) => rCheck_any A1 A2 n1 c1 n2 c2 st lo w' h.l1 h.l2 hl)
  have hC := HC.out
  rw [if_neg h0] at hC
  have HC0 := Lib.hid hC
  have HWR := Lib.hid h
  have hlo0 : lo ≠ [] := fun e => h0 (by have := h.l2; rw [e] at this; simpa using this)
  have HL1 := Lib.hid h.l1
  have HL2 := Lib.hid h.l2
  have HPT := Lib.hid (fun (W : World) (fr tk : Nat) (h1 : fr ≤ 200000) (h2 : tk ≤ 200000) (hb : Below w.heap.size w W) => rpart_any A1 A2 n1 c1 n2 c2 fr tk st lo W B (h.below hb hB) (Nat.le_trans hB hb.size) hl h1 h2)
  have HP0 := Lib.hid (fun (W : World) (tk : Nat) (h2 : tk ≤ 200000) (hb : Below w.heap.size w W) => by have := rpart_any A1 A2 n1 c1 n2 c2 0 tk st lo W B (h.below hb hB) (Nat.le_trans hB hb.size) hl (by omega) h2; rw [show ((0 : Nat) : Int) = 0 from rfl, Nat.sub_zero] at this; exact this)
  obtain ⟨q, HQ⟩ : ∃ q, Hid (q = n1 + n2) := ⟨_, Lib.hid rfl⟩
  have hq2 : q ≤ 200000 := by have := HQ.out; omega
  have hn1' : n1 ≤ 60000 := by omega
  have HLN := Lib.hid (fun (W : World) => by have := rLen_any A1 A2 n1 c1 n2 c2 W hl; rw [← HQ.out] at this; exact this)
  have hd : ¬ ((k : Int) < 0) := by omega
  have hd2 : decide (k ≤ n1) = false := by simp; omega
  obtain ⟨j, HJ⟩ : ∃ j, Hid (j = k - n1) := ⟨_, Lib.hid rfl⟩
  obtain ⟨r, HRR⟩ : ∃ r, Hid (r = j % n2) := ⟨_, Lib.hid rfl⟩
  have hrl : r < n2 := by rw [HRR.out]; exact Nat.mod_lt _ (by omega)
  obtain ⟨s, HSS⟩ : ∃ s, Hid (s = n1 + r) := ⟨_, Lib.hid rfl⟩
  obtain ⟨t, HTT⟩ : ∃ t, Hid (t = s + n2) := ⟨_, Lib.hid rfl⟩
  have hs2 : s ≤ 200000 := by have := HSS.out; omega
  have ht2 : t ≤ 200000 := by have := HSS.out; have := HTT.out; omega
  have e1 : IntKind.i64.wrap ((k : Int) - (n1 : Int)) = (j : Int) := by have := HJ.out; rw [IntWalk.i64_in _ (by omega)]; omega
  have e2 : ((j : Int)).tmod (n2 : Int) = (r : Int) := by rw [Int.tmod_eq_emod_of_nonneg (by omega), HRR.out]; omega
  have e3 : IntKind.i64.wrap ((n1 : Int) + (r : Int)) = (s : Int) := by have := HSS.out; rw [IntWalk.i64_in _ (by omega)]; omega
  have e4 : IntKind.i64.wrap ((s : Int) + (n2 : Int)) = (t : Int) := by have := HTT.out; rw [IntWalk.i64_in _ (by omega)]; omega
  have hn20 : ¬ ((n2 : Int) = 0) := by omega
  have hres : shiftL st lo k = ([], partW (seqW st lo) s t) := by
    rw [shiftL, if_neg (by rw [← h.l1]; omega), HTT.out, HSS.out, h.l1, h.l2, part_rot (by rw [← h.l2]; exact hrl), HRR.out, HJ.out, h.l1, h.l2]
  have HRES := Lib.hid hres
  have HE1 := Lib.hid e1
  have HE2 := Lib.hid e2
  have HE3 := Lib.hid e3
  have HE4 := Lib.hid e4
  clear hres e1 e2 e3 e4
  clear h hC HC
  go_enter Try.func44, Try.ntmps44
  go_wp2_with fail
  refine Calls.mono (HC0.out _) ?_
  rintro e w1 ⟨rfl, hba⟩
  obtain ⟨hb0, hx0, hx1, hxz⟩ := HX.out
  rw [hxz] at hba
  have HR1 := Lib.hid ((hba.block (w.heap.size + 1) (by omega)).trans hx1)
  have j0 : w1.cell? ⟨w.heap.size, 0, none⟩ = some (.slice A1 n1 c1) := by rw [cell_of_row _ _ 0 _ _ (0, 0) ((hba.block w.heap.size (by omega)).trans hx0)]; rfl
  have j1 : w1.cell? ⟨w.heap.size, 1, none⟩ = some (.slice A2 n2 c2) := by rw [cell_of_row _ _ 1 _ _ (0, 0) ((hba.block w.heap.size (by omega)).trans hx0)]; rfl
  have hz1 : w.heap.size + 1 < w1.heap.size := by have := hba.size; omega
  have hz0 : w.heap.size < w1.heap.size := by omega
  have hb1 : Below w.heap.size w w1 := hb0.trans (hba.mono (by omega))
  have HB0z : Hid (w.heap.size ≤ w.heap.size) := Lib.hid (Nat.le_refl _)
  clear hx0 hx1 hxz hba hb0 HX h0
  go_wp2_with fail
  have e1 := HE1.out
  have e2 := HE2.out
  have e3 := HE3.out
  go_quiet (fail)
  clear e1 e2 e3
  rename_i nq
  obtain ⟨ws, hws⟩ : ∃ W, W = w1.drewN nq := ⟨_, rfl⟩
  have hbs : Below w1.heap.size w1 ws := by rw [hws]; exact below_drewN (Below.refl _ _) nq
  rw [← hws]
  clear hws
  have hsz := hbs.size
  have hbw : Below w.heap.size w ws := below_tr hb1 hbs (by omega)
  have HRW := Lib.hid ((hbs.block (w.heap.size + 1) (by omega)).trans HR1.out)
  have z0 := (hbs.cell (p := ⟨w.heap.size, 0, none⟩) (show w.heap.size < w1.heap.size by omega)).trans j0
  have z1 := (hbs.cell (p := ⟨w.heap.size, 1, none⟩) (show w.heap.size < w1.heap.size by omega)).trans j1
  have e4 := HE4.out
  clear j0 j1
  go_wp2_with fail
  refine Calls.mono (HPT.out _ s t (by omega) (by omega) hbw) ?_
  rintro e w7 ⟨v1, rfl, ho1, hb7, -⟩
  obtain ⟨A6, c6, rfl, -⟩ := own_sl ho1
  have hr7 := (hb7.block (w.heap.size + 1) (by omega)).trans HRW.out
  have hf0 := frozen_of_row _ _ 0 _ _ hr7
  have hf1 := frozen_of_row _ _ 1 _ _ hr7
  have hg0 : w7.cell? ⟨w.heap.size + 1, 0, none⟩ = some (.slice none 0 0) := by rw [cell_of_row _ _ 0 _ _ (0, 0) hr7]; rfl
  have hg1 : w7.cell? ⟨w.heap.size + 1, 1, none⟩ = some (.slice none 0 0) := by rw [cell_of_row _ _ 1 _ _ (0, 0) hr7]; rfl
  go_wp2_with fail
  refine bodyPost_ret (v := .agg #[.slice none 0 0, .slice A6 (t - s) c6]) ?_ rfl ?_
  · obtain ⟨f0, f1⟩ := word_set (x := .slice none 0 0) (y := .slice A6 (t - s) c6) hr7
    simp [results, Try.results44, go_sem, f0, f1]
  · rw [HRES.out]
    exact nword_end (p := (_, _)) (World.ownsRow_nil _ _ _ _) (h' := ho1) (below_tr hbw hb7 (by omega)) (Nat.le_refl _) (by omega) (by omega) (by simp) (by simp [partW_len]) rfl rfl
end Go.Proofs.Ytkikkplpalabhaa
