/- The law WordTruths of layer 27. -/
import Derived.Test.YtkikkplpalabhaaWr10
namespace Go.Proofs.Ytkikkplpalabhaa
open Go.RowKit

theorem seqW_nn {st lo : List Int} (h1 : ∀ n ∈ st, (Lit.int .u64 n).wf = true) (h2 : ∀ n ∈ lo, (Lit.int .u64 n).wf = true) (k : Nat) : 0 ≤ seqW st lo k := by
  have key : ∀ (l : List Int), (∀ n ∈ l, (Lit.int .u64 n).wf = true) → ∀ i, 0 ≤ l.getD i 0 := by
    intro l hl i
    rw [List.getD_eq_getElem?_getD]
    rcases Nat.lt_or_ge i l.length with hi | hi
    · rw [List.getElem?_eq_getElem hi]
      have := hl _ (List.getElem_mem hi)
      simp [Lit.wf, IntKind.min, IntKind.max, IntKind.signed, IntKind.bits] at this
      exact this.1
    · rw [List.getElem?_eq_none hi]; exact Int.le_refl _
  rw [seqW]
  split
  · exact key _ h1 _
  · exact key _ h2 _
theorem truthW_rows {bits : Int → Nat → Bool} {f : List Nd} {st lo : List Int} {r : List Bool} (h : r ∈ truthW bits f st lo) : r.length = st.length + lo.length := by
  rw [truthW] at h
  split at h
  · rename_i hg
    have := (tfold_ok (bits := bits) (n := st.length + lo.length) (lp := st.length) hg.2 f.length (Nat.le_refl _)).rows r (by rw [tfold_end]; exact h)
    exact this
  · simp at h
set_option maxHeartbeats 8000000 in
set_option maxRecDepth 100000 in
theorem WordTruths_any (A A1 A2 : Option Addr) (n c n1 c1 n2 c2 : Nat) (f : List Nd) (st lo : List Int) (w : World) (hnf : n = f.length) (h1 : n1 = st.length) (h2 : n2 = lo.length) (hf : Sl w w.heap.size 2 A n c (ncells f)) (hs : Sl w w.heap.size 1 A1 n1 c1 (ucells st)) (ht : Sl w w.heap.size 1 A2 n2 c2 (ucells lo))
    (hw1 : ∀ n ∈ st, (Lit.int .u64 n).wf = true) (hw2 : ∀ n ∈ lo, (Lit.int .u64 n).wf = true) (hl : n ≤ 8796093022208) (hl1 : n1 ≤ 17592186044416) (hl2 : n2 ≤ 17592186044416) :
    Calls Try.prog 8 #[.slice A n c, .agg #[.slice A1 n1 c1, .slice A2 n2 c2]] w (Tru w true) := by
  obtain ⟨hb0, x0, x1⟩ := wbox w A1 A2 n1 c1 n2 c2
  obtain ⟨W0, hW0⟩ : ∃ W, W = w.alloc (.cells #[.slice A1 n1 c1, .slice A2 n2 c2] 34) := ⟨_, rfl⟩
  have hz0 : w.heap.size < W0.heap.size := by rw [hW0]; simp
  rw [← hW0] at hb0 x0 x1
  have HW0 := Lib.hid hW0
  have HNN := Lib.hid (seqW_nn hw1 hw2)
  have HH := Lib.hid (heavyW_any A A1 A2 n c n1 c1 n2 c2 W0 (by omega) (by omega) (by omega))
  have hW := Lib.hid (⟨hs.below hb0 (Nat.le_refl _), ht.below hb0 (Nat.le_refl _), h1, h2⟩ : WRd W0 w.heap.size A1 A2 n1 c1 n2 c2 st lo)
  have hF := Lib.hid (hf.below hb0 (Nat.le_refl _))
  clear hW0 hs ht h1 h2 hf hw1 hw2
  by_cases hg : 60 < n ∨ 30 < n1 ∨ 30 < n2
  · have e : (decide (60 < n) || decide (30 < n1) || decide (30 < n2)) = true := by simp; omega
    rw [e] at HH
    clear e hg hnf
    go_enter Try.func8, Try.ntmps8
    go_wp2_with fail
    rw [← HW0.out]
    refine Calls.mono HH.out ?_
    rintro e w1 ⟨rfl, hb1⟩
    go_wp2_with fail
    refine (wawake_any _).mono ?_
    rintro e w2 ⟨rfl, hb2⟩
    go_wp2
    go_ret
    exact ⟨rfl, hb0.trans ((hb1.trans (hb2.mono hb1.size)).mono hb0.size)⟩
  · have e : (decide (60 < n) || decide (30 < n1) || decide (30 < n2)) = false := by simp; omega
    rw [e] at HH
    have hn0 : f.length ≤ 60 := by omega
    have hn1 : n1 ≤ 30 := by omega
    have hn2 : n2 ≤ 30 := by omega
    have hn0' : n ≤ 60 := by omega
    clear e hg hl hl1 hl2
    have HNF := Lib.hid hnf
    clear hnf
    go_enter Try.func8, Try.ntmps8
    go_wp2_with fail
    rw [← HW0.out]
    refine Calls.mono HH.out ?_
    rintro e w0 ⟨rfl, hb1⟩
    obtain ⟨B, hB⟩ : ∃ B, B = w.heap.size := ⟨_, rfl⟩
    have hWW := Lib.hid (hW.out.below hb1 hb0.size)
    have HFF := Lib.hid (hF.out.below hb1 hb0.size)
    have g0 := (hb1.cell (p := ⟨w.heap.size, 0, none⟩) hz0).trans x0
    have g1 := (hb1.cell (p := ⟨w.heap.size, 1, none⟩) hz0).trans x1
    have hzg : w.heap.size < w0.heap.size := Nat.lt_of_lt_of_le hz0 hb1.size
    have HB1 := Lib.hid (hb0.trans (hb1.mono hb0.size))
    rw [← hB] at hWW HFF
    have hB0 : B ≤ w0.heap.size := by omega
    have HBB := Lib.hid hB
    clear hW hF HH HW0 x0 x1 hb0 hb1 hz0 hB
    obtain ⟨m0, hm0⟩ : ∃ m, m = n := ⟨_, rfl⟩
    have hW := hWW
    have HF := HFF
    clear hWW HFF hm0 m0
    have HNE := HNF.out
    subst HNE
    clear HNF
    go_wp2_with fail
    have hbd : Below w0.heap.size w0 w0.drew := Below.drew (Below.refl _ _)
    refine wp_region_held_drew (S := fun w' => w'.cell? ⟨w.heap.size, 0, none⟩ = some (.slice A1 n1 c1) ∧ w'.cell? ⟨w.heap.size, 1, none⟩ = some (.slice A2 n2 c2)) (by kernel_rfl) ⟨g0, g1⟩ (fun hS => ?_)
    refine wpAnyH_takeD (i := 0) (v := ?_) rfl (by kernel_rfl) (by kernel_rfl) (by kernel_rfl) (fun _ _ _ h => h) (Or.inl ⟨by kernel_rfl, ?_⟩) hS ?_
    rotate_left 1
    · (intro w' hSw; (try dsimp only at hSw); go_simp; try (with_reducible rfl))
    try simp only [Act.put, List.setIfInBounds_toArray, List.set_cons_zero, List.set_cons_succ]
    refine wpAnyH_takeD (i := 1) (v := ?_) rfl (by kernel_rfl) (by kernel_rfl) (by kernel_rfl) (fun _ _ _ h => h) (Or.inl ⟨by kernel_rfl, ?_⟩) hS ?_
    rotate_left 1
    · (intro w' hSw; (try dsimp only at hSw); go_simp; try (with_reducible rfl))
    try simp only [Act.put, List.setIfInBounds_toArray, List.set_cons_zero, List.set_cons_succ]
    refine wpAnyH_takeD (i := 3) (v := ?_) rfl (by kernel_rfl) (by kernel_rfl) (by kernel_rfl) (fun _ _ _ h => h) (Or.inl ⟨by kernel_rfl, ?_⟩) hS ?_
    rotate_left 1
    · (intro w' hSw; (try dsimp only at hSw); go_simp; try (with_reducible rfl))
    try simp only [Act.put, List.setIfInBounds_toArray, List.set_cons_zero, List.set_cons_succ]
    refine wpAnyH_takeD (i := 4) (v := ?_) rfl (by kernel_rfl) (by kernel_rfl) (by kernel_rfl) (fun _ _ _ h => h) (Or.inl ⟨by kernel_rfl, ?_⟩) hS ?_
    rotate_left 1
    · (intro w' hSw; (try dsimp only at hSw); go_simp; try (with_reducible rfl))
    try simp only [Act.put, List.setIfInBounds_toArray, List.set_cons_zero, List.set_cons_succ]
    refine wpAnyH_oneD (i := 2) rfl (by kernel_rfl) (fun K hK => ?_)
    go_simp
    refine (truthP_any A A1 A2 c n1 c1 n2 c2 f st lo _ ((HF.out.below hbd hB0).up (Nat.le_trans hB0 hbd.size)) ((hW.out.below hbd hB0).up (Nat.le_trans hB0 hbd.size)) (by omega) (by omega)).mono ?_
    rintro e WP ⟨v1, rfl, hG⟩
    have hbWP' := hG.choose_spec.2.2
    have hbWP : Below w0.heap.size w0 WP := hbd.trans (hbWP'.mono hbd.size)
    have hzWP := hbWP.size
    have rWP_0 := (hbWP.cell (p := ⟨w.heap.size, 0, none⟩) hzg).trans g0
    have rWP_1 := (hbWP.cell (p := ⟨w.heap.size, 1, none⟩) hzg).trans g1
    go_wp2_with fail
    refine hK.out _ _ ⟨rWP_0, rWP_1⟩ (fun hS => ?_)
    clear hK
    try simp only [Act.put, List.setIfInBounds_toArray, List.set_cons_zero, List.set_cons_succ]
    refine wpAnyH_oneD (i := 5) rfl (by kernel_rfl) (fun K hK => ?_)
    go_simp
    refine (truthR_any A A1 A2 c n1 c1 n2 c2 f st lo _ ((HF.out.below hbWP hB0).up (Nat.le_trans hB0 hbWP.size)) ((hW.out.below hbWP hB0).up (Nat.le_trans hB0 hbWP.size)) (by omega) (by omega) HNN.out).mono ?_
    rintro e WQ ⟨v2, rfl, hG2⟩
    have hbWQ' := hG2.choose_spec.2.2
    have hbWQ : Below w0.heap.size w0 WQ := hbWP.trans (hbWQ'.mono hbWP.size)
    have hzWQ := hbWQ.size
    have rWQ_0 := (hbWQ.cell (p := ⟨w.heap.size, 0, none⟩) hzg).trans g0
    have rWQ_1 := (hbWQ.cell (p := ⟨w.heap.size, 1, none⟩) hzg).trans g1
    go_wp2_with fail
    refine hK.out _ _ ⟨rWQ_0, rWQ_1⟩ (fun hS => ?_)
    clear hK
    try simp only [Act.put, List.setIfInBounds_toArray, List.set_cons_zero, List.set_cons_succ]
    refine wpAnyH_takeD (i := 6) (v := ?_) rfl (by kernel_rfl) (by kernel_rfl) (by kernel_rfl) (fun _ _ _ h => h) (Or.inl ⟨by kernel_rfl, ?_⟩) hS ?_
    rotate_left 1
    · (intro w' hSw; (try dsimp only at hSw); go_simp; try (with_reducible rfl))
    try simp only [Act.put, List.setIfInBounds_toArray, List.set_cons_zero, List.set_cons_succ]
    refine wpAnyH_takeD (i := 7) (v := ?_) rfl (by kernel_rfl) (by kernel_rfl) (by kernel_rfl) (fun _ _ _ h => h) (Or.inl ⟨by kernel_rfl, ?_⟩) hS ?_
    rotate_left 1
    · (intro w' hSw; (try dsimp only at hSw); go_simp; try (with_reducible rfl))
    try simp only [Act.put, List.setIfInBounds_toArray, List.set_cons_zero, List.set_cons_succ]
    refine wpAnyH_done (by kernel_rfl) ?_ _
    obtain ⟨R, HR⟩ : ∃ R, Hid (truthW (wbit st lo) f st lo = R) := ⟨_, Lib.hid rfl⟩
    rw [HR.out] at hG hG2
    have hGa : Grid w0.drew WQ v1 R := (hG.below hbWQ')
    have hGb : Grid WP WQ v2 R := hG2
    obtain ⟨vs1, ho1, _, _⟩ := id hGa
    obtain ⟨vs2, ho2, _, _⟩ := id hGb
    obtain ⟨G1, k1, rfl, _⟩ := own_sl ho1
    obtain ⟨G2, k2, rfl, _⟩ := own_sl ho2
    obtain ⟨NR, HNR⟩ : ∃ N, Hid (N = R.length) := ⟨_, Lib.hid rfl⟩
    rw [← HNR.out]
    have hRl : NR ≤ 60 := by
      rw [HNR.out, ← HR.out, truthW]
      split
      · rw [rowsF_len]; omega
      · simp
    have hRw : ∀ (j : Nat) (r : List Bool), R[j]? = some r → r.length ≤ 60 := by
      intro j r hj
      have := truthW_rows (by rw [HR.out]; exact List.mem_of_getElem? hj : r ∈ truthW (wbit st lo) f st lo)
      have h1 := hW.out.l1
      have h2 := hW.out.l2
      omega
    have HRW := Lib.hid hRw
    have HGA := Lib.hid hGa
    have HGB := Lib.hid hGb
    have HB2 := Lib.hid (HB1.out.trans (hbWQ.mono HB1.out.size))
    have HF9 := Lib.hid (HF.out.below hbWQ hB0)
    have HW9 := Lib.hid (hW.out.below hbWQ hB0)
    have hzg9 : w.heap.size < WQ.heap.size := by omega
    have hB9 : B ≤ WQ.heap.size := by omega
    have hnn : (((NR : Int)) != (NR : Int)) = false := by simp
    clear hRw hG hG2 hGa hGb ho1 ho2 hS hbd hbWP' hbWP hzWP rWP_0 rWP_1 hbWQ hbWQ' hzWQ HF hW g0 g1 hzg HB1 hB0
    obtain ⟨w0, rfl⟩ : ∃ W, W = WQ := ⟨_, rfl⟩
    have g0 := rWQ_0
    have g1 := rWQ_1
    have hzg := hzg9
    have hB0 := hB9
    have HF := HF9
    have hW := HW9
    clear rWQ_0 rWQ_1 hzg9 hB9 HF9 HW9
    go_wp2_with fail
    have hbd : Below w0.heap.size w0 w0.drew := Below.drew (Below.refl _ _)
    refine wp_region_held_drew (S := fun w' => w'.cell? ⟨w.heap.size, 0, none⟩ = some (.slice A1 n1 c1) ∧ w'.cell? ⟨w.heap.size, 1, none⟩ = some (.slice A2 n2 c2)) (by kernel_rfl) ⟨g0, g1⟩ (fun hS => ?_)
    refine wpAnyH_takeD (i := 0) (v := ?_) rfl (by kernel_rfl) (by kernel_rfl) (by kernel_rfl) (fun _ _ _ h => h) (Or.inl ⟨by kernel_rfl, ?_⟩) hS ?_
    rotate_left 1
    · (intro w' hSw; (try dsimp only at hSw); go_simp; try (with_reducible rfl))
    try simp only [Act.put, List.setIfInBounds_toArray, List.set_cons_zero, List.set_cons_succ]
    refine wpAnyH_takeD (i := 1) (v := ?_) rfl (by kernel_rfl) (by kernel_rfl) (by kernel_rfl) (fun _ _ _ h => h) (Or.inl ⟨by kernel_rfl, ?_⟩) hS ?_
    rotate_left 1
    · (intro w' hSw; (try dsimp only at hSw); go_simp; try (with_reducible rfl))
    try simp only [Act.put, List.setIfInBounds_toArray, List.set_cons_zero, List.set_cons_succ]
    refine wpAnyH_takeD (i := 2) (v := ?_) rfl (by kernel_rfl) (by kernel_rfl) (by kernel_rfl) (fun _ _ _ h => h) (Or.inl ⟨by kernel_rfl, ?_⟩) hS ?_
    rotate_left 1
    · (intro w' hSw; (try dsimp only at hSw); go_simp; try (with_reducible rfl))
    try simp only [Act.put, List.setIfInBounds_toArray, List.set_cons_zero, List.set_cons_succ]
    refine wpAnyH_takeD (i := 3) (v := ?_) rfl (by kernel_rfl) (by kernel_rfl) (by kernel_rfl) (fun _ _ _ h => h) (Or.inl ⟨by kernel_rfl, ?_⟩) hS ?_
    rotate_left 1
    · (intro w' hSw; (try dsimp only at hSw); go_simp; try (with_reducible rfl))
    try simp only [Act.put, List.setIfInBounds_toArray, List.set_cons_zero, List.set_cons_succ]
    refine wpAnyH_takeD (i := 4) (v := ?_) rfl (by kernel_rfl) (by kernel_rfl) (by kernel_rfl) (fun _ _ _ h => h) (Or.inl ⟨by kernel_rfl, ?_⟩) hS ?_
    rotate_left 1
    · (intro w' hSw; (try dsimp only at hSw); go_simp; try (with_reducible rfl))
    try simp only [Act.put, List.setIfInBounds_toArray, List.set_cons_zero, List.set_cons_succ]
    refine wpAnyH_takeD (i := 5) (v := ?_) rfl (by kernel_rfl) (by kernel_rfl) (by kernel_rfl) (fun _ _ _ h => h) (Or.inl ⟨by kernel_rfl, ?_⟩) hS ?_
    rotate_left 1
    · (intro w' hSw; (try dsimp only at hSw); go_simp; try (with_reducible rfl))
    try simp only [Act.put, List.setIfInBounds_toArray, List.set_cons_zero, List.set_cons_succ]
    refine wpAnyH_takeD (i := 6) (v := ?_) rfl (by kernel_rfl) (by kernel_rfl) (by kernel_rfl) (fun _ _ _ h => h) (Or.inl ⟨by kernel_rfl, ?_⟩) hS ?_
    rotate_left 1
    · (intro w' hSw; (try dsimp only at hSw); go_simp; try (with_reducible rfl))
    try simp only [Act.put, List.setIfInBounds_toArray, List.set_cons_zero, List.set_cons_succ]
    refine wpAnyH_takeD (i := 7) (v := ?_) rfl (by kernel_rfl) (by kernel_rfl) (by kernel_rfl) (fun _ _ _ h => h) (Or.inl ⟨by kernel_rfl, ?_⟩) hS ?_
    rotate_left 1
    · (intro w' hSw; (try dsimp only at hSw); go_simp; try (with_reducible rfl))
    try simp only [Act.put, List.setIfInBounds_toArray, List.set_cons_zero, List.set_cons_succ]
    refine wpAnyH_takeD (i := 9) (v := ?_) rfl (by kernel_rfl) (by kernel_rfl) (by kernel_rfl) (fun _ _ _ h => h) (Or.inl ⟨by kernel_rfl, ?_⟩) hS ?_
    rotate_left 1
    · (intro w' hSw; (try dsimp only at hSw); go_simp; try (with_reducible rfl))
    try simp only [Act.put, List.setIfInBounds_toArray, List.set_cons_zero, List.set_cons_succ]
    refine wpAnyH_takeD (i := 10) (v := ?_) rfl (by kernel_rfl) (by kernel_rfl) (by kernel_rfl) (fun _ _ _ h => h) (Or.inl ⟨by kernel_rfl, ?_⟩) hS ?_
    rotate_left 1
    · (intro w' hSw; (try dsimp only at hSw); go_simp; try (with_reducible rfl))
    try simp only [Act.put, List.setIfInBounds_toArray, List.set_cons_zero, List.set_cons_succ]
    refine wpAnyH_oneD (i := 8) rfl (by kernel_rfl) (fun K hK => ?_)
    rw [if_pos (by kernel_rfl)]
    go_simp
    refine (pHolds_any A A1 A2 c n1 c1 n2 c2 f st lo _ B B (HF.out.below hbd hB0) (hW.out.below hbd hB0) (Nat.le_trans hB0 hbd.size) (Nat.le_trans hB0 hbd.size) (by omega) (by omega)).mono ?_
    rintro e Rw1 ⟨rfl, hbRw1'⟩
    have hbRw1 : Below w0.heap.size w0 Rw1 := hbd.trans (hbRw1'.mono hbd.size)
    have hzRw1 := hbRw1.size
    have rRw1_0 := (hbRw1.cell (p := ⟨w.heap.size, 0, none⟩) hzg).trans g0
    have rRw1_1 := (hbRw1.cell (p := ⟨w.heap.size, 1, none⟩) hzg).trans g1
    go_wp2_with fail
    refine hK.out _ _ ⟨rRw1_0, rRw1_1⟩ (fun hS => ?_)
    clear hK
    try simp only [Act.put, List.setIfInBounds_toArray, List.set_cons_zero, List.set_cons_succ]
    refine wpAnyH_oneD (i := 11) rfl (by kernel_rfl) (fun K hK => ?_)
    rw [if_pos (by kernel_rfl)]
    go_simp
    refine (rHolds_any A A1 A2 c n1 c1 n2 c2 f st lo _ B B (HF.out.below hbRw1 hB0) (hW.out.below hbRw1 hB0) (Nat.le_trans hB0 hbRw1.size) (Nat.le_trans hB0 hbRw1.size) (by omega) (by omega) HNN.out).mono ?_
    rintro e Rw2 ⟨rfl, hbRw2'⟩
    have hbRw2 : Below w0.heap.size w0 Rw2 := hbRw1.trans (hbRw2'.mono hbRw1.size)
    have hzRw2 := hbRw2.size
    have rRw2_0 := (hbRw2.cell (p := ⟨w.heap.size, 0, none⟩) hzg).trans g0
    have rRw2_1 := (hbRw2.cell (p := ⟨w.heap.size, 1, none⟩) hzg).trans g1
    generalize holdsW (wbit st lo) f st lo = bb at *
    have hbb : (bb != bb) = false := by simp
    go_wp2_with fail
    refine hK.out _ _ ⟨rRw2_0, rRw2_1⟩ (fun hS => ?_)
    clear hK
    try simp only [Act.put, List.setIfInBounds_toArray, List.set_cons_zero, List.set_cons_succ]
    refine wpAnyH_takeD (i := 12) (v := ?_) rfl (by kernel_rfl) (by kernel_rfl) (by kernel_rfl) (fun _ _ _ h => h) (Or.inl ⟨by kernel_rfl, ?_⟩) hS ?_
    rotate_left 1
    · (intro w' hSw; (try dsimp only at hSw); go_simp; try (with_reducible rfl))
    try simp only [Act.put, List.setIfInBounds_toArray, List.set_cons_zero, List.set_cons_succ]
    refine wpAnyH_takeD (i := 13) (v := ?_) rfl (by kernel_rfl) (by kernel_rfl) (by kernel_rfl) (fun _ _ _ h => h) (Or.inl ⟨by kernel_rfl, ?_⟩) hS ?_
    rotate_left 1
    · (intro w' hSw; (try dsimp only at hSw); go_simp; try (with_reducible rfl))
    try simp only [Act.put, List.setIfInBounds_toArray, List.set_cons_zero, List.set_cons_succ]
    refine wpAnyH_done (by kernel_rfl) ?_ _
    have HBE := Lib.hid (HB2.out.trans (hbRw2.mono HB2.out.size))
    have HGA2 := Lib.hid (HGA.out.below hbRw2)
    have HGB2 := Lib.hid (HGB.out.below hbRw2)
    clear HGA HGB hbRw1 hbRw1' hbRw2 hbRw2' hbd hS hzRw1 hzRw2 rRw1_0 rRw1_1 rRw2_0 rRw2_1 g0 g1 hnn hbb
    have HGA := Lib.hid (HGA2.out)
    have HGB := Lib.hid (HGB2.out)
    clear HGA2 HGB2
    obtain ⟨wF, hwF⟩ : ∃ W, W = Rw2 := ⟨_, rfl⟩
    rw [← hwF] at HGA HGB HBE ⊢
    clear hwF
    go_wp2
    go_loopw [7] (fun i wr => ∃ k m : Nat, k ≤ NR ∧ i = .int .i64 k ∧ wr = wF.drewN m) (fun i _ => NR - (intOf i).toNat)
    case atStart => exact ⟨0, 0, by omega, rfl, rfl⟩
    case round =>
      obtain ⟨k, m, hk, rfl, rfl⟩ := hrel
      by_cases hlt : k < NR
      · have hkR : k < R.length := by rw [← HNR.out]; exact hlt
        have hj : R[k]? = some R[k] := by simp [hkR]
        obtain ⟨b, o, Ar, cr, _, _, hv, _, hc, hs⟩ := HGA.out.row hj
        cases hv
        obtain ⟨b', o', Ar', cr', _, _, hv, _, hc', hs'⟩ := HGB.out.row hj
        cases hv
        have hrl := HRW.out _ _ hj
        generalize R[k] = r at *
        have HS := Lib.hid hs
        have HS' := Lib.hid hs'
        have HJ := Lib.hid hj
        obtain ⟨l, HL⟩ : ∃ l, Hid (l = r.length) := ⟨_, Lib.hid rfl⟩
        rw [← HL.out] at hc hc' hrl
        clear hs hs' hj hkR
        have hk0 : (0 : Int) ≤ (k : Int) := by omega
        have hk1 : (k : Int) < (NR : Int) := by omega
        have hll : (((l : Int)) != (l : Int)) = false := by simp
        go_wp2
        go_quiet (fail)
        go_wp2
        go_loopw [8] (fun i wr => ∃ j m : Nat, j ≤ l ∧ i = .int .i64 j ∧ wr = wF.drewN m) (fun i _ => l - (intOf i).toNat)
        case atStart => exact ⟨0, _, by omega, rfl, by first | rfl | rw [World.drewN_drewN]⟩
        case round =>
          obtain ⟨j, m2, hj, rfl, rfl⟩ := hrel
          by_cases hjl : j < l
          · have hjr : j < r.length := by rw [← HL.out]; exact hjl
            obtain ⟨bb, ob, hA, _, hcb⟩ := HS.out.rd.at_ (bcells_at hjr)
            obtain ⟨bb', ob', hA', _, hcb'⟩ := HS'.out.rd.at_ (bcells_at hjr)
            subst hA hA'
            generalize r.getD j false = x at *
            have hj0 : (0 : Int) ≤ (j : Int) := by omega
            have hj1 : (j : Int) < (l : Int) := by omega
            have hxx : (x != x) = false := by simp
            go_wp2
            go_quiet (fail)
            go_wp2
            go_roundw
            case rel => exact ⟨j + 1, _, by omega, by go_num, by first | rfl | rw [World.drewN_drewN]⟩
            case measure => simp [intOf]; omega
          · have hjn : j = l := by omega
            subst hjn
            go_wp2
            go_roundw
            case rel => exact ⟨k + 1, m2, by omega, by go_num, rfl⟩
            case measure => simp [intOf]; omega
      · have hkn : k = NR := by omega
        subst hkn
        go_wp2_with fail
        refine (wawake_any _).mono ?_
        rintro e w9 ⟨rfl, hb9⟩
        go_wp2
        go_ret
        exact ⟨rfl, HBE.out.trans (((below_drewN (Below.refl wF.heap.size wF) m).trans hb9).mono HBE.out.size)⟩
end Go.Proofs.Ytkikkplpalabhaa
