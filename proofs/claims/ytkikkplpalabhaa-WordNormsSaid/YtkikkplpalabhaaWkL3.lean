/- The law WordNorms of layer 27. -/
import Derived.Test.YtkikkplpalabhaaWr10
namespace Go.Proofs.Ytkikkplpalabhaa
open Go.RowKit

theorem shiftP_len (st lo : List Int) (n : Int) : (shiftP st lo n).1.length ≤ st.length ∧ (shiftP st lo n).2.length ≤ lo.length := by
  by_cases h : lo = []
  · subst h; simp [shiftP]
  · rw [shiftP, if_neg h, shiftL]
    have hm := Nat.mod_lt (n.toNat - st.length) (List.length_pos_iff.2 h)
    split
    · simp
    · simp
      omega
set_option maxHeartbeats 8000000 in
set_option maxRecDepth 100000 in
theorem WordNorms_any (A1 A2 D1 D2 : Option Addr) (n1 c1 n2 c2 m1 d1 m2 d2 : Nat) (st lo st' lo' : List Int) (n : Int) (w : World) (h1 : n1 = st.length) (h2 : n2 = lo.length) (hs : Sl w w.heap.size 1 A1 n1 c1 (ucells st)) (ht : Sl w w.heap.size 1 A2 n2 c2 (ucells lo))
    (h1' : m1 = st'.length) (h2' : m2 = lo'.length) (hs' : Sl w w.heap.size 1 D1 m1 d1 (ucells st')) (ht' : Sl w w.heap.size 1 D2 m2 d2 (ucells lo')) (hn : n ≤ 9223372036854775807)
    (hl1 : n1 ≤ 17592186044416) (hl2 : n2 ≤ 17592186044416) (hl1' : m1 ≤ 17592186044416) (hl2' : m2 ≤ 17592186044416) :
    Calls Try.prog 9 #[.agg #[.slice A1 n1 c1, .slice A2 n2 c2], .agg #[.slice D1 m1 d1, .slice D2 m2 d2], .int .i64 n] w (Tru w true) := by
  have hbx := box2 w (.cells #[.slice A1 n1 c1, .slice A2 n2 c2] 34) (.cells #[.slice D1 m1 d1, .slice D2 m2 d2] 34)
  obtain ⟨W0, hW0⟩ : ∃ W, W = (w.alloc (.cells #[.slice A1 n1 c1, .slice A2 n2 c2] 34)).alloc (.cells #[.slice D1 m1 d1, .slice D2 m2 d2] 34) := ⟨_, rfl⟩
  rw [← hW0] at hbx
  obtain ⟨hb0, hx0, hx1, hz0⟩ := hbx
  obtain ⟨⟨a0, a1⟩, -⟩ := blk2 hx0
  obtain ⟨⟨b0, b1⟩, -⟩ := blk2 hx1
  have HW0 := Lib.hid hW0
  have hzq : w.heap.size < W0.heap.size := by omega
  have hzq1 : w.heap.size + 1 < W0.heap.size := by omega
  have hzq2 : w.heap.size ≤ W0.heap.size := by omega
  have HH := Lib.hid (heavyW_any none A1 A2 0 0 n1 c1 n2 c2 W0 (by omega) (by omega) (by omega))
  have HH' := Lib.hid (fun W => heavyW_any none D1 D2 0 0 m1 d1 m2 d2 W (by omega) (by omega) (by omega))
  have HWR := Lib.hid (⟨hs.below hb0 (Nat.le_refl _), ht.below hb0 (Nat.le_refl _), h1, h2⟩ : WRd W0 w.heap.size A1 A2 n1 c1 n2 c2 st lo)
  have HVR := Lib.hid (⟨hs'.below hb0 (Nat.le_refl _), ht'.below hb0 (Nat.le_refl _), h1', h2'⟩ : WRd W0 w.heap.size D1 D2 m1 d1 m2 d2 st' lo')
  have HN1 := Lib.hid h1
  have HN2' := Lib.hid h2
  clear hW0 hx0 hx1 hz0 hs ht hs' ht' h1 h2 h1' h2'
  by_cases hg : 30 < n1 ∨ 30 < n2
  · have e : (decide (60 < 0) || decide (30 < n1) || decide (30 < n2)) = true := by simpa using hg
    rw [e] at HH
    clear e hg
    go_enter Try.func9, Try.ntmps9
    go_wp2_with fail
    rw [← HW0.out]
    refine Calls.mono HH.out ?_
    rintro e w1 ⟨rfl, hb1⟩
    go_wp2_with fail
    refine (wawake_any _).mono ?_
    rintro e w2 ⟨rfl, hb2⟩
    go_wp2
    go_ret
    exact ⟨rfl, hb0.trans ((hb1.trans (hb2.mono hb1.size)).mono hb0.size)⟩
  have e : (decide (60 < 0) || decide (30 < n1) || decide (30 < n2)) = false := by simpa using hg
  rw [e] at HH
  have hn1 : n1 ≤ 30 := by omega
  have hn2 : n2 ≤ 30 := by omega
  clear e hg hl1 hl2
  by_cases hg : 30 < m1 ∨ 30 < m2
  · have e : (decide (60 < 0) || decide (30 < m1) || decide (30 < m2)) = true := by simpa using hg
    rw [e] at HH'
    clear e hg
    go_enter Try.func9, Try.ntmps9
    go_wp2_with fail
    rw [← HW0.out]
    refine Calls.mono HH.out ?_
    rintro e w1 ⟨rfl, hb1⟩
    have g0 := (hb1.cell (p := ⟨w.heap.size + 1, 0, none⟩) hzq1).trans b0
    have g1 := (hb1.cell (p := ⟨w.heap.size + 1, 1, none⟩) hzq1).trans b1
    go_wp2_with fail
    refine Calls.mono (HH'.out _) ?_
    rintro e w3 ⟨rfl, hb3⟩
    go_wp2_with fail
    refine (wawake_any _).mono ?_
    rintro e w2 ⟨rfl, hb2⟩
    go_wp2
    go_ret
    have hb13 := hb1.trans (hb3.mono hb1.size)
    exact ⟨rfl, hb0.trans ((hb13.trans (hb2.mono hb13.size)).mono hb0.size)⟩
  · have e : (decide (60 < 0) || decide (30 < m1) || decide (30 < m2)) = false := by simpa using hg
    rw [e] at HH'
    have hm1 : m1 ≤ 30 := by omega
    have hm2 : m2 ≤ 30 := by omega
    clear e hg hl1' hl2'
    go_enter Try.func9, Try.ntmps9
    go_wp2_with fail
    rw [← HW0.out]
    refine Calls.mono HH.out ?_
    rintro e wa ⟨rfl, hba⟩
    have g0 := (hba.cell (p := ⟨w.heap.size + 1, 0, none⟩) hzq1).trans b0
    have g1 := (hba.cell (p := ⟨w.heap.size + 1, 1, none⟩) hzq1).trans b1
    go_wp2_with fail
    refine Calls.mono (HH'.out _) ?_
    rintro e wb ⟨rfl, hbb⟩
    have hb0b : Below W0.heap.size W0 wb := hba.trans (hbb.mono hba.size)
    have k0 := (hb0b.cell (p := ⟨w.heap.size, 0, none⟩) hzq).trans a0
    have k1 := (hb0b.cell (p := ⟨w.heap.size, 1, none⟩) hzq).trans a1
    have r0 := (hb0b.cell (p := ⟨w.heap.size + 1, 0, none⟩) hzq1).trans b0
    have r1 := (hb0b.cell (p := ⟨w.heap.size + 1, 1, none⟩) hzq1).trans b1
    clear g0 g1 a0 a1 b0 b1 HW0
    have hWb := HWR.out.below hb0b hzq2
    have hVb := HVR.out.below hb0b hzq2
    have hzb : W0.heap.size ≤ wb.heap.size := hb0b.size
    have hNm := pNorm_any A1 A2 n1 c1 n2 c2 st lo wb w.heap.size hWb (by omega) (by omega)
    obtain ⟨P, HPP⟩ : ∃ P, Hid (normP st lo = P) := ⟨_, Lib.hid rfl⟩
    rw [HPP.out] at hNm
    have hpl := normP_len st lo
    rw [HPP.out, ← HN1.out, ← HN2'.out] at hpl
    have hN2 := normP_twice st lo
    rw [HPP.out] at hN2
    have hSN := same_norm st lo
    rw [HPP.out] at hSN
    have hck : ∀ W : World, Calls Try.prog 30 #[.agg #[.slice A1 n1 c1, .slice A2 n2 c2]] W (Num W (if n2 = 0 then 8 else 0)) := fun W => pCheck_any A1 A2 n1 c1 n2 c2 st lo W hWb.l1 hWb.l2 (by omega)
    obtain ⟨ck, hckk⟩ : ∃ ck : Int, (if n2 = 0 then (8 : Int) else 0) = ck := ⟨_, rfl⟩
    rw [hckk] at hck
    have hcq : (ck == 0) = decide (lo ≠ []) := by
      by_cases h0 : n2 = 0
      · rw [if_pos h0] at hckk
        have e : decide (lo ≠ []) = false := by rw [decide_eq_false_iff_not]; exact fun h => h ((lo_nil hWb.l2).1 h0)
        rw [← hckk, e]; rfl
      · rw [if_neg h0] at hckk
        have e : decide (lo ≠ []) = true := by rw [decide_eq_true_iff]; exact fun h => h0 ((lo_nil hWb.l2).2 h)
        rw [← hckk, e]; rfl
    have HCK := Lib.hid hck
    have hSL := shiftP_len st lo n
    rw [← HN1.out, ← HN2'.out] at hSL
    have HSL1 : Hid ((shiftP st lo n).1.length ≤ 100000000000000) := Lib.hid (by omega)
    have HSL2 : Hid ((shiftP st lo n).2.length ≤ 100000000000000) := Lib.hid (by omega)
    have HPL1 : Hid (P.1.length ≤ 100000000000000) := Lib.hid (by omega)
    have HPL2 : Hid (P.2.length ≤ 100000000000000) := Lib.hid (by omega)
    have HN2 := Lib.hid hN2
    have HSN := Lib.hid (hSN.trans hcq.symm)
    have hcb : ((ck == 0) == (ck == 0)) = true := by simp
    have HWB := Lib.hid hWb
    have HVB := Lib.hid hVb
    have HB0 := Lib.hid (hb0.trans (hb0b.mono hb0.size))
    have HPB := Lib.hid hpl
    clear hN2 hSN hck hckk hcq hSL hWb hVb HWR HVR HH HH' hba hbb hb0b hb0 hpl
    go_wp2_with fail
    refine Calls.mono hNm ?_
    rintro e wc ⟨v1, v2, rfl, ho1, ho2, hbc⟩
    obtain ⟨X1, e1, rfl, s1⟩ := own_sl ho1
    obtain ⟨X2, e2, rfl, s2⟩ := own_sl ho2
    have q0 := (hbc.cell (p := ⟨w.heap.size, 0, none⟩) (show w.heap.size < wb.heap.size by omega)).trans k0
    have q1 := (hbc.cell (p := ⟨w.heap.size, 1, none⟩) (show w.heap.size < wb.heap.size by omega)).trans k1
    have t0 := (hbc.cell (p := ⟨w.heap.size + 1, 0, none⟩) (show w.heap.size + 1 < wb.heap.size by omega)).trans r0
    have t1 := (hbc.cell (p := ⟨w.heap.size + 1, 1, none⟩) (show w.heap.size + 1 < wb.heap.size by omega)).trans r1
    obtain ⟨p1, HP1⟩ : ∃ p, Hid (p = P.1.length) := ⟨_, Lib.hid rfl⟩
    obtain ⟨p2, HP2⟩ : ∃ p, Hid (p = P.2.length) := ⟨_, Lib.hid rfl⟩
    rw [← HP1.out] at s1 ⊢
    rw [← HP2.out] at s2 ⊢
    have hp1 : p1 ≤ 30 := by have := HPB.out.1; have := HP1.out; omega
    have hp2 : p2 ≤ 30 := by have := HPB.out.2; have := HP2.out; omega
    have hzc := hbc.size
    clear hNm ho1 ho2 k0 k1 r0 r1
    go_wp2_with fail
    have nb := al1 (Below.refl wc.heap.size wc) (Nat.le_refl _) (.cells #[.slice X1 p1 e1, .slice X2 p2 e2] 34)
    obtain ⟨w0, hw0⟩ : ∃ W, W = wc.alloc (.cells #[.slice X1 p1 e1, .slice X2 p2 e2] 34) := ⟨_, rfl⟩
    rw [← hw0] at nb ⊢
    obtain ⟨hbw0, hk0, hzw0⟩ := nb
    obtain ⟨gx, hgx⟩ : ∃ g, g = wc.heap.size := ⟨_, rfl⟩
    rw [← hgx] at hk0 ⊢
    obtain ⟨⟨x0, x1⟩, -⟩ := blk2 hk0
    have g0 := (hbw0.cell (p := ⟨w.heap.size, 0, none⟩) (show w.heap.size < wc.heap.size by omega)).trans q0
    have g1 := (hbw0.cell (p := ⟨w.heap.size, 1, none⟩) (show w.heap.size < wc.heap.size by omega)).trans q1
    have h0 := (hbw0.cell (p := ⟨w.heap.size + 1, 0, none⟩) (show w.heap.size + 1 < wc.heap.size by omega)).trans t0
    have h1 := (hbw0.cell (p := ⟨w.heap.size + 1, 1, none⟩) (show w.heap.size + 1 < wc.heap.size by omega)).trans t1
    have hzg : w.heap.size < w0.heap.size := by omega
    have hzh : w.heap.size + 1 < w0.heap.size := by omega
    have hzx : gx < w0.heap.size := by omega
    obtain ⟨B, hBB⟩ : ∃ B, B = w.heap.size := ⟨_, rfl⟩
    have hbb0 : Below wb.heap.size wb w0 := hbc.trans (hbw0.mono hbc.size)
    have hW : Hid (WRd w0 B A1 A2 n1 c1 n2 c2 st lo) := Lib.hid (by rw [hBB]; exact HWB.out.below hbb0 (by omega))
    have hV : Hid (WRd w0 B D1 D2 m1 d1 m2 d2 st' lo') := Lib.hid (by rw [hBB]; exact HVB.out.below hbb0 (by omega))
    have hX : Hid (WRd w0 w0.heap.size X1 X2 p1 e1 p2 e2 P.1 P.2) := Lib.hid ⟨(s1.below hbw0 (Nat.le_refl _)).up hbw0.size, (s2.below hbw0 (Nat.le_refl _)).up hbw0.size, HP1.out, HP2.out⟩
    have HB1 := Lib.hid (HB0.out.trans (hbb0.mono HB0.out.size))
    have hB0 : B ≤ w0.heap.size := by omega
    have HBB := Lib.hid hBB
    have HWZ := Lib.hid hw0
    have HGX := Lib.hid hgx
    clear q0 q1 t0 t1 s1 s2 hbc hbw0 hk0 hzw0 hbb0 HWB HVB hBB hw0 hgx hzc hzb
    have hbd : Below w0.heap.size w0 w0.drew := Below.drew (Below.refl _ _)
    refine wp_region_held_drew (S := fun w' => w'.cell? ⟨w.heap.size, 0, none⟩ = some (.slice A1 n1 c1) ∧ w'.cell? ⟨w.heap.size, 1, none⟩ = some (.slice A2 n2 c2) ∧ w'.cell? ⟨w.heap.size + 1, 0, none⟩ = some (.slice D1 m1 d1) ∧ w'.cell? ⟨w.heap.size + 1, 1, none⟩ = some (.slice D2 m2 d2) ∧ w'.cell? ⟨gx, 0, none⟩ = some (.slice X1 p1 e1) ∧ w'.cell? ⟨gx, 1, none⟩ = some (.slice X2 p2 e2)) (by kernel_rfl) ⟨g0, g1, h0, h1, x0, x1⟩ (fun hS => ?_)
    refine wpAnyH_takeD (i := 0) (v := ?_) rfl (by kernel_rfl) (by kernel_rfl) (by kernel_rfl) (fun _ _ _ h => h) (Or.inl ⟨by kernel_rfl, ?_⟩) hS ?_
    rotate_left 1
    · (intro w' hSw; (try dsimp only at hSw); go_simp; try (with_reducible rfl))
    try simp only [Act.put, List.setIfInBounds_toArray, List.set_cons_zero, List.set_cons_succ]
    refine wpAnyH_takeD (i := 1) (v := ?_) rfl (by kernel_rfl) (by kernel_rfl) (by kernel_rfl) (fun _ _ _ h => h) (Or.inl ⟨by kernel_rfl, ?_⟩) hS ?_
    rotate_left 1
    · (intro w' hSw; (try dsimp only at hSw); go_simp; try (with_reducible rfl))
    try simp only [Act.put, List.setIfInBounds_toArray, List.set_cons_zero, List.set_cons_succ]
    refine wpAnyH_oneD (i := 2) rfl (by kernel_rfl) (fun K hK => ?_)
    go_simp
    refine (rNormW_any A1 A2 n1 c1 n2 c2 st lo _ B (hW.out.below hbd hB0) (Nat.le_trans hB0 hbd.size) (by omega)).mono ?_
    rintro e Rw1 ⟨Y1, y1, f1, Y2, y2, f2, rfl, hY, hbRw1'⟩
    have hbRw1 : Below w0.heap.size w0 Rw1 := hbd.trans (hbRw1'.mono hbd.size)
    have hzRw1 := hbRw1.size
    have rRw1_0 := (hbRw1.cell (p := ⟨w.heap.size, 0, none⟩) hzg).trans g0
    have rRw1_1 := (hbRw1.cell (p := ⟨w.heap.size, 1, none⟩) hzg).trans g1
    have rRw1_2 := (hbRw1.cell (p := ⟨w.heap.size + 1, 0, none⟩) hzh).trans h0
    have rRw1_3 := (hbRw1.cell (p := ⟨w.heap.size + 1, 1, none⟩) hzh).trans h1
    have rRw1_4 := (hbRw1.cell (p := ⟨gx, 0, none⟩) hzx).trans x0
    have rRw1_5 := (hbRw1.cell (p := ⟨gx, 1, none⟩) hzx).trans x1
    have HY := Lib.hid hY
    clear hY
    go_wp2_with fail
    refine hK.out _ _ ⟨rRw1_0, rRw1_1, rRw1_2, rRw1_3, rRw1_4, rRw1_5⟩ (fun hS => ?_)
    clear hK
    try simp only [Act.put, List.setIfInBounds_toArray, List.set_cons_zero, List.set_cons_succ]
    refine wpAnyH_oneD (i := 3) rfl (by kernel_rfl) (fun K hK => ?_)
    go_simp
    refine (sameU_any X1 X2 Y1 Y2 p1 e1 p2 e2 y1 f1 y2 f2 P.1 P.2 P.1 P.2 _ _ _ (hX.out.below hbRw1 (Nat.le_refl _)) (HPP.out ▸ HY.out) hbRw1.size (Nat.le_refl _) (by omega) (by omega)).mono ?_
    rw [show decide ((P.1, P.2) = (P.1, P.2)) = true from by simp]
    rintro e Rw2 ⟨rfl, hbRw2'⟩
    have hbRw2 : Below w0.heap.size w0 Rw2 := hbRw1.trans (hbRw2'.mono hbRw1.size)
    have hzRw2 := hbRw2.size
    have rRw2_0 := (hbRw2.cell (p := ⟨w.heap.size, 0, none⟩) hzg).trans g0
    have rRw2_1 := (hbRw2.cell (p := ⟨w.heap.size, 1, none⟩) hzg).trans g1
    have rRw2_2 := (hbRw2.cell (p := ⟨w.heap.size + 1, 0, none⟩) hzh).trans h0
    have rRw2_3 := (hbRw2.cell (p := ⟨w.heap.size + 1, 1, none⟩) hzh).trans h1
    have rRw2_4 := (hbRw2.cell (p := ⟨gx, 0, none⟩) hzx).trans x0
    have rRw2_5 := (hbRw2.cell (p := ⟨gx, 1, none⟩) hzx).trans x1
    go_wp2_with fail
    refine hK.out _ _ ⟨rRw2_0, rRw2_1, rRw2_2, rRw2_3, rRw2_4, rRw2_5⟩ (fun hS => ?_)
    clear hK
    try simp only [Act.put, List.setIfInBounds_toArray, List.set_cons_zero, List.set_cons_succ]
    refine wpAnyH_takeD (i := 4) (v := ?_) rfl (by kernel_rfl) (by kernel_rfl) (by kernel_rfl) (fun _ _ _ h => h) (Or.inl ⟨by kernel_rfl, ?_⟩) hS ?_
    rotate_left 1
    · (intro w' hSw; (try dsimp only at hSw); go_simp; try (with_reducible rfl))
    try simp only [Act.put, List.setIfInBounds_toArray, List.set_cons_zero, List.set_cons_succ]
    refine wpAnyH_takeD (i := 5) (v := ?_) rfl (by kernel_rfl) (by kernel_rfl) (by kernel_rfl) (fun _ _ _ h => h) (Or.inl ⟨by kernel_rfl, ?_⟩) hS ?_
    rotate_left 1
    · (intro w' hSw; (try dsimp only at hSw); go_simp; try (with_reducible rfl))
    try simp only [Act.put, List.setIfInBounds_toArray, List.set_cons_zero, List.set_cons_succ]
    refine wpAnyH_takeD (i := 7) (v := ?_) rfl (by kernel_rfl) (by kernel_rfl) (by kernel_rfl) (fun _ _ _ h => h) (Or.inl ⟨by kernel_rfl, ?_⟩) hS ?_
    rotate_left 1
    · (intro w' hSw; (try dsimp only at hSw); go_simp; try (with_reducible rfl))
    try simp only [Act.put, List.setIfInBounds_toArray, List.set_cons_zero, List.set_cons_succ]
    refine wpAnyH_oneD (i := 6) rfl (by kernel_rfl) (fun K hK => ?_)
    rw [if_pos (by kernel_rfl)]
    go_simp
    refine (pNorm_any X1 X2 p1 e1 p2 e2 P.1 P.2 _ _ (hX.out.below hbRw2 (Nat.le_refl _)) hbRw2.size (by omega)).mono ?_
    rw [HN2.out]
    rintro e Rw3 ⟨u1, u2, rfl, ho1, ho2, hbRw3'⟩
    have hbRw3 : Below w0.heap.size w0 Rw3 := hbRw2.trans (hbRw3'.mono hbRw2.size)
    have hzRw3 := hbRw3.size
    have rRw3_0 := (hbRw3.cell (p := ⟨w.heap.size, 0, none⟩) hzg).trans g0
    have rRw3_1 := (hbRw3.cell (p := ⟨w.heap.size, 1, none⟩) hzg).trans g1
    have rRw3_2 := (hbRw3.cell (p := ⟨w.heap.size + 1, 0, none⟩) hzh).trans h0
    have rRw3_3 := (hbRw3.cell (p := ⟨w.heap.size + 1, 1, none⟩) hzh).trans h1
    have rRw3_4 := (hbRw3.cell (p := ⟨gx, 0, none⟩) hzx).trans x0
    have rRw3_5 := (hbRw3.cell (p := ⟨gx, 1, none⟩) hzx).trans x1
    obtain ⟨Y3, y3, rfl, hs3⟩ := own_sl ho1
    obtain ⟨Y4, y4, rfl, hs4⟩ := own_sl ho2
    have HY34 := Lib.hid (And.intro hs3 hs4)
    clear ho1 ho2 hs3 hs4
    go_wp2_with fail
    refine hK.out _ _ ⟨rRw3_0, rRw3_1, rRw3_2, rRw3_3, rRw3_4, rRw3_5⟩ (fun hS => ?_)
    clear hK
    try simp only [Act.put, List.setIfInBounds_toArray, List.set_cons_zero, List.set_cons_succ]
    refine wpAnyH_oneD (i := 8) rfl (by kernel_rfl) (fun K hK => ?_)
    rw [if_pos (by kernel_rfl)]
    go_simp
    refine (sameU_any Y3 Y4 X1 X2 _ y3 _ y4 p1 e1 p2 e2 P.1 P.2 P.1 P.2 _ _ _ ⟨HY34.out.1, HY34.out.2, rfl, rfl⟩ (hX.out.below hbRw3 (Nat.le_refl _)) (Nat.le_refl _) hbRw3.size HPL1.out HPL2.out).mono ?_
    rw [show decide ((P.1, P.2) = (P.1, P.2)) = true from by simp]
    rintro e Rw4 ⟨rfl, hbRw4'⟩
    have hbRw4 : Below w0.heap.size w0 Rw4 := hbRw3.trans (hbRw4'.mono hbRw3.size)
    have hzRw4 := hbRw4.size
    have rRw4_0 := (hbRw4.cell (p := ⟨w.heap.size, 0, none⟩) hzg).trans g0
    have rRw4_1 := (hbRw4.cell (p := ⟨w.heap.size, 1, none⟩) hzg).trans g1
    have rRw4_2 := (hbRw4.cell (p := ⟨w.heap.size + 1, 0, none⟩) hzh).trans h0
    have rRw4_3 := (hbRw4.cell (p := ⟨w.heap.size + 1, 1, none⟩) hzh).trans h1
    have rRw4_4 := (hbRw4.cell (p := ⟨gx, 0, none⟩) hzx).trans x0
    have rRw4_5 := (hbRw4.cell (p := ⟨gx, 1, none⟩) hzx).trans x1
    go_wp2_with fail
    refine hK.out _ _ ⟨rRw4_0, rRw4_1, rRw4_2, rRw4_3, rRw4_4, rRw4_5⟩ (fun hS => ?_)
    clear hK
    try simp only [Act.put, List.setIfInBounds_toArray, List.set_cons_zero, List.set_cons_succ]
    refine wpAnyH_takeD (i := 9) (v := ?_) rfl (by kernel_rfl) (by kernel_rfl) (by kernel_rfl) (fun _ _ _ h => h) (Or.inl ⟨by kernel_rfl, ?_⟩) hS ?_
    rotate_left 1
    · (intro w' hSw; (try dsimp only at hSw); go_simp; try (with_reducible rfl))
    try simp only [Act.put, List.setIfInBounds_toArray, List.set_cons_zero, List.set_cons_succ]
    refine wpAnyH_takeD (i := 10) (v := ?_) rfl (by kernel_rfl) (by kernel_rfl) (by kernel_rfl) (fun _ _ _ h => h) (Or.inl ⟨by kernel_rfl, ?_⟩) hS ?_
    rotate_left 1
    · (intro w' hSw; (try dsimp only at hSw); go_simp; try (with_reducible rfl))
    try simp only [Act.put, List.setIfInBounds_toArray, List.set_cons_zero, List.set_cons_succ]
    refine wpAnyH_takeD (i := 11) (v := ?_) rfl (by kernel_rfl) (by kernel_rfl) (by kernel_rfl) (fun _ _ _ h => h) (Or.inl ⟨by kernel_rfl, ?_⟩) hS ?_
    rotate_left 1
    · (intro w' hSw; (try dsimp only at hSw); go_simp; try (with_reducible rfl))
    try simp only [Act.put, List.setIfInBounds_toArray, List.set_cons_zero, List.set_cons_succ]
    refine wpAnyH_takeD (i := 12) (v := ?_) rfl (by kernel_rfl) (by kernel_rfl) (by kernel_rfl) (fun _ _ _ h => h) (Or.inl ⟨by kernel_rfl, ?_⟩) hS ?_
    rotate_left 1
    · (intro w' hSw; (try dsimp only at hSw); go_simp; try (with_reducible rfl))
    try simp only [Act.put, List.setIfInBounds_toArray, List.set_cons_zero, List.set_cons_succ]
    refine wpAnyH_takeD (i := 14) (v := ?_) rfl (by kernel_rfl) (by kernel_rfl) (by kernel_rfl) (fun _ _ _ h => h) (Or.inl ⟨by kernel_rfl, ?_⟩) hS ?_
    rotate_left 1
    · (intro w' hSw; (try dsimp only at hSw); go_simp; try (with_reducible rfl))
    try simp only [Act.put, List.setIfInBounds_toArray, List.set_cons_zero, List.set_cons_succ]
    refine wpAnyH_takeD (i := 15) (v := ?_) rfl (by kernel_rfl) (by kernel_rfl) (by kernel_rfl) (fun _ _ _ h => h) (Or.inl ⟨by kernel_rfl, ?_⟩) hS ?_
    rotate_left 1
    · (intro w' hSw; (try dsimp only at hSw); go_simp; try (with_reducible rfl))
    try simp only [Act.put, List.setIfInBounds_toArray, List.set_cons_zero, List.set_cons_succ]
    refine wpAnyH_oneD (i := 13) rfl (by kernel_rfl) (fun K hK => ?_)
    rw [if_pos (by kernel_rfl)]
    go_simp
    refine (pShift_any A1 A2 n1 c1 n2 c2 st lo n _ B (hW.out.below hbRw4 hB0) (Nat.le_trans hB0 hbRw4.size) (by omega) hn).mono ?_
    rintro e WZ ⟨u1, u2, rfl, ho1, ho2, hbWZ'⟩
    have hbWZ : Below w0.heap.size w0 WZ := hbRw4.trans (hbWZ'.mono hbRw4.size)
    have hzWZ := hbWZ.size
    have rWZ_0 := (hbWZ.cell (p := ⟨w.heap.size, 0, none⟩) hzg).trans g0
    have rWZ_1 := (hbWZ.cell (p := ⟨w.heap.size, 1, none⟩) hzg).trans g1
    have rWZ_2 := (hbWZ.cell (p := ⟨w.heap.size + 1, 0, none⟩) hzh).trans h0
    have rWZ_3 := (hbWZ.cell (p := ⟨w.heap.size + 1, 1, none⟩) hzh).trans h1
    have rWZ_4 := (hbWZ.cell (p := ⟨gx, 0, none⟩) hzx).trans x0
    have rWZ_5 := (hbWZ.cell (p := ⟨gx, 1, none⟩) hzx).trans x1
    obtain ⟨Z1, z1, rfl, hs3⟩ := own_sl ho1
    obtain ⟨Z2, z2, rfl, hs4⟩ := own_sl ho2
    have HZ := Lib.hid (And.intro hs3 hs4)
    clear ho1 ho2 hs3 hs4
    go_wp2_with fail
    refine hK.out _ _ ⟨rWZ_0, rWZ_1, rWZ_2, rWZ_3, rWZ_4, rWZ_5⟩ (fun hS => ?_)
    clear hK
    try simp only [Act.put, List.setIfInBounds_toArray, List.set_cons_zero, List.set_cons_succ]
    refine wpAnyH_oneD (i := 16) rfl (by kernel_rfl) (fun K hK => ?_)
    rw [if_pos (by kernel_rfl)]
    go_simp
    refine (rShiftW_any A1 A2 n1 c1 n2 c2 st lo n _ B (hW.out.below hbWZ hB0) (Nat.le_trans hB0 hbWZ.size) (by omega) hn).mono ?_
    rintro e WV ⟨V1, v1, f3, V2, v2, f4, rfl, hY, hbWV'⟩
    have hbWV : Below w0.heap.size w0 WV := hbWZ.trans (hbWV'.mono hbWZ.size)
    have hzWV := hbWV.size
    have rWV_0 := (hbWV.cell (p := ⟨w.heap.size, 0, none⟩) hzg).trans g0
    have rWV_1 := (hbWV.cell (p := ⟨w.heap.size, 1, none⟩) hzg).trans g1
    have rWV_2 := (hbWV.cell (p := ⟨w.heap.size + 1, 0, none⟩) hzh).trans h0
    have rWV_3 := (hbWV.cell (p := ⟨w.heap.size + 1, 1, none⟩) hzh).trans h1
    have rWV_4 := (hbWV.cell (p := ⟨gx, 0, none⟩) hzx).trans x0
    have rWV_5 := (hbWV.cell (p := ⟨gx, 1, none⟩) hzx).trans x1
    have HY2 := Lib.hid hY
    clear hY
    go_wp2_with fail
    refine hK.out _ _ ⟨rWV_0, rWV_1, rWV_2, rWV_3, rWV_4, rWV_5⟩ (fun hS => ?_)
    clear hK
    try simp only [Act.put, List.setIfInBounds_toArray, List.set_cons_zero, List.set_cons_succ]
    refine wpAnyH_oneD (i := 17) rfl (by kernel_rfl) (fun K hK => ?_)
    rw [if_pos (by kernel_rfl)]
    go_simp
    refine (sameU_any Z1 Z2 V1 V2 _ z1 _ z2 v1 f3 v2 f4 (shiftP st lo n).1 (shiftP st lo n).2 (shiftP st lo n).1 (shiftP st lo n).2 WV WZ.heap.size _ ⟨HZ.out.1.below hbWV' (Nat.le_refl _), HZ.out.2.below hbWV' (Nat.le_refl _), rfl, rfl⟩ HY2.out hbWV'.size (Nat.le_refl _) HSL1.out HSL2.out).mono ?_
    rw [show decide (((shiftP st lo n).1, (shiftP st lo n).2) = ((shiftP st lo n).1, (shiftP st lo n).2)) = true from by simp]
    rintro e Rw7 ⟨rfl, hbRw7'⟩
    have hbRw7 : Below w0.heap.size w0 Rw7 := hbWV.trans (hbRw7'.mono hbWV.size)
    have hzRw7 := hbRw7.size
    have rRw7_0 := (hbRw7.cell (p := ⟨w.heap.size, 0, none⟩) hzg).trans g0
    have rRw7_1 := (hbRw7.cell (p := ⟨w.heap.size, 1, none⟩) hzg).trans g1
    have rRw7_2 := (hbRw7.cell (p := ⟨w.heap.size + 1, 0, none⟩) hzh).trans h0
    have rRw7_3 := (hbRw7.cell (p := ⟨w.heap.size + 1, 1, none⟩) hzh).trans h1
    have rRw7_4 := (hbRw7.cell (p := ⟨gx, 0, none⟩) hzx).trans x0
    have rRw7_5 := (hbRw7.cell (p := ⟨gx, 1, none⟩) hzx).trans x1
    go_wp2_with fail
    refine hK.out _ _ ⟨rRw7_0, rRw7_1, rRw7_2, rRw7_3, rRw7_4, rRw7_5⟩ (fun hS => ?_)
    clear hK
    try simp only [Act.put, List.setIfInBounds_toArray, List.set_cons_zero, List.set_cons_succ]
    refine wpAnyH_takeD (i := 18) (v := ?_) rfl (by kernel_rfl) (by kernel_rfl) (by kernel_rfl) (fun _ _ _ h => h) (Or.inl ⟨by kernel_rfl, ?_⟩) hS ?_
    rotate_left 1
    · (intro w' hSw; (try dsimp only at hSw); go_simp; try (with_reducible rfl))
    try simp only [Act.put, List.setIfInBounds_toArray, List.set_cons_zero, List.set_cons_succ]
    refine wpAnyH_takeD (i := 19) (v := ?_) rfl (by kernel_rfl) (by kernel_rfl) (by kernel_rfl) (fun _ _ _ h => h) (Or.inl ⟨by kernel_rfl, ?_⟩) hS ?_
    rotate_left 1
    · (intro w' hSw; (try dsimp only at hSw); go_simp; try (with_reducible rfl))
    try simp only [Act.put, List.setIfInBounds_toArray, List.set_cons_zero, List.set_cons_succ]
    refine wpAnyH_takeD (i := 20) (v := ?_) rfl (by kernel_rfl) (by kernel_rfl) (by kernel_rfl) (fun _ _ _ h => h) (Or.inl ⟨by kernel_rfl, ?_⟩) hS ?_
    rotate_left 1
    · (intro w' hSw; (try dsimp only at hSw); go_simp; try (with_reducible rfl))
    try simp only [Act.put, List.setIfInBounds_toArray, List.set_cons_zero, List.set_cons_succ]
    refine wpAnyH_takeD (i := 21) (v := ?_) rfl (by kernel_rfl) (by kernel_rfl) (by kernel_rfl) (fun _ _ _ h => h) (Or.inl ⟨by kernel_rfl, ?_⟩) hS ?_
    rotate_left 1
    · (intro w' hSw; (try dsimp only at hSw); go_simp; try (with_reducible rfl))
    try simp only [Act.put, List.setIfInBounds_toArray, List.set_cons_zero, List.set_cons_succ]
    refine wpAnyH_takeD (i := 23) (v := ?_) rfl (by kernel_rfl) (by kernel_rfl) (by kernel_rfl) (fun _ _ _ h => h) (Or.inl ⟨by kernel_rfl, ?_⟩) hS ?_
    rotate_left 1
    · (intro w' hSw; (try dsimp only at hSw); go_simp; try (with_reducible rfl))
    try simp only [Act.put, List.setIfInBounds_toArray, List.set_cons_zero, List.set_cons_succ]
    refine wpAnyH_takeD (i := 24) (v := ?_) rfl (by kernel_rfl) (by kernel_rfl) (by kernel_rfl) (fun _ _ _ h => h) (Or.inl ⟨by kernel_rfl, ?_⟩) hS ?_
    rotate_left 1
    · (intro w' hSw; (try dsimp only at hSw); go_simp; try (with_reducible rfl))
    try simp only [Act.put, List.setIfInBounds_toArray, List.set_cons_zero, List.set_cons_succ]
    refine wpAnyH_oneD (i := 22) rfl (by kernel_rfl) (fun K hK => ?_)
    rw [if_pos (by kernel_rfl)]
    go_simp
    refine (pSame_any A1 A2 D1 D2 n1 c1 n2 c2 m1 d1 m2 d2 st lo st' lo' _ B (hW.out.below hbRw7 hB0) (hV.out.below hbRw7 hB0) (Nat.le_trans hB0 hbRw7.size) (by omega) (by omega)).mono ?_
    rintro e Rw8 ⟨rfl, hbRw8'⟩
    have hbRw8 : Below w0.heap.size w0 Rw8 := hbRw7.trans (hbRw8'.mono hbRw7.size)
    have hzRw8 := hbRw8.size
    have rRw8_0 := (hbRw8.cell (p := ⟨w.heap.size, 0, none⟩) hzg).trans g0
    have rRw8_1 := (hbRw8.cell (p := ⟨w.heap.size, 1, none⟩) hzg).trans g1
    have rRw8_2 := (hbRw8.cell (p := ⟨w.heap.size + 1, 0, none⟩) hzh).trans h0
    have rRw8_3 := (hbRw8.cell (p := ⟨w.heap.size + 1, 1, none⟩) hzh).trans h1
    have rRw8_4 := (hbRw8.cell (p := ⟨gx, 0, none⟩) hzx).trans x0
    have rRw8_5 := (hbRw8.cell (p := ⟨gx, 1, none⟩) hzx).trans x1
    go_wp2_with fail
    refine hK.out _ _ ⟨rRw8_0, rRw8_1, rRw8_2, rRw8_3, rRw8_4, rRw8_5⟩ (fun hS => ?_)
    clear hK
    try simp only [Act.put, List.setIfInBounds_toArray, List.set_cons_zero, List.set_cons_succ]
    refine wpAnyH_oneD (i := 25) rfl (by kernel_rfl) (fun K hK => ?_)
    rw [if_pos (by kernel_rfl)]
    go_simp
    refine (rSame_any A1 A2 D1 D2 n1 c1 n2 c2 m1 d1 m2 d2 st lo st' lo' _ B (hW.out.below hbRw8 hB0) (hV.out.below hbRw8 hB0) (Nat.le_trans hB0 hbRw8.size) (by omega) (by omega)).mono ?_
    rintro e Rw9 ⟨rfl, hbRw9'⟩
    have hbRw9 : Below w0.heap.size w0 Rw9 := hbRw8.trans (hbRw9'.mono hbRw8.size)
    have hzRw9 := hbRw9.size
    have rRw9_0 := (hbRw9.cell (p := ⟨w.heap.size, 0, none⟩) hzg).trans g0
    have rRw9_1 := (hbRw9.cell (p := ⟨w.heap.size, 1, none⟩) hzg).trans g1
    have rRw9_2 := (hbRw9.cell (p := ⟨w.heap.size + 1, 0, none⟩) hzh).trans h0
    have rRw9_3 := (hbRw9.cell (p := ⟨w.heap.size + 1, 1, none⟩) hzh).trans h1
    have rRw9_4 := (hbRw9.cell (p := ⟨gx, 0, none⟩) hzx).trans x0
    have rRw9_5 := (hbRw9.cell (p := ⟨gx, 1, none⟩) hzx).trans x1
    generalize sameP st lo st' lo' = bb at *
    have hbb : (bb == bb) = true := by simp
    go_wp2_with fail
    refine hK.out _ _ ⟨rRw9_0, rRw9_1, rRw9_2, rRw9_3, rRw9_4, rRw9_5⟩ (fun hS => ?_)
    clear hK
    try simp only [Act.put, List.setIfInBounds_toArray, List.set_cons_zero, List.set_cons_succ]
    refine wpAnyH_takeD (i := 26) (v := ?_) rfl (by kernel_rfl) (by kernel_rfl) (by kernel_rfl) (fun _ _ _ h => h) (Or.inl ⟨by kernel_rfl, ?_⟩) hS ?_
    rotate_left 1
    · (intro w' hSw; (try dsimp only at hSw); go_simp; try (with_reducible rfl))
    try simp only [Act.put, List.setIfInBounds_toArray, List.set_cons_zero, List.set_cons_succ]
    refine wpAnyH_takeD (i := 27) (v := ?_) rfl (by kernel_rfl) (by kernel_rfl) (by kernel_rfl) (fun _ _ _ h => h) (Or.inl ⟨by kernel_rfl, ?_⟩) hS ?_
    rotate_left 1
    · (intro w' hSw; (try dsimp only at hSw); go_simp; try (with_reducible rfl))
    try simp only [Act.put, List.setIfInBounds_toArray, List.set_cons_zero, List.set_cons_succ]
    refine wpAnyH_takeD (i := 28) (v := ?_) rfl (by kernel_rfl) (by kernel_rfl) (by kernel_rfl) (fun _ _ _ h => h) (Or.inl ⟨by kernel_rfl, ?_⟩) hS ?_
    rotate_left 1
    · (intro w' hSw; (try dsimp only at hSw); go_simp; try (with_reducible rfl))
    try simp only [Act.put, List.setIfInBounds_toArray, List.set_cons_zero, List.set_cons_succ]
    refine wpAnyH_takeD (i := 29) (v := ?_) rfl (by kernel_rfl) (by kernel_rfl) (by kernel_rfl) (fun _ _ _ h => h) (Or.inl ⟨by kernel_rfl, ?_⟩) hS ?_
    rotate_left 1
    · (intro w' hSw; (try dsimp only at hSw); go_simp; try (with_reducible rfl))
    try simp only [Act.put, List.setIfInBounds_toArray, List.set_cons_zero, List.set_cons_succ]
    refine wpAnyH_takeD (i := 30) (v := ?_) rfl (by kernel_rfl) (by kernel_rfl) (by kernel_rfl) (fun _ _ _ h => h) (Or.inl ⟨by kernel_rfl, ?_⟩) hS ?_
    rotate_left 1
    · (intro w' hSw; (try dsimp only at hSw); go_simp; try (with_reducible rfl))
    try simp only [Act.put, List.setIfInBounds_toArray, List.set_cons_zero, List.set_cons_succ]
    refine wpAnyH_takeD (i := 32) (v := ?_) rfl (by kernel_rfl) (by kernel_rfl) (by kernel_rfl) (fun _ _ _ h => h) (Or.inl ⟨by kernel_rfl, ?_⟩) hS ?_
    rotate_left 1
    · (intro w' hSw; (try dsimp only at hSw); go_simp; try (with_reducible rfl))
    try simp only [Act.put, List.setIfInBounds_toArray, List.set_cons_zero, List.set_cons_succ]
    refine wpAnyH_oneD (i := 31) rfl (by kernel_rfl) (fun K hK => ?_)
    rw [if_pos (by kernel_rfl)]
    go_simp
    refine (pSame_any A1 A2 X1 X2 n1 c1 n2 c2 p1 e1 p2 e2 st lo P.1 P.2 _ _ ((hW.out.below hbRw9 hB0).up (Nat.le_trans hB0 hbRw9.size)) ((hX.out.below hbRw9 (Nat.le_refl _)).up hbRw9.size) (Nat.le_refl _) (by omega) (by omega)).mono ?_
    rw [HSN.out]
    rintro e Rw10 ⟨rfl, hbRw10'⟩
    have hbRw10 : Below w0.heap.size w0 Rw10 := hbRw9.trans (hbRw10'.mono hbRw9.size)
    have hzRw10 := hbRw10.size
    have rRw10_0 := (hbRw10.cell (p := ⟨w.heap.size, 0, none⟩) hzg).trans g0
    have rRw10_1 := (hbRw10.cell (p := ⟨w.heap.size, 1, none⟩) hzg).trans g1
    have rRw10_2 := (hbRw10.cell (p := ⟨w.heap.size + 1, 0, none⟩) hzh).trans h0
    have rRw10_3 := (hbRw10.cell (p := ⟨w.heap.size + 1, 1, none⟩) hzh).trans h1
    have rRw10_4 := (hbRw10.cell (p := ⟨gx, 0, none⟩) hzx).trans x0
    have rRw10_5 := (hbRw10.cell (p := ⟨gx, 1, none⟩) hzx).trans x1
    go_wp2_with fail
    refine hK.out _ _ ⟨rRw10_0, rRw10_1, rRw10_2, rRw10_3, rRw10_4, rRw10_5⟩ (fun hS => ?_)
    clear hK
    try simp only [Act.put, List.setIfInBounds_toArray, List.set_cons_zero, List.set_cons_succ]
    refine wpAnyH_oneD (i := 33) rfl (by kernel_rfl) (fun K hK => ?_)
    rw [if_pos (by kernel_rfl)]
    go_simp
    refine (HCK.out _).mono ?_
    rintro e Rw11 ⟨rfl, hbRw11'⟩
    have hbRw11 : Below w0.heap.size w0 Rw11 := hbRw10.trans (hbRw11'.mono hbRw10.size)
    have hzRw11 := hbRw11.size
    have rRw11_0 := (hbRw11.cell (p := ⟨w.heap.size, 0, none⟩) hzg).trans g0
    have rRw11_1 := (hbRw11.cell (p := ⟨w.heap.size, 1, none⟩) hzg).trans g1
    have rRw11_2 := (hbRw11.cell (p := ⟨w.heap.size + 1, 0, none⟩) hzh).trans h0
    have rRw11_3 := (hbRw11.cell (p := ⟨w.heap.size + 1, 1, none⟩) hzh).trans h1
    have rRw11_4 := (hbRw11.cell (p := ⟨gx, 0, none⟩) hzx).trans x0
    have rRw11_5 := (hbRw11.cell (p := ⟨gx, 1, none⟩) hzx).trans x1
    go_wp2_with fail
    refine hK.out _ _ ⟨rRw11_0, rRw11_1, rRw11_2, rRw11_3, rRw11_4, rRw11_5⟩ (fun hS => ?_)
    clear hK
    try simp only [Act.put, List.setIfInBounds_toArray, List.set_cons_zero, List.set_cons_succ]
    refine wpAnyH_takeD (i := 34) (v := ?_) rfl (by kernel_rfl) (by kernel_rfl) (by kernel_rfl) (fun _ _ _ h => h) (Or.inl ⟨by kernel_rfl, ?_⟩) hS ?_
    rotate_left 1
    · (intro w' hSw; (try dsimp only at hSw); go_simp; try (with_reducible rfl))
    try simp only [Act.put, List.setIfInBounds_toArray, List.set_cons_zero, List.set_cons_succ]
    refine wpAnyH_takeD (i := 35) (v := ?_) rfl (by kernel_rfl) (by kernel_rfl) (by kernel_rfl) (fun _ _ _ h => h) (Or.inl ⟨by kernel_rfl, ?_⟩) hS ?_
    rotate_left 1
    · (intro w' hSw; (try dsimp only at hSw); go_simp; try (with_reducible rfl))
    try simp only [Act.put, List.setIfInBounds_toArray, List.set_cons_zero, List.set_cons_succ]
    refine wpAnyH_takeD (i := 36) (v := ?_) rfl (by kernel_rfl) (by kernel_rfl) (by kernel_rfl) (fun _ _ _ h => h) (Or.inl ⟨by kernel_rfl, ?_⟩) hS ?_
    rotate_left 1
    · (intro w' hSw; (try dsimp only at hSw); go_simp; try (with_reducible rfl))
    try simp only [Act.put, List.setIfInBounds_toArray, List.set_cons_zero, List.set_cons_succ]
    refine wpAnyH_takeD (i := 37) (v := ?_) rfl (by kernel_rfl) (by kernel_rfl) (by kernel_rfl) (fun _ _ _ h => h) (Or.inl ⟨by kernel_rfl, ?_⟩) hS ?_
    rotate_left 1
    · (intro w' hSw; (try dsimp only at hSw); go_simp; try (with_reducible rfl))
    try simp only [Act.put, List.setIfInBounds_toArray, List.set_cons_zero, List.set_cons_succ]
    refine wpAnyH_oneD (i := 38) rfl (by kernel_rfl) (fun K hK => ?_)
    rw [if_pos (by kernel_rfl)]
    go_simp
    refine (wawake_any _).mono ?_
    rintro e Rw12 ⟨rfl, hbRw12'⟩
    have hbRw12 : Below w0.heap.size w0 Rw12 := hbRw11.trans (hbRw12'.mono hbRw11.size)
    have hzRw12 := hbRw12.size
    have rRw12_0 := (hbRw12.cell (p := ⟨w.heap.size, 0, none⟩) hzg).trans g0
    have rRw12_1 := (hbRw12.cell (p := ⟨w.heap.size, 1, none⟩) hzg).trans g1
    have rRw12_2 := (hbRw12.cell (p := ⟨w.heap.size + 1, 0, none⟩) hzh).trans h0
    have rRw12_3 := (hbRw12.cell (p := ⟨w.heap.size + 1, 1, none⟩) hzh).trans h1
    have rRw12_4 := (hbRw12.cell (p := ⟨gx, 0, none⟩) hzx).trans x0
    have rRw12_5 := (hbRw12.cell (p := ⟨gx, 1, none⟩) hzx).trans x1
    go_wp2_with fail
    refine hK.out _ _ ⟨rRw12_0, rRw12_1, rRw12_2, rRw12_3, rRw12_4, rRw12_5⟩ (fun hS => ?_)
    clear hK
    try simp only [Act.put, List.setIfInBounds_toArray, List.set_cons_zero, List.set_cons_succ]
    refine wpAnyH_takeD (i := 39) (v := ?_) rfl (by kernel_rfl) (by kernel_rfl) (by kernel_rfl) (fun _ _ _ h => h) (Or.inl ⟨by kernel_rfl, ?_⟩) hS ?_
    rotate_left 1
    · (intro w' hSw; (try dsimp only at hSw); go_simp; try (with_reducible rfl))
    try simp only [Act.put, List.setIfInBounds_toArray, List.set_cons_zero, List.set_cons_succ]
    refine wpAnyH_takeD (i := 40) (v := ?_) rfl (by kernel_rfl) (by kernel_rfl) (by kernel_rfl) (fun _ _ _ h => h) (Or.inl ⟨by kernel_rfl, ?_⟩) hS ?_
    rotate_left 1
    · (intro w' hSw; (try dsimp only at hSw); go_simp; try (with_reducible rfl))
    try simp only [Act.put, List.setIfInBounds_toArray, List.set_cons_zero, List.set_cons_succ]
    refine wpAnyH_done (by kernel_rfl) ?_ _
    go_wp2
    go_ret
    exact ⟨rfl, HB1.out.trans (hbRw12.mono HB1.out.size)⟩
end Go.Proofs.Ytkikkplpalabhaa
