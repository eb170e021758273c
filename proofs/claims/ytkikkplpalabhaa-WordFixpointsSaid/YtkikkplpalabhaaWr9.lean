/- The walk of layer 27's reference: Same. -/
import Derived.Test.YtkikkplpalabhaaWr8
namespace Go.Proofs.Ytkikkplpalabhaa
open Go.RowKit

theorem same_iff {P Q : List Int × List Int} (h1 : P.1.length = Q.1.length) (h2 : P.2.length = Q.2.length) : (∀ i, i < P.1.length + P.2.length → seqW P.1 P.2 i = seqW Q.1 Q.2 i) ↔ P = Q := by
  constructor
  · intro h
    refine Prod.ext ?_ ?_
    · refine ext_getI (n := P.1.length) rfl h1.symm (fun i hi => ?_)
      have := h i (by omega)
      rwa [seqW_stem hi, seqW_stem (by omega)] at this
    · refine ext_getI (n := P.2.length) rfl h2.symm (fun i hi => ?_)
      have := h (P.1.length + i) (by omega)
      rwa [seqW_loop (by omega), seqW_loop (by omega), ← h1, ← h2, show P.1.length + i - P.1.length = i by omega, Nat.mod_eq_of_lt hi] at this
  · rintro rfl i _; rfl
/-- Both words are laid into their boxes. -/
def SCut (wb : World) (l1 l2 l1' l2' : Nat) (P Q : List Int × List Int) (pa pb : Value) (wF : World) : Prop :=
  ∃ (ka kb : Nat) (A6 : Option Addr) (x6 : Nat) (A7 : Option Addr) (x7 : Nat) (D6 : Option Addr) (y6 : Nat) (D7 : Option Addr) (y7 : Nat), pa = .pointer (some ⟨ka, 0, none⟩) ∧ pb = .pointer (some ⟨kb, 0, none⟩) ∧
    TwE wb wF l1 l2 l1' l2' P Q (.slice A6 l1 x6, .slice A7 l2 x7) (.slice D6 l1' y6, .slice D7 l2' y7) ka kb
set_option maxHeartbeats 8000000 in
set_option maxRecDepth 100000 in
theorem rSame_any (A1 A2 D1 D2 : Option Addr) (n1 c1 n2 c2 m1 d1 m2 d2 : Nat) (st lo st' lo' : List Int) (w : World) (B : Nat) (h : WRd w B A1 A2 n1 c1 n2 c2 st lo) (h' : WRd w B D1 D2 m1 d1 m2 d2 st' lo') (hB : B ≤ w.heap.size) (hl : n1 + n2 ≤ 30000) (hl' : m1 + m2 ≤ 30000) :
    Calls Try.prog 46 #[.agg #[.slice A1 n1 c1, .slice A2 n2 c2], .agg #[.slice D1 m1 d1, .slice D2 m2 d2]] w (Tru w (sameP st lo st' lo')) := by
  have HX := Lib.hid (box2 w (.cells #[.slice A1 n1 c1, .slice A2 n2 c2] 34) (.cells #[.slice D1 m1 d1, .slice D2 m2 d2] 34))
  have HC := Lib.hid (fun (w' : World) => rCheck_any A1 A2 n1 c1 n2 c2 st lo w' h.l1 h.l2 (by omega))
  have HC' := Lib.hid (fun (w' : World) => rCheck_any D1 D2 m1 d1 m2 d2 st' lo' w' h'.l1 h'.l2 (by omega))
  by_cases h0 : n2 = 0
  · have hlo : lo = [] := List.eq_nil_of_length_eq_zero (by have := h.l2; omega)
    have hN : sameP st lo st' lo' = false := by rw [sameP, if_pos (.inl hlo)]
    rw [hN]
    have hC := HC.out
    rw [if_pos h0] at hC
    have HC0 := Lib.hid hC
    clear hN h h' h0 hC hlo
    go_enter Try.func46, Try.ntmps46
    go_wp2_with fail
    refine Calls.mono (HC0.out _) ?_
    rintro e wa ⟨rfl, hba⟩
    have hb := HX.out.1.trans (hba.mono HX.out.1.size)
    go_wp2
    go_ret
    exact ⟨rfl, hb⟩
  by_cases h0' : m2 = 0
  · have hlo : lo' = [] := List.eq_nil_of_length_eq_zero (by have := h'.l2; omega)
    have hN : sameP st lo st' lo' = false := by rw [sameP, if_pos (.inr hlo)]
    rw [hN]
    have hC := HC.out
    have hC' := HC'.out
    rw [if_neg h0] at hC
    rw [if_pos h0'] at hC'
    have HC0 := Lib.hid hC
    have HC0' := Lib.hid hC'
    clear hN h h' h0 h0' hC hC' hlo
    go_enter Try.func46, Try.ntmps46
    go_wp2_with fail
    refine Calls.mono (HC0.out _) ?_
    rintro e wa ⟨rfl, hba⟩
    obtain ⟨hb0, hx0, hx1, hxz⟩ := HX.out
    rw [hxz] at hba
    have q0 : wa.cell? ⟨w.heap.size + 1, 0, none⟩ = some (.slice D1 m1 d1) := by rw [cell_of_row _ _ 0 _ _ (0, 0) ((hba.block (w.heap.size + 1) (by omega)).trans hx1)]; rfl
    have q1 : wa.cell? ⟨w.heap.size + 1, 1, none⟩ = some (.slice D2 m2 d2) := by rw [cell_of_row _ _ 1 _ _ (0, 0) ((hba.block (w.heap.size + 1) (by omega)).trans hx1)]; rfl
    have hz1 : w.heap.size + 2 ≤ wa.heap.size := by have := hba.size; rwa [hxz] at this
    have hb1 : Below w.heap.size w wa := hb0.trans (hba.mono (by omega))
    clear hx0 hx1 hxz hba hb0
    go_wp2_with fail
    refine Calls.mono (HC0'.out _) ?_
    rintro e wb ⟨rfl, hbb⟩
    have hb := hb1.trans (hbb.mono hb1.size)
    go_wp2
    go_ret
    exact ⟨rfl, hb⟩
  have hC := HC.out
  have hC' := HC'.out
  rw [if_neg h0] at hC
  rw [if_neg h0'] at hC'
  have HC0 := Lib.hid hC
  have HC0' := Lib.hid hC'
  have HWR := Lib.hid h
  have HWR' := Lib.hid h'
  clear h h' hC hC'
  go_enter Try.func46, Try.ntmps46
  go_wp2_with fail
  refine Calls.mono (HC0.out _) ?_
  rintro e wa ⟨rfl, hba⟩
  obtain ⟨hb0, hx0, hx1, hxz⟩ := HX.out
  rw [hxz] at hba
  have HXA := Lib.hid ((hba.block w.heap.size (by omega)).trans hx0)
  have q0 : wa.cell? ⟨w.heap.size + 1, 0, none⟩ = some (.slice D1 m1 d1) := by rw [cell_of_row _ _ 0 _ _ (0, 0) ((hba.block (w.heap.size + 1) (by omega)).trans hx1)]; rfl
  have q1 : wa.cell? ⟨w.heap.size + 1, 1, none⟩ = some (.slice D2 m2 d2) := by rw [cell_of_row _ _ 1 _ _ (0, 0) ((hba.block (w.heap.size + 1) (by omega)).trans hx1)]; rfl
  have hz1 : w.heap.size + 2 ≤ wa.heap.size := by have := hba.size; rwa [hxz] at this
  have hb1 : Below w.heap.size w wa := hb0.trans (hba.mono (by omega))
  clear hx0 hx1 hxz hba hb0
  go_wp2_with fail
  refine Calls.mono (HC0'.out _) ?_
  rintro e wb ⟨rfl, hbb⟩
  have p0 : wb.cell? ⟨w.heap.size, 0, none⟩ = some (.slice A1 n1 c1) := by rw [cell_of_row _ _ 0 _ _ (0, 0) ((hbb.block w.heap.size (by omega)).trans HXA.out)]; rfl
  have p1 : wb.cell? ⟨w.heap.size, 1, none⟩ = some (.slice A2 n2 c2) := by rw [cell_of_row _ _ 1 _ _ (0, 0) ((hbb.block w.heap.size (by omega)).trans HXA.out)]; rfl
  have r0 := (hbb.cell (p := ⟨w.heap.size + 1, 0, none⟩) (show w.heap.size + 1 < wa.heap.size by omega)).trans q0
  have r1 := (hbb.cell (p := ⟨w.heap.size + 1, 1, none⟩) (show w.heap.size + 1 < wa.heap.size by omega)).trans q1
  have hb := hb1.trans (hbb.mono hb1.size)
  have hzb := hb.size
  have hzb2 : w.heap.size + 1 < wb.heap.size := by have := hbb.size; omega
  clear hb1 hbb q0 q1 HXA hz1
  obtain ⟨P, HP⟩ : ∃ P, Hid (P = normL st lo) := ⟨_, Lib.hid rfl⟩
  obtain ⟨Q, HQ⟩ : ∃ Q, Hid (Q = normL st' lo') := ⟨_, Lib.hid rfl⟩
  have HSM : Hid (sameP st lo st' lo' = decide (P = Q)) := Lib.hid (by
    have hlo : lo ≠ [] := fun e => h0 (by have := HWR.out.l2; rw [e] at this; simpa using this)
    have hlo' : lo' ≠ [] := fun e => h0' (by have := HWR'.out.l2; rw [e] at this; simpa using this)
    rw [sameP, if_neg (fun h => h.elim hlo hlo'), ← HP.out, ← HQ.out])
  obtain ⟨l1, HL1⟩ : ∃ l, Hid (l = P.1.length) := ⟨_, Lib.hid rfl⟩
  obtain ⟨l2, HL2⟩ : ∃ l, Hid (l = P.2.length) := ⟨_, Lib.hid rfl⟩
  obtain ⟨l1', HL1'⟩ : ∃ l, Hid (l = Q.1.length) := ⟨_, Lib.hid rfl⟩
  obtain ⟨l2', HL2'⟩ : ∃ l, Hid (l = Q.2.length) := ⟨_, Lib.hid rfl⟩
  have HN1 := Lib.hid (fun (w' : World) (hb' : Below wb.heap.size wb w') => show Calls Try.prog 42 #[.agg #[.slice A1 n1 c1, .slice A2 n2 c2]] w' (NewWordN w' l1 l2 P) from by
    have := rNorm_any A1 A2 n1 c1 n2 c2 st lo w' wb.heap.size ((HWR.out.below hb hB |>.up (by omega) : WRd wb wb.heap.size A1 A2 n1 c1 n2 c2 st lo).below hb' (Nat.le_refl _)) hb'.size (by omega) h0
    rw [← HP.out] at this
    rw [HL1.out, HL2.out]; exact this)
  have HN2 := Lib.hid (fun (w' : World) (hb' : Below wb.heap.size wb w') => show Calls Try.prog 42 #[.agg #[.slice D1 m1 d1, .slice D2 m2 d2]] w' (NewWordN w' l1' l2' Q) from by
    have := rNorm_any D1 D2 m1 d1 m2 d2 st' lo' w' wb.heap.size ((HWR'.out.below hb hB |>.up (by omega) : WRd wb wb.heap.size D1 D2 m1 d1 m2 d2 st' lo').below hb' (Nat.le_refl _)) hb'.size (by omega) h0'
    rw [← HQ.out] at this
    rw [HL1'.out, HL2'.out]; exact this)
  have hB1 : l1 ≤ n1 := by
    rw [HL1.out, HP.out, normL, partW_len]; have := roll_le (seqW st lo) (periodL lo) st.length; have := HWR.out.l1; rw [stemN]; omega
  have hB2 : l2 ≤ n2 := by
    have hlo : lo ≠ [] := fun e => h0 (by have := HWR.out.l2; rw [e] at this; simpa using this)
    rw [HL2.out, HP.out, normL, partW_len]; have := (period_spec hlo).2.1; have := HWR.out.l2; omega
  have hB1' : l1' ≤ m1 := by
    rw [HL1'.out, HQ.out, normL, partW_len]; have := roll_le (seqW st' lo') (periodL lo') st'.length; have := HWR'.out.l1; rw [stemN]; omega
  have hB2' : l2' ≤ m2 := by
    have hlo : lo' ≠ [] := fun e => h0' (by have := HWR'.out.l2; rw [e] at this; simpa using this)
    rw [HL2'.out, HQ.out, normL, partW_len]; have := (period_spec hlo).2.1; have := HWR'.out.l2; omega
  go_wp2_with fail
  go_cut [5, 6] from 4 (fun pa pb wF => SCut wb l1 l2 l1' l2' P Q pa pb wF)
  case first =>
    refine wp_region_held_drew (S := fun w' => w'.cell? ⟨w.heap.size, 0, none⟩ = some (.slice A1 n1 c1) ∧ w'.cell? ⟨w.heap.size, 1, none⟩ = some (.slice A2 n2 c2) ∧ w'.cell? ⟨w.heap.size + 1, 0, none⟩ = some (.slice D1 m1 d1) ∧ w'.cell? ⟨w.heap.size + 1, 1, none⟩ = some (.slice D2 m2 d2)) (by kernel_rfl) ⟨p0, p1, r0, r1⟩ (fun hS => ?_)
    refine wpAnyH_takeD (i := 0) (v := ?_) rfl (by kernel_rfl) (by kernel_rfl) (by kernel_rfl) (fun _ _ _ h => h) (Or.inl ⟨by kernel_rfl, ?_⟩) hS ?_
    rotate_left 1
    · (intro w' hSw; (try dsimp only at hSw); go_simp; try (with_reducible rfl))
    try simp only [Act.put, List.setIfInBounds_toArray, List.set_cons_zero, List.set_cons_succ]
    refine wpAnyH_takeD (i := 2) (v := ?_) rfl (by kernel_rfl) (by kernel_rfl) (by kernel_rfl) (fun _ _ _ h => h) (Or.inl ⟨by kernel_rfl, ?_⟩) hS ?_
    rotate_left 1
    · (intro w' hSw; (try dsimp only at hSw); go_simp; try (with_reducible rfl))
    try simp only [Act.put, List.setIfInBounds_toArray, List.set_cons_zero, List.set_cons_succ]
    refine wpAnyH_ready (rs := [1, 4, 5]) (by kernel_rfl) (by simp) ?_
    refine (allReadyH_consD (i := 1) rfl (fun K hK => ?_) (allReadyH_consD (i := 4) rfl (fun K hK => ?_) (allReadyH_consD (i := 5) rfl (fun K hK => ?_) AllReadyH.nil)))
    · skip
      go_simp
      refine Calls.mono (HN1.out _ (TwS.start wb l1 l2 l1' l2' P Q).b) ?_
      rintro e W1 ⟨u1, u2, rfl, ho1, ho2, hb1⟩
      obtain ⟨A6, xA6, rfl, -⟩ := own_sl ho1
      obtain ⟨A7, xA7, rfl, -⟩ := own_sl ho2
      have HT1 := (TwS.start wb l1 l2 l1' l2' P Q).word hb1 ho1 ho2
      clear ho1 ho2 hb1
      have kp0_1 := (HT1.b.cell (p := ⟨w.heap.size, 0, none⟩) (show w.heap.size < wb.heap.size by omega)).trans p0
      have kp1_1 := (HT1.b.cell (p := ⟨w.heap.size, 1, none⟩) (show w.heap.size < wb.heap.size by omega)).trans p1
      have kr0_1 := (HT1.b.cell (p := ⟨w.heap.size + 1, 0, none⟩) (show w.heap.size + 1 < wb.heap.size by omega)).trans r0
      have kr1_1 := (HT1.b.cell (p := ⟨w.heap.size + 1, 1, none⟩) (show w.heap.size + 1 < wb.heap.size by omega)).trans r1
      have YHT1 := Lib.hid HT1
      clear HT1
      go_wp2_with fail
      refine hK.out _ _ ⟨kp0_1, kp1_1, kr0_1, kr1_1⟩ (fun hS => ?_)
      clear hK
      try simp only [Act.put, List.setIfInBounds_toArray, List.set_cons_zero, List.set_cons_succ]
      refine wpAnyH_ready (rs := [3, 4, 5]) (by kernel_rfl) (by simp) ?_
      refine (allReadyH_consD (i := 3) rfl (fun K hK => ?_) (allReadyH_consD (i := 4) rfl (fun K hK => ?_) (allReadyH_consD (i := 5) rfl (fun K hK => ?_) AllReadyH.nil)))
      · skip
        go_simp
        refine Calls.mono (HN2.out _ YHT1.out.b) ?_
        rintro e W2 ⟨u1, u2, rfl, ho1, ho2, hb2⟩
        obtain ⟨D6, xD6, rfl, -⟩ := own_sl ho1
        obtain ⟨D7, xD7, rfl, -⟩ := own_sl ho2
        have HT2 := YHT1.out.word' hb2 ho1 ho2
        clear ho1 ho2 hb2
        have kp0_2 := (HT2.b.cell (p := ⟨w.heap.size, 0, none⟩) (show w.heap.size < wb.heap.size by omega)).trans p0
        have kp1_2 := (HT2.b.cell (p := ⟨w.heap.size, 1, none⟩) (show w.heap.size < wb.heap.size by omega)).trans p1
        have kr0_2 := (HT2.b.cell (p := ⟨w.heap.size + 1, 0, none⟩) (show w.heap.size + 1 < wb.heap.size by omega)).trans r0
        have kr1_2 := (HT2.b.cell (p := ⟨w.heap.size + 1, 1, none⟩) (show w.heap.size + 1 < wb.heap.size by omega)).trans r1
        have YHT2 := Lib.hid HT2
        clear HT2
        go_wp2_with fail
        refine hK.out _ _ ⟨kp0_2, kp1_2, kr0_2, kr1_2⟩ (fun hS => ?_)
        clear hK
        try simp only [Act.put, List.setIfInBounds_toArray, List.set_cons_zero, List.set_cons_succ]
        refine wpAnyH_ready (rs := [4, 5]) (by kernel_rfl) (by simp) ?_
        refine (allReadyH_consD (i := 4) rfl (fun K hK => ?_) (allReadyH_consD (i := 5) rfl (fun K hK => ?_) AllReadyH.nil))
        · skip
          go_simp
          obtain ⟨W3, hw3⟩ : ∃ W, W = W2.alloc (.cells #[.slice none 0 0, .slice none 0 0] 34) := ⟨_, rfl⟩
          have hn3 : W3.heap[W2.heap.size]? = some (.cells #[.slice none 0 0, .slice none 0 0] 34) := by rw [hw3]; exact heap_alloc_new _ _
          have hb3 : Below W2.heap.size W2 W3 := by rw [hw3]; exact (Below.refl _ _).alloc (Nat.le_refl _) _
          rw [← hw3]
          clear hw3
          have HT3 := YHT2.out.al hn3 hb3
          clear hb3 hn3
          have kp0_3 := (HT3.b.cell (p := ⟨w.heap.size, 0, none⟩) (show w.heap.size < wb.heap.size by omega)).trans p0
          have kp1_3 := (HT3.b.cell (p := ⟨w.heap.size, 1, none⟩) (show w.heap.size < wb.heap.size by omega)).trans p1
          have kr0_3 := (HT3.b.cell (p := ⟨w.heap.size + 1, 0, none⟩) (show w.heap.size + 1 < wb.heap.size by omega)).trans r0
          have kr1_3 := (HT3.b.cell (p := ⟨w.heap.size + 1, 1, none⟩) (show w.heap.size + 1 < wb.heap.size by omega)).trans r1
          have YHT3 := Lib.hid HT3
          clear HT3
          refine hK.out _ _ ⟨kp0_3, kp1_3, kr0_3, kr1_3⟩ (fun hS => ?_)
          clear hK
          try simp only [Act.put, List.setIfInBounds_toArray, List.set_cons_zero, List.set_cons_succ]
          refine wpAnyH_oneD (i := 5) rfl (by kernel_rfl) (fun K hK => ?_)
          go_simp
          obtain ⟨W4, hw4⟩ : ∃ W, W = W3.alloc (.cells #[.slice none 0 0, .slice none 0 0] 34) := ⟨_, rfl⟩
          have hn4 : W4.heap[W3.heap.size]? = some (.cells #[.slice none 0 0, .slice none 0 0] 34) := by rw [hw4]; exact heap_alloc_new _ _
          have hb4 : Below W3.heap.size W3 W4 := by rw [hw4]; exact (Below.refl _ _).alloc (Nat.le_refl _) _
          rw [← hw4]
          clear hw4
          have HT4 := YHT3.out.al' hn4 hb4
          clear hb4 hn4
          have kp0_4 := (HT4.b.cell (p := ⟨w.heap.size, 0, none⟩) (show w.heap.size < wb.heap.size by omega)).trans p0
          have kp1_4 := (HT4.b.cell (p := ⟨w.heap.size, 1, none⟩) (show w.heap.size < wb.heap.size by omega)).trans p1
          have kr0_4 := (HT4.b.cell (p := ⟨w.heap.size + 1, 0, none⟩) (show w.heap.size + 1 < wb.heap.size by omega)).trans r0
          have kr1_4 := (HT4.b.cell (p := ⟨w.heap.size + 1, 1, none⟩) (show w.heap.size + 1 < wb.heap.size by omega)).trans r1
          have YHT4 := Lib.hid HT4
          clear HT4
          refine hK.out _ _ ⟨kp0_4, kp1_4, kr0_4, kr1_4⟩ (fun hS => ?_)
          clear hK
          try simp only [Act.put, List.setIfInBounds_toArray, List.set_cons_zero, List.set_cons_succ]
          refine wpAnyH_oneD (i := 6) rfl (by kernel_rfl) (fun K hK => ?_)
          obtain ⟨⟨y0, y1⟩, ⟨z0, z1⟩⟩ := blk2 (YHT4.out.blk _ rfl).1
          go_simp
          obtain ⟨V1, hV1⟩ : ∃ W, W = (W4.setCell ⟨W2.heap.size, 0, none⟩ (.slice A6 l1 xA6)).setCell ⟨W2.heap.size, 1, none⟩ (.slice A7 l2 xA7) := ⟨_, rfl⟩
          rw [← hV1]
          obtain ⟨hm1, hb1w⟩ := YHT4.out.mid hV1
          have HV1 := Lib.hid hV1
          clear hV1
          have kp0_5 := (hb1w.cell (p := ⟨w.heap.size, 0, none⟩) (show w.heap.size < wb.heap.size by omega)).trans p0
          have kp1_5 := (hb1w.cell (p := ⟨w.heap.size, 1, none⟩) (show w.heap.size < wb.heap.size by omega)).trans p1
          have kr0_5 := (hb1w.cell (p := ⟨w.heap.size + 1, 0, none⟩) (show w.heap.size + 1 < wb.heap.size by omega)).trans r0
          have kr1_5 := (hb1w.cell (p := ⟨w.heap.size + 1, 1, none⟩) (show w.heap.size + 1 < wb.heap.size by omega)).trans r1
          clear y0 y1 z0 z1
          refine hK.out _ _ ⟨kp0_5, kp1_5, kr0_5, kr1_5⟩ (fun hS => ?_)
          clear hK
          try simp only [Act.put, List.setIfInBounds_toArray, List.set_cons_zero, List.set_cons_succ]
          refine wpAnyH_oneD (i := 7) rfl (by kernel_rfl) (fun K hK => ?_)
          obtain ⟨⟨y0, y1⟩, ⟨z0, z1⟩⟩ := blk2 hm1
          go_simp
          obtain ⟨V2, hV2⟩ : ∃ W, W = (V1.setCell ⟨W3.heap.size, 0, none⟩ (.slice D6 l1' xD6)).setCell ⟨W3.heap.size, 1, none⟩ (.slice D7 l2' xD7) := ⟨_, rfl⟩
          rw [← hV2]
          have HE := YHT4.out.fin HV1.out hV2
          clear hV2
          have kp0_6 := (HE.b.cell (p := ⟨w.heap.size, 0, none⟩) (show w.heap.size < wb.heap.size by omega)).trans p0
          have kp1_6 := (HE.b.cell (p := ⟨w.heap.size, 1, none⟩) (show w.heap.size < wb.heap.size by omega)).trans p1
          have kr0_6 := (HE.b.cell (p := ⟨w.heap.size + 1, 0, none⟩) (show w.heap.size + 1 < wb.heap.size by omega)).trans r0
          have kr1_6 := (HE.b.cell (p := ⟨w.heap.size + 1, 1, none⟩) (show w.heap.size + 1 < wb.heap.size by omega)).trans r1
          clear y0 y1 z0 z1 HV1
          refine hK.out _ _ ⟨kp0_6, kp1_6, kr0_6, kr1_6⟩ (fun hS => ?_)
          clear hK
          try simp only [Act.put, List.setIfInBounds_toArray, List.set_cons_zero, List.set_cons_succ]
          have HEE := Lib.hid HE
          clear hm1 hb1w HE
          refine wpAnyH_done (by kernel_rfl) ?_ _
          go_wp2_with fail
          go_meet
          exact ⟨_, _, _, _, _, _, _, _, _, _, rfl, rfl, HEE.out⟩
        · skip
          go_simp
          obtain ⟨W7, hw7⟩ : ∃ W, W = W2.alloc (.cells #[.slice none 0 0, .slice none 0 0] 34) := ⟨_, rfl⟩
          have hn7 : W7.heap[W2.heap.size]? = some (.cells #[.slice none 0 0, .slice none 0 0] 34) := by rw [hw7]; exact heap_alloc_new _ _
          have hb7 : Below W2.heap.size W2 W7 := by rw [hw7]; exact (Below.refl _ _).alloc (Nat.le_refl _) _
          rw [← hw7]
          clear hw7
          have HT7 := YHT2.out.al' hn7 hb7
          clear hb7 hn7
          have kp0_7 := (HT7.b.cell (p := ⟨w.heap.size, 0, none⟩) (show w.heap.size < wb.heap.size by omega)).trans p0
          have kp1_7 := (HT7.b.cell (p := ⟨w.heap.size, 1, none⟩) (show w.heap.size < wb.heap.size by omega)).trans p1
          have kr0_7 := (HT7.b.cell (p := ⟨w.heap.size + 1, 0, none⟩) (show w.heap.size + 1 < wb.heap.size by omega)).trans r0
          have kr1_7 := (HT7.b.cell (p := ⟨w.heap.size + 1, 1, none⟩) (show w.heap.size + 1 < wb.heap.size by omega)).trans r1
          have YHT7 := Lib.hid HT7
          clear HT7
          refine hK.out _ _ ⟨kp0_7, kp1_7, kr0_7, kr1_7⟩ (fun hS => ?_)
          clear hK
          try simp only [Act.put, List.setIfInBounds_toArray, List.set_cons_zero, List.set_cons_succ]
          refine wpAnyH_oneD (i := 4) rfl (by kernel_rfl) (fun K hK => ?_)
          go_simp
          obtain ⟨W8, hw8⟩ : ∃ W, W = W7.alloc (.cells #[.slice none 0 0, .slice none 0 0] 34) := ⟨_, rfl⟩
          have hn8 : W8.heap[W7.heap.size]? = some (.cells #[.slice none 0 0, .slice none 0 0] 34) := by rw [hw8]; exact heap_alloc_new _ _
          have hb8 : Below W7.heap.size W7 W8 := by rw [hw8]; exact (Below.refl _ _).alloc (Nat.le_refl _) _
          rw [← hw8]
          clear hw8
          have HT8 := YHT7.out.al hn8 hb8
          clear hb8 hn8
          have kp0_8 := (HT8.b.cell (p := ⟨w.heap.size, 0, none⟩) (show w.heap.size < wb.heap.size by omega)).trans p0
          have kp1_8 := (HT8.b.cell (p := ⟨w.heap.size, 1, none⟩) (show w.heap.size < wb.heap.size by omega)).trans p1
          have kr0_8 := (HT8.b.cell (p := ⟨w.heap.size + 1, 0, none⟩) (show w.heap.size + 1 < wb.heap.size by omega)).trans r0
          have kr1_8 := (HT8.b.cell (p := ⟨w.heap.size + 1, 1, none⟩) (show w.heap.size + 1 < wb.heap.size by omega)).trans r1
          have YHT8 := Lib.hid HT8
          clear HT8
          refine hK.out _ _ ⟨kp0_8, kp1_8, kr0_8, kr1_8⟩ (fun hS => ?_)
          clear hK
          try simp only [Act.put, List.setIfInBounds_toArray, List.set_cons_zero, List.set_cons_succ]
          refine wpAnyH_oneD (i := 6) rfl (by kernel_rfl) (fun K hK => ?_)
          obtain ⟨⟨y0, y1⟩, ⟨z0, z1⟩⟩ := blk2 (YHT8.out.blk _ rfl).1
          go_simp
          obtain ⟨V1, hV1⟩ : ∃ W, W = (W8.setCell ⟨W7.heap.size, 0, none⟩ (.slice A6 l1 xA6)).setCell ⟨W7.heap.size, 1, none⟩ (.slice A7 l2 xA7) := ⟨_, rfl⟩
          rw [← hV1]
          obtain ⟨hm1, hb1w⟩ := YHT8.out.mid hV1
          have HV1 := Lib.hid hV1
          clear hV1
          have kp0_9 := (hb1w.cell (p := ⟨w.heap.size, 0, none⟩) (show w.heap.size < wb.heap.size by omega)).trans p0
          have kp1_9 := (hb1w.cell (p := ⟨w.heap.size, 1, none⟩) (show w.heap.size < wb.heap.size by omega)).trans p1
          have kr0_9 := (hb1w.cell (p := ⟨w.heap.size + 1, 0, none⟩) (show w.heap.size + 1 < wb.heap.size by omega)).trans r0
          have kr1_9 := (hb1w.cell (p := ⟨w.heap.size + 1, 1, none⟩) (show w.heap.size + 1 < wb.heap.size by omega)).trans r1
          clear y0 y1 z0 z1
          refine hK.out _ _ ⟨kp0_9, kp1_9, kr0_9, kr1_9⟩ (fun hS => ?_)
          clear hK
          try simp only [Act.put, List.setIfInBounds_toArray, List.set_cons_zero, List.set_cons_succ]
          refine wpAnyH_oneD (i := 7) rfl (by kernel_rfl) (fun K hK => ?_)
          obtain ⟨⟨y0, y1⟩, ⟨z0, z1⟩⟩ := blk2 hm1
          go_simp
          obtain ⟨V2, hV2⟩ : ∃ W, W = (V1.setCell ⟨W2.heap.size, 0, none⟩ (.slice D6 l1' xD6)).setCell ⟨W2.heap.size, 1, none⟩ (.slice D7 l2' xD7) := ⟨_, rfl⟩
          rw [← hV2]
          have HE := YHT8.out.fin HV1.out hV2
          clear hV2
          have kp0_10 := (HE.b.cell (p := ⟨w.heap.size, 0, none⟩) (show w.heap.size < wb.heap.size by omega)).trans p0
          have kp1_10 := (HE.b.cell (p := ⟨w.heap.size, 1, none⟩) (show w.heap.size < wb.heap.size by omega)).trans p1
          have kr0_10 := (HE.b.cell (p := ⟨w.heap.size + 1, 0, none⟩) (show w.heap.size + 1 < wb.heap.size by omega)).trans r0
          have kr1_10 := (HE.b.cell (p := ⟨w.heap.size + 1, 1, none⟩) (show w.heap.size + 1 < wb.heap.size by omega)).trans r1
          clear y0 y1 z0 z1 HV1
          refine hK.out _ _ ⟨kp0_10, kp1_10, kr0_10, kr1_10⟩ (fun hS => ?_)
          clear hK
          try simp only [Act.put, List.setIfInBounds_toArray, List.set_cons_zero, List.set_cons_succ]
          have HEE := Lib.hid HE
          clear hm1 hb1w HE
          refine wpAnyH_done (by kernel_rfl) ?_ _
          go_wp2_with fail
          go_meet
          exact ⟨_, _, _, _, _, _, _, _, _, _, rfl, rfl, HEE.out⟩
      · skip
        go_simp
        obtain ⟨W11, hw11⟩ : ∃ W, W = W1.alloc (.cells #[.slice none 0 0, .slice none 0 0] 34) := ⟨_, rfl⟩
        have hn11 : W11.heap[W1.heap.size]? = some (.cells #[.slice none 0 0, .slice none 0 0] 34) := by rw [hw11]; exact heap_alloc_new _ _
        have hb11 : Below W1.heap.size W1 W11 := by rw [hw11]; exact (Below.refl _ _).alloc (Nat.le_refl _) _
        rw [← hw11]
        clear hw11
        have HT11 := YHT1.out.al hn11 hb11
        clear hb11 hn11
        have kp0_11 := (HT11.b.cell (p := ⟨w.heap.size, 0, none⟩) (show w.heap.size < wb.heap.size by omega)).trans p0
        have kp1_11 := (HT11.b.cell (p := ⟨w.heap.size, 1, none⟩) (show w.heap.size < wb.heap.size by omega)).trans p1
        have kr0_11 := (HT11.b.cell (p := ⟨w.heap.size + 1, 0, none⟩) (show w.heap.size + 1 < wb.heap.size by omega)).trans r0
        have kr1_11 := (HT11.b.cell (p := ⟨w.heap.size + 1, 1, none⟩) (show w.heap.size + 1 < wb.heap.size by omega)).trans r1
        have YHT11 := Lib.hid HT11
        clear HT11
        refine hK.out _ _ ⟨kp0_11, kp1_11, kr0_11, kr1_11⟩ (fun hS => ?_)
        clear hK
        try simp only [Act.put, List.setIfInBounds_toArray, List.set_cons_zero, List.set_cons_succ]
        refine wpAnyH_ready (rs := [3, 5]) (by kernel_rfl) (by simp) ?_
        refine (allReadyH_consD (i := 3) rfl (fun K hK => ?_) (allReadyH_consD (i := 5) rfl (fun K hK => ?_) AllReadyH.nil))
        · skip
          go_simp
          refine Calls.mono (HN2.out _ YHT11.out.b) ?_
          rintro e W12 ⟨u1, u2, rfl, ho1, ho2, hb12⟩
          obtain ⟨D6, xD6, rfl, -⟩ := own_sl ho1
          obtain ⟨D7, xD7, rfl, -⟩ := own_sl ho2
          have HT12 := YHT11.out.word' hb12 ho1 ho2
          clear ho1 ho2 hb12
          have kp0_12 := (HT12.b.cell (p := ⟨w.heap.size, 0, none⟩) (show w.heap.size < wb.heap.size by omega)).trans p0
          have kp1_12 := (HT12.b.cell (p := ⟨w.heap.size, 1, none⟩) (show w.heap.size < wb.heap.size by omega)).trans p1
          have kr0_12 := (HT12.b.cell (p := ⟨w.heap.size + 1, 0, none⟩) (show w.heap.size + 1 < wb.heap.size by omega)).trans r0
          have kr1_12 := (HT12.b.cell (p := ⟨w.heap.size + 1, 1, none⟩) (show w.heap.size + 1 < wb.heap.size by omega)).trans r1
          have YHT12 := Lib.hid HT12
          clear HT12
          go_wp2_with fail
          refine hK.out _ _ ⟨kp0_12, kp1_12, kr0_12, kr1_12⟩ (fun hS => ?_)
          clear hK
          try simp only [Act.put, List.setIfInBounds_toArray, List.set_cons_zero, List.set_cons_succ]
          refine wpAnyH_oneD (i := 5) rfl (by kernel_rfl) (fun K hK => ?_)
          go_simp
          obtain ⟨W13, hw13⟩ : ∃ W, W = W12.alloc (.cells #[.slice none 0 0, .slice none 0 0] 34) := ⟨_, rfl⟩
          have hn13 : W13.heap[W12.heap.size]? = some (.cells #[.slice none 0 0, .slice none 0 0] 34) := by rw [hw13]; exact heap_alloc_new _ _
          have hb13 : Below W12.heap.size W12 W13 := by rw [hw13]; exact (Below.refl _ _).alloc (Nat.le_refl _) _
          rw [← hw13]
          clear hw13
          have HT13 := YHT12.out.al' hn13 hb13
          clear hb13 hn13
          have kp0_13 := (HT13.b.cell (p := ⟨w.heap.size, 0, none⟩) (show w.heap.size < wb.heap.size by omega)).trans p0
          have kp1_13 := (HT13.b.cell (p := ⟨w.heap.size, 1, none⟩) (show w.heap.size < wb.heap.size by omega)).trans p1
          have kr0_13 := (HT13.b.cell (p := ⟨w.heap.size + 1, 0, none⟩) (show w.heap.size + 1 < wb.heap.size by omega)).trans r0
          have kr1_13 := (HT13.b.cell (p := ⟨w.heap.size + 1, 1, none⟩) (show w.heap.size + 1 < wb.heap.size by omega)).trans r1
          have YHT13 := Lib.hid HT13
          clear HT13
          refine hK.out _ _ ⟨kp0_13, kp1_13, kr0_13, kr1_13⟩ (fun hS => ?_)
          clear hK
          try simp only [Act.put, List.setIfInBounds_toArray, List.set_cons_zero, List.set_cons_succ]
          refine wpAnyH_oneD (i := 6) rfl (by kernel_rfl) (fun K hK => ?_)
          obtain ⟨⟨y0, y1⟩, ⟨z0, z1⟩⟩ := blk2 (YHT13.out.blk _ rfl).1
          go_simp
          obtain ⟨V1, hV1⟩ : ∃ W, W = (W13.setCell ⟨W1.heap.size, 0, none⟩ (.slice A6 l1 xA6)).setCell ⟨W1.heap.size, 1, none⟩ (.slice A7 l2 xA7) := ⟨_, rfl⟩
          rw [← hV1]
          obtain ⟨hm1, hb1w⟩ := YHT13.out.mid hV1
          have HV1 := Lib.hid hV1
          clear hV1
          have kp0_14 := (hb1w.cell (p := ⟨w.heap.size, 0, none⟩) (show w.heap.size < wb.heap.size by omega)).trans p0
          have kp1_14 := (hb1w.cell (p := ⟨w.heap.size, 1, none⟩) (show w.heap.size < wb.heap.size by omega)).trans p1
          have kr0_14 := (hb1w.cell (p := ⟨w.heap.size + 1, 0, none⟩) (show w.heap.size + 1 < wb.heap.size by omega)).trans r0
          have kr1_14 := (hb1w.cell (p := ⟨w.heap.size + 1, 1, none⟩) (show w.heap.size + 1 < wb.heap.size by omega)).trans r1
          clear y0 y1 z0 z1
          refine hK.out _ _ ⟨kp0_14, kp1_14, kr0_14, kr1_14⟩ (fun hS => ?_)
          clear hK
          try simp only [Act.put, List.setIfInBounds_toArray, List.set_cons_zero, List.set_cons_succ]
          refine wpAnyH_oneD (i := 7) rfl (by kernel_rfl) (fun K hK => ?_)
          obtain ⟨⟨y0, y1⟩, ⟨z0, z1⟩⟩ := blk2 hm1
          go_simp
          obtain ⟨V2, hV2⟩ : ∃ W, W = (V1.setCell ⟨W12.heap.size, 0, none⟩ (.slice D6 l1' xD6)).setCell ⟨W12.heap.size, 1, none⟩ (.slice D7 l2' xD7) := ⟨_, rfl⟩
          rw [← hV2]
          have HE := YHT13.out.fin HV1.out hV2
          clear hV2
          have kp0_15 := (HE.b.cell (p := ⟨w.heap.size, 0, none⟩) (show w.heap.size < wb.heap.size by omega)).trans p0
          have kp1_15 := (HE.b.cell (p := ⟨w.heap.size, 1, none⟩) (show w.heap.size < wb.heap.size by omega)).trans p1
          have kr0_15 := (HE.b.cell (p := ⟨w.heap.size + 1, 0, none⟩) (show w.heap.size + 1 < wb.heap.size by omega)).trans r0
          have kr1_15 := (HE.b.cell (p := ⟨w.heap.size + 1, 1, none⟩) (show w.heap.size + 1 < wb.heap.size by omega)).trans r1
          clear y0 y1 z0 z1 HV1
          refine hK.out _ _ ⟨kp0_15, kp1_15, kr0_15, kr1_15⟩ (fun hS => ?_)
          clear hK
          try simp only [Act.put, List.setIfInBounds_toArray, List.set_cons_zero, List.set_cons_succ]
          have HEE := Lib.hid HE
          clear hm1 hb1w HE
          refine wpAnyH_done (by kernel_rfl) ?_ _
          go_wp2_with fail
          go_meet
          exact ⟨_, _, _, _, _, _, _, _, _, _, rfl, rfl, HEE.out⟩
        · skip
          go_simp
          obtain ⟨W16, hw16⟩ : ∃ W, W = W11.alloc (.cells #[.slice none 0 0, .slice none 0 0] 34) := ⟨_, rfl⟩
          have hn16 : W16.heap[W11.heap.size]? = some (.cells #[.slice none 0 0, .slice none 0 0] 34) := by rw [hw16]; exact heap_alloc_new _ _
          have hb16 : Below W11.heap.size W11 W16 := by rw [hw16]; exact (Below.refl _ _).alloc (Nat.le_refl _) _
          rw [← hw16]
          clear hw16
          have HT16 := YHT11.out.al' hn16 hb16
          clear hb16 hn16
          have kp0_16 := (HT16.b.cell (p := ⟨w.heap.size, 0, none⟩) (show w.heap.size < wb.heap.size by omega)).trans p0
          have kp1_16 := (HT16.b.cell (p := ⟨w.heap.size, 1, none⟩) (show w.heap.size < wb.heap.size by omega)).trans p1
          have kr0_16 := (HT16.b.cell (p := ⟨w.heap.size + 1, 0, none⟩) (show w.heap.size + 1 < wb.heap.size by omega)).trans r0
          have kr1_16 := (HT16.b.cell (p := ⟨w.heap.size + 1, 1, none⟩) (show w.heap.size + 1 < wb.heap.size by omega)).trans r1
          have YHT16 := Lib.hid HT16
          clear HT16
          refine hK.out _ _ ⟨kp0_16, kp1_16, kr0_16, kr1_16⟩ (fun hS => ?_)
          clear hK
          try simp only [Act.put, List.setIfInBounds_toArray, List.set_cons_zero, List.set_cons_succ]
          refine wpAnyH_oneD (i := 3) rfl (by kernel_rfl) (fun K hK => ?_)
          go_simp
          refine Calls.mono (HN2.out _ YHT16.out.b) ?_
          rintro e W17 ⟨u1, u2, rfl, ho1, ho2, hb17⟩
          obtain ⟨D6, xD6, rfl, -⟩ := own_sl ho1
          obtain ⟨D7, xD7, rfl, -⟩ := own_sl ho2
          have HT17 := YHT16.out.word' hb17 ho1 ho2
          clear ho1 ho2 hb17
          have kp0_17 := (HT17.b.cell (p := ⟨w.heap.size, 0, none⟩) (show w.heap.size < wb.heap.size by omega)).trans p0
          have kp1_17 := (HT17.b.cell (p := ⟨w.heap.size, 1, none⟩) (show w.heap.size < wb.heap.size by omega)).trans p1
          have kr0_17 := (HT17.b.cell (p := ⟨w.heap.size + 1, 0, none⟩) (show w.heap.size + 1 < wb.heap.size by omega)).trans r0
          have kr1_17 := (HT17.b.cell (p := ⟨w.heap.size + 1, 1, none⟩) (show w.heap.size + 1 < wb.heap.size by omega)).trans r1
          have YHT17 := Lib.hid HT17
          clear HT17
          go_wp2_with fail
          refine hK.out _ _ ⟨kp0_17, kp1_17, kr0_17, kr1_17⟩ (fun hS => ?_)
          clear hK
          try simp only [Act.put, List.setIfInBounds_toArray, List.set_cons_zero, List.set_cons_succ]
          refine wpAnyH_oneD (i := 6) rfl (by kernel_rfl) (fun K hK => ?_)
          obtain ⟨⟨y0, y1⟩, ⟨z0, z1⟩⟩ := blk2 (YHT17.out.blk _ rfl).1
          go_simp
          obtain ⟨V1, hV1⟩ : ∃ W, W = (W17.setCell ⟨W1.heap.size, 0, none⟩ (.slice A6 l1 xA6)).setCell ⟨W1.heap.size, 1, none⟩ (.slice A7 l2 xA7) := ⟨_, rfl⟩
          rw [← hV1]
          obtain ⟨hm1, hb1w⟩ := YHT17.out.mid hV1
          have HV1 := Lib.hid hV1
          clear hV1
          have kp0_18 := (hb1w.cell (p := ⟨w.heap.size, 0, none⟩) (show w.heap.size < wb.heap.size by omega)).trans p0
          have kp1_18 := (hb1w.cell (p := ⟨w.heap.size, 1, none⟩) (show w.heap.size < wb.heap.size by omega)).trans p1
          have kr0_18 := (hb1w.cell (p := ⟨w.heap.size + 1, 0, none⟩) (show w.heap.size + 1 < wb.heap.size by omega)).trans r0
          have kr1_18 := (hb1w.cell (p := ⟨w.heap.size + 1, 1, none⟩) (show w.heap.size + 1 < wb.heap.size by omega)).trans r1
          clear y0 y1 z0 z1
          refine hK.out _ _ ⟨kp0_18, kp1_18, kr0_18, kr1_18⟩ (fun hS => ?_)
          clear hK
          try simp only [Act.put, List.setIfInBounds_toArray, List.set_cons_zero, List.set_cons_succ]
          refine wpAnyH_oneD (i := 7) rfl (by kernel_rfl) (fun K hK => ?_)
          obtain ⟨⟨y0, y1⟩, ⟨z0, z1⟩⟩ := blk2 hm1
          go_simp
          obtain ⟨V2, hV2⟩ : ∃ W, W = (V1.setCell ⟨W11.heap.size, 0, none⟩ (.slice D6 l1' xD6)).setCell ⟨W11.heap.size, 1, none⟩ (.slice D7 l2' xD7) := ⟨_, rfl⟩
          rw [← hV2]
          have HE := YHT17.out.fin HV1.out hV2
          clear hV2
          have kp0_19 := (HE.b.cell (p := ⟨w.heap.size, 0, none⟩) (show w.heap.size < wb.heap.size by omega)).trans p0
          have kp1_19 := (HE.b.cell (p := ⟨w.heap.size, 1, none⟩) (show w.heap.size < wb.heap.size by omega)).trans p1
          have kr0_19 := (HE.b.cell (p := ⟨w.heap.size + 1, 0, none⟩) (show w.heap.size + 1 < wb.heap.size by omega)).trans r0
          have kr1_19 := (HE.b.cell (p := ⟨w.heap.size + 1, 1, none⟩) (show w.heap.size + 1 < wb.heap.size by omega)).trans r1
          clear y0 y1 z0 z1 HV1
          refine hK.out _ _ ⟨kp0_19, kp1_19, kr0_19, kr1_19⟩ (fun hS => ?_)
          clear hK
          try simp only [Act.put, List.setIfInBounds_toArray, List.set_cons_zero, List.set_cons_succ]
          have HEE := Lib.hid HE
          clear hm1 hb1w HE
          refine wpAnyH_done (by kernel_rfl) ?_ _
          go_wp2_with fail
          go_meet
          exact ⟨_, _, _, _, _, _, _, _, _, _, rfl, rfl, HEE.out⟩
      · skip
        go_simp
        obtain ⟨W20, hw20⟩ : ∃ W, W = W1.alloc (.cells #[.slice none 0 0, .slice none 0 0] 34) := ⟨_, rfl⟩
        have hn20 : W20.heap[W1.heap.size]? = some (.cells #[.slice none 0 0, .slice none 0 0] 34) := by rw [hw20]; exact heap_alloc_new _ _
        have hb20 : Below W1.heap.size W1 W20 := by rw [hw20]; exact (Below.refl _ _).alloc (Nat.le_refl _) _
        rw [← hw20]
        clear hw20
        have HT20 := YHT1.out.al' hn20 hb20
        clear hb20 hn20
        have kp0_20 := (HT20.b.cell (p := ⟨w.heap.size, 0, none⟩) (show w.heap.size < wb.heap.size by omega)).trans p0
        have kp1_20 := (HT20.b.cell (p := ⟨w.heap.size, 1, none⟩) (show w.heap.size < wb.heap.size by omega)).trans p1
        have kr0_20 := (HT20.b.cell (p := ⟨w.heap.size + 1, 0, none⟩) (show w.heap.size + 1 < wb.heap.size by omega)).trans r0
        have kr1_20 := (HT20.b.cell (p := ⟨w.heap.size + 1, 1, none⟩) (show w.heap.size + 1 < wb.heap.size by omega)).trans r1
        have YHT20 := Lib.hid HT20
        clear HT20
        refine hK.out _ _ ⟨kp0_20, kp1_20, kr0_20, kr1_20⟩ (fun hS => ?_)
        clear hK
        try simp only [Act.put, List.setIfInBounds_toArray, List.set_cons_zero, List.set_cons_succ]
        refine wpAnyH_ready (rs := [3, 4]) (by kernel_rfl) (by simp) ?_
        refine (allReadyH_consD (i := 3) rfl (fun K hK => ?_) (allReadyH_consD (i := 4) rfl (fun K hK => ?_) AllReadyH.nil))
        · skip
          go_simp
          refine Calls.mono (HN2.out _ YHT20.out.b) ?_
          rintro e W21 ⟨u1, u2, rfl, ho1, ho2, hb21⟩
          obtain ⟨D6, xD6, rfl, -⟩ := own_sl ho1
          obtain ⟨D7, xD7, rfl, -⟩ := own_sl ho2
          have HT21 := YHT20.out.word' hb21 ho1 ho2
          clear ho1 ho2 hb21
          have kp0_21 := (HT21.b.cell (p := ⟨w.heap.size, 0, none⟩) (show w.heap.size < wb.heap.size by omega)).trans p0
          have kp1_21 := (HT21.b.cell (p := ⟨w.heap.size, 1, none⟩) (show w.heap.size < wb.heap.size by omega)).trans p1
          have kr0_21 := (HT21.b.cell (p := ⟨w.heap.size + 1, 0, none⟩) (show w.heap.size + 1 < wb.heap.size by omega)).trans r0
          have kr1_21 := (HT21.b.cell (p := ⟨w.heap.size + 1, 1, none⟩) (show w.heap.size + 1 < wb.heap.size by omega)).trans r1
          have YHT21 := Lib.hid HT21
          clear HT21
          go_wp2_with fail
          refine hK.out _ _ ⟨kp0_21, kp1_21, kr0_21, kr1_21⟩ (fun hS => ?_)
          clear hK
          try simp only [Act.put, List.setIfInBounds_toArray, List.set_cons_zero, List.set_cons_succ]
          refine wpAnyH_oneD (i := 4) rfl (by kernel_rfl) (fun K hK => ?_)
          go_simp
          obtain ⟨W22, hw22⟩ : ∃ W, W = W21.alloc (.cells #[.slice none 0 0, .slice none 0 0] 34) := ⟨_, rfl⟩
          have hn22 : W22.heap[W21.heap.size]? = some (.cells #[.slice none 0 0, .slice none 0 0] 34) := by rw [hw22]; exact heap_alloc_new _ _
          have hb22 : Below W21.heap.size W21 W22 := by rw [hw22]; exact (Below.refl _ _).alloc (Nat.le_refl _) _
          rw [← hw22]
          clear hw22
          have HT22 := YHT21.out.al hn22 hb22
          clear hb22 hn22
          have kp0_22 := (HT22.b.cell (p := ⟨w.heap.size, 0, none⟩) (show w.heap.size < wb.heap.size by omega)).trans p0
          have kp1_22 := (HT22.b.cell (p := ⟨w.heap.size, 1, none⟩) (show w.heap.size < wb.heap.size by omega)).trans p1
          have kr0_22 := (HT22.b.cell (p := ⟨w.heap.size + 1, 0, none⟩) (show w.heap.size + 1 < wb.heap.size by omega)).trans r0
          have kr1_22 := (HT22.b.cell (p := ⟨w.heap.size + 1, 1, none⟩) (show w.heap.size + 1 < wb.heap.size by omega)).trans r1
          have YHT22 := Lib.hid HT22
          clear HT22
          refine hK.out _ _ ⟨kp0_22, kp1_22, kr0_22, kr1_22⟩ (fun hS => ?_)
          clear hK
          try simp only [Act.put, List.setIfInBounds_toArray, List.set_cons_zero, List.set_cons_succ]
          refine wpAnyH_oneD (i := 6) rfl (by kernel_rfl) (fun K hK => ?_)
          obtain ⟨⟨y0, y1⟩, ⟨z0, z1⟩⟩ := blk2 (YHT22.out.blk _ rfl).1
          go_simp
          obtain ⟨V1, hV1⟩ : ∃ W, W = (W22.setCell ⟨W21.heap.size, 0, none⟩ (.slice A6 l1 xA6)).setCell ⟨W21.heap.size, 1, none⟩ (.slice A7 l2 xA7) := ⟨_, rfl⟩
          rw [← hV1]
          obtain ⟨hm1, hb1w⟩ := YHT22.out.mid hV1
          have HV1 := Lib.hid hV1
          clear hV1
          have kp0_23 := (hb1w.cell (p := ⟨w.heap.size, 0, none⟩) (show w.heap.size < wb.heap.size by omega)).trans p0
          have kp1_23 := (hb1w.cell (p := ⟨w.heap.size, 1, none⟩) (show w.heap.size < wb.heap.size by omega)).trans p1
          have kr0_23 := (hb1w.cell (p := ⟨w.heap.size + 1, 0, none⟩) (show w.heap.size + 1 < wb.heap.size by omega)).trans r0
          have kr1_23 := (hb1w.cell (p := ⟨w.heap.size + 1, 1, none⟩) (show w.heap.size + 1 < wb.heap.size by omega)).trans r1
          clear y0 y1 z0 z1
          refine hK.out _ _ ⟨kp0_23, kp1_23, kr0_23, kr1_23⟩ (fun hS => ?_)
          clear hK
          try simp only [Act.put, List.setIfInBounds_toArray, List.set_cons_zero, List.set_cons_succ]
          refine wpAnyH_oneD (i := 7) rfl (by kernel_rfl) (fun K hK => ?_)
          obtain ⟨⟨y0, y1⟩, ⟨z0, z1⟩⟩ := blk2 hm1
          go_simp
          obtain ⟨V2, hV2⟩ : ∃ W, W = (V1.setCell ⟨W1.heap.size, 0, none⟩ (.slice D6 l1' xD6)).setCell ⟨W1.heap.size, 1, none⟩ (.slice D7 l2' xD7) := ⟨_, rfl⟩
          rw [← hV2]
          have HE := YHT22.out.fin HV1.out hV2
          clear hV2
          have kp0_24 := (HE.b.cell (p := ⟨w.heap.size, 0, none⟩) (show w.heap.size < wb.heap.size by omega)).trans p0
          have kp1_24 := (HE.b.cell (p := ⟨w.heap.size, 1, none⟩) (show w.heap.size < wb.heap.size by omega)).trans p1
          have kr0_24 := (HE.b.cell (p := ⟨w.heap.size + 1, 0, none⟩) (show w.heap.size + 1 < wb.heap.size by omega)).trans r0
          have kr1_24 := (HE.b.cell (p := ⟨w.heap.size + 1, 1, none⟩) (show w.heap.size + 1 < wb.heap.size by omega)).trans r1
          clear y0 y1 z0 z1 HV1
          refine hK.out _ _ ⟨kp0_24, kp1_24, kr0_24, kr1_24⟩ (fun hS => ?_)
          clear hK
          try simp only [Act.put, List.setIfInBounds_toArray, List.set_cons_zero, List.set_cons_succ]
          have HEE := Lib.hid HE
          clear hm1 hb1w HE
          refine wpAnyH_done (by kernel_rfl) ?_ _
          go_wp2_with fail
          go_meet
          exact ⟨_, _, _, _, _, _, _, _, _, _, rfl, rfl, HEE.out⟩
        · skip
          go_simp
          obtain ⟨W25, hw25⟩ : ∃ W, W = W20.alloc (.cells #[.slice none 0 0, .slice none 0 0] 34) := ⟨_, rfl⟩
          have hn25 : W25.heap[W20.heap.size]? = some (.cells #[.slice none 0 0, .slice none 0 0] 34) := by rw [hw25]; exact heap_alloc_new _ _
          have hb25 : Below W20.heap.size W20 W25 := by rw [hw25]; exact (Below.refl _ _).alloc (Nat.le_refl _) _
          rw [← hw25]
          clear hw25
          have HT25 := YHT20.out.al hn25 hb25
          clear hb25 hn25
          have kp0_25 := (HT25.b.cell (p := ⟨w.heap.size, 0, none⟩) (show w.heap.size < wb.heap.size by omega)).trans p0
          have kp1_25 := (HT25.b.cell (p := ⟨w.heap.size, 1, none⟩) (show w.heap.size < wb.heap.size by omega)).trans p1
          have kr0_25 := (HT25.b.cell (p := ⟨w.heap.size + 1, 0, none⟩) (show w.heap.size + 1 < wb.heap.size by omega)).trans r0
          have kr1_25 := (HT25.b.cell (p := ⟨w.heap.size + 1, 1, none⟩) (show w.heap.size + 1 < wb.heap.size by omega)).trans r1
          have YHT25 := Lib.hid HT25
          clear HT25
          refine hK.out _ _ ⟨kp0_25, kp1_25, kr0_25, kr1_25⟩ (fun hS => ?_)
          clear hK
          try simp only [Act.put, List.setIfInBounds_toArray, List.set_cons_zero, List.set_cons_succ]
          refine wpAnyH_oneD (i := 3) rfl (by kernel_rfl) (fun K hK => ?_)
          go_simp
          refine Calls.mono (HN2.out _ YHT25.out.b) ?_
          rintro e W26 ⟨u1, u2, rfl, ho1, ho2, hb26⟩
          obtain ⟨D6, xD6, rfl, -⟩ := own_sl ho1
          obtain ⟨D7, xD7, rfl, -⟩ := own_sl ho2
          have HT26 := YHT25.out.word' hb26 ho1 ho2
          clear ho1 ho2 hb26
          have kp0_26 := (HT26.b.cell (p := ⟨w.heap.size, 0, none⟩) (show w.heap.size < wb.heap.size by omega)).trans p0
          have kp1_26 := (HT26.b.cell (p := ⟨w.heap.size, 1, none⟩) (show w.heap.size < wb.heap.size by omega)).trans p1
          have kr0_26 := (HT26.b.cell (p := ⟨w.heap.size + 1, 0, none⟩) (show w.heap.size + 1 < wb.heap.size by omega)).trans r0
          have kr1_26 := (HT26.b.cell (p := ⟨w.heap.size + 1, 1, none⟩) (show w.heap.size + 1 < wb.heap.size by omega)).trans r1
          have YHT26 := Lib.hid HT26
          clear HT26
          go_wp2_with fail
          refine hK.out _ _ ⟨kp0_26, kp1_26, kr0_26, kr1_26⟩ (fun hS => ?_)
          clear hK
          try simp only [Act.put, List.setIfInBounds_toArray, List.set_cons_zero, List.set_cons_succ]
          refine wpAnyH_oneD (i := 6) rfl (by kernel_rfl) (fun K hK => ?_)
          obtain ⟨⟨y0, y1⟩, ⟨z0, z1⟩⟩ := blk2 (YHT26.out.blk _ rfl).1
          go_simp
          obtain ⟨V1, hV1⟩ : ∃ W, W = (W26.setCell ⟨W20.heap.size, 0, none⟩ (.slice A6 l1 xA6)).setCell ⟨W20.heap.size, 1, none⟩ (.slice A7 l2 xA7) := ⟨_, rfl⟩
          rw [← hV1]
          obtain ⟨hm1, hb1w⟩ := YHT26.out.mid hV1
          have HV1 := Lib.hid hV1
          clear hV1
          have kp0_27 := (hb1w.cell (p := ⟨w.heap.size, 0, none⟩) (show w.heap.size < wb.heap.size by omega)).trans p0
          have kp1_27 := (hb1w.cell (p := ⟨w.heap.size, 1, none⟩) (show w.heap.size < wb.heap.size by omega)).trans p1
          have kr0_27 := (hb1w.cell (p := ⟨w.heap.size + 1, 0, none⟩) (show w.heap.size + 1 < wb.heap.size by omega)).trans r0
          have kr1_27 := (hb1w.cell (p := ⟨w.heap.size + 1, 1, none⟩) (show w.heap.size + 1 < wb.heap.size by omega)).trans r1
          clear y0 y1 z0 z1
          refine hK.out _ _ ⟨kp0_27, kp1_27, kr0_27, kr1_27⟩ (fun hS => ?_)
          clear hK
          try simp only [Act.put, List.setIfInBounds_toArray, List.set_cons_zero, List.set_cons_succ]
          refine wpAnyH_oneD (i := 7) rfl (by kernel_rfl) (fun K hK => ?_)
          obtain ⟨⟨y0, y1⟩, ⟨z0, z1⟩⟩ := blk2 hm1
          go_simp
          obtain ⟨V2, hV2⟩ : ∃ W, W = (V1.setCell ⟨W1.heap.size, 0, none⟩ (.slice D6 l1' xD6)).setCell ⟨W1.heap.size, 1, none⟩ (.slice D7 l2' xD7) := ⟨_, rfl⟩
          rw [← hV2]
          have HE := YHT26.out.fin HV1.out hV2
          clear hV2
          have kp0_28 := (HE.b.cell (p := ⟨w.heap.size, 0, none⟩) (show w.heap.size < wb.heap.size by omega)).trans p0
          have kp1_28 := (HE.b.cell (p := ⟨w.heap.size, 1, none⟩) (show w.heap.size < wb.heap.size by omega)).trans p1
          have kr0_28 := (HE.b.cell (p := ⟨w.heap.size + 1, 0, none⟩) (show w.heap.size + 1 < wb.heap.size by omega)).trans r0
          have kr1_28 := (HE.b.cell (p := ⟨w.heap.size + 1, 1, none⟩) (show w.heap.size + 1 < wb.heap.size by omega)).trans r1
          clear y0 y1 z0 z1 HV1
          refine hK.out _ _ ⟨kp0_28, kp1_28, kr0_28, kr1_28⟩ (fun hS => ?_)
          clear hK
          try simp only [Act.put, List.setIfInBounds_toArray, List.set_cons_zero, List.set_cons_succ]
          have HEE := Lib.hid HE
          clear hm1 hb1w HE
          refine wpAnyH_done (by kernel_rfl) ?_ _
          go_wp2_with fail
          go_meet
          exact ⟨_, _, _, _, _, _, _, _, _, _, rfl, rfl, HEE.out⟩
    · skip
      go_simp
      obtain ⟨W29, hw29⟩ : ∃ W, W = (wb.alloc (.cells #[.slice none 0 0, .slice none 0 0] 34)).drew := ⟨_, rfl⟩
      have hn29 : W29.heap[wb.heap.size]? = some (.cells #[.slice none 0 0, .slice none 0 0] 34) := by rw [hw29]; exact heap_alloc_new _ _
      have hb29 : Below wb.heap.size wb W29 := by rw [hw29]; exact ((Below.refl _ _).alloc (Nat.le_refl _) _).drew
      rw [← hw29]
      clear hw29
      have HT29 := TwS.al0 (l1 := l1) (l2 := l2) (l1' := l1') (l2' := l2') (p := P) (p' := Q) hn29 hb29
      clear hb29 hn29
      have kp0_29 := (HT29.b.cell (p := ⟨w.heap.size, 0, none⟩) (show w.heap.size < wb.heap.size by omega)).trans p0
      have kp1_29 := (HT29.b.cell (p := ⟨w.heap.size, 1, none⟩) (show w.heap.size < wb.heap.size by omega)).trans p1
      have kr0_29 := (HT29.b.cell (p := ⟨w.heap.size + 1, 0, none⟩) (show w.heap.size + 1 < wb.heap.size by omega)).trans r0
      have kr1_29 := (HT29.b.cell (p := ⟨w.heap.size + 1, 1, none⟩) (show w.heap.size + 1 < wb.heap.size by omega)).trans r1
      have YHT29 := Lib.hid HT29
      clear HT29
      refine hK.out _ _ ⟨kp0_29, kp1_29, kr0_29, kr1_29⟩ (fun hS => ?_)
      clear hK
      try simp only [Act.put, List.setIfInBounds_toArray, List.set_cons_zero, List.set_cons_succ]
      refine wpAnyH_ready (rs := [1, 5]) (by kernel_rfl) (by simp) ?_
      refine (allReadyH_consD (i := 1) rfl (fun K hK => ?_) (allReadyH_consD (i := 5) rfl (fun K hK => ?_) AllReadyH.nil))
      · skip
        go_simp
        refine Calls.mono (HN1.out _ YHT29.out.b) ?_
        rintro e W30 ⟨u1, u2, rfl, ho1, ho2, hb30⟩
        obtain ⟨A6, xA6, rfl, -⟩ := own_sl ho1
        obtain ⟨A7, xA7, rfl, -⟩ := own_sl ho2
        have HT30 := YHT29.out.word hb30 ho1 ho2
        clear ho1 ho2 hb30
        have kp0_30 := (HT30.b.cell (p := ⟨w.heap.size, 0, none⟩) (show w.heap.size < wb.heap.size by omega)).trans p0
        have kp1_30 := (HT30.b.cell (p := ⟨w.heap.size, 1, none⟩) (show w.heap.size < wb.heap.size by omega)).trans p1
        have kr0_30 := (HT30.b.cell (p := ⟨w.heap.size + 1, 0, none⟩) (show w.heap.size + 1 < wb.heap.size by omega)).trans r0
        have kr1_30 := (HT30.b.cell (p := ⟨w.heap.size + 1, 1, none⟩) (show w.heap.size + 1 < wb.heap.size by omega)).trans r1
        have YHT30 := Lib.hid HT30
        clear HT30
        go_wp2_with fail
        refine hK.out _ _ ⟨kp0_30, kp1_30, kr0_30, kr1_30⟩ (fun hS => ?_)
        clear hK
        try simp only [Act.put, List.setIfInBounds_toArray, List.set_cons_zero, List.set_cons_succ]
        refine wpAnyH_ready (rs := [3, 5]) (by kernel_rfl) (by simp) ?_
        refine (allReadyH_consD (i := 3) rfl (fun K hK => ?_) (allReadyH_consD (i := 5) rfl (fun K hK => ?_) AllReadyH.nil))
        · skip
          go_simp
          refine Calls.mono (HN2.out _ YHT30.out.b) ?_
          rintro e W31 ⟨u1, u2, rfl, ho1, ho2, hb31⟩
          obtain ⟨D6, xD6, rfl, -⟩ := own_sl ho1
          obtain ⟨D7, xD7, rfl, -⟩ := own_sl ho2
          have HT31 := YHT30.out.word' hb31 ho1 ho2
          clear ho1 ho2 hb31
          have kp0_31 := (HT31.b.cell (p := ⟨w.heap.size, 0, none⟩) (show w.heap.size < wb.heap.size by omega)).trans p0
          have kp1_31 := (HT31.b.cell (p := ⟨w.heap.size, 1, none⟩) (show w.heap.size < wb.heap.size by omega)).trans p1
          have kr0_31 := (HT31.b.cell (p := ⟨w.heap.size + 1, 0, none⟩) (show w.heap.size + 1 < wb.heap.size by omega)).trans r0
          have kr1_31 := (HT31.b.cell (p := ⟨w.heap.size + 1, 1, none⟩) (show w.heap.size + 1 < wb.heap.size by omega)).trans r1
          have YHT31 := Lib.hid HT31
          clear HT31
          go_wp2_with fail
          refine hK.out _ _ ⟨kp0_31, kp1_31, kr0_31, kr1_31⟩ (fun hS => ?_)
          clear hK
          try simp only [Act.put, List.setIfInBounds_toArray, List.set_cons_zero, List.set_cons_succ]
          refine wpAnyH_oneD (i := 5) rfl (by kernel_rfl) (fun K hK => ?_)
          go_simp
          obtain ⟨W32, hw32⟩ : ∃ W, W = W31.alloc (.cells #[.slice none 0 0, .slice none 0 0] 34) := ⟨_, rfl⟩
          have hn32 : W32.heap[W31.heap.size]? = some (.cells #[.slice none 0 0, .slice none 0 0] 34) := by rw [hw32]; exact heap_alloc_new _ _
          have hb32 : Below W31.heap.size W31 W32 := by rw [hw32]; exact (Below.refl _ _).alloc (Nat.le_refl _) _
          rw [← hw32]
          clear hw32
          have HT32 := YHT31.out.al' hn32 hb32
          clear hb32 hn32
          have kp0_32 := (HT32.b.cell (p := ⟨w.heap.size, 0, none⟩) (show w.heap.size < wb.heap.size by omega)).trans p0
          have kp1_32 := (HT32.b.cell (p := ⟨w.heap.size, 1, none⟩) (show w.heap.size < wb.heap.size by omega)).trans p1
          have kr0_32 := (HT32.b.cell (p := ⟨w.heap.size + 1, 0, none⟩) (show w.heap.size + 1 < wb.heap.size by omega)).trans r0
          have kr1_32 := (HT32.b.cell (p := ⟨w.heap.size + 1, 1, none⟩) (show w.heap.size + 1 < wb.heap.size by omega)).trans r1
          have YHT32 := Lib.hid HT32
          clear HT32
          refine hK.out _ _ ⟨kp0_32, kp1_32, kr0_32, kr1_32⟩ (fun hS => ?_)
          clear hK
          try simp only [Act.put, List.setIfInBounds_toArray, List.set_cons_zero, List.set_cons_succ]
          refine wpAnyH_oneD (i := 6) rfl (by kernel_rfl) (fun K hK => ?_)
          obtain ⟨⟨y0, y1⟩, ⟨z0, z1⟩⟩ := blk2 (YHT32.out.blk _ rfl).1
          go_simp
          obtain ⟨V1, hV1⟩ : ∃ W, W = (W32.setCell ⟨wb.heap.size, 0, none⟩ (.slice A6 l1 xA6)).setCell ⟨wb.heap.size, 1, none⟩ (.slice A7 l2 xA7) := ⟨_, rfl⟩
          rw [← hV1]
          obtain ⟨hm1, hb1w⟩ := YHT32.out.mid hV1
          have HV1 := Lib.hid hV1
          clear hV1
          have kp0_33 := (hb1w.cell (p := ⟨w.heap.size, 0, none⟩) (show w.heap.size < wb.heap.size by omega)).trans p0
          have kp1_33 := (hb1w.cell (p := ⟨w.heap.size, 1, none⟩) (show w.heap.size < wb.heap.size by omega)).trans p1
          have kr0_33 := (hb1w.cell (p := ⟨w.heap.size + 1, 0, none⟩) (show w.heap.size + 1 < wb.heap.size by omega)).trans r0
          have kr1_33 := (hb1w.cell (p := ⟨w.heap.size + 1, 1, none⟩) (show w.heap.size + 1 < wb.heap.size by omega)).trans r1
          clear y0 y1 z0 z1
          refine hK.out _ _ ⟨kp0_33, kp1_33, kr0_33, kr1_33⟩ (fun hS => ?_)
          clear hK
          try simp only [Act.put, List.setIfInBounds_toArray, List.set_cons_zero, List.set_cons_succ]
          refine wpAnyH_oneD (i := 7) rfl (by kernel_rfl) (fun K hK => ?_)
          obtain ⟨⟨y0, y1⟩, ⟨z0, z1⟩⟩ := blk2 hm1
          go_simp
          obtain ⟨V2, hV2⟩ : ∃ W, W = (V1.setCell ⟨W31.heap.size, 0, none⟩ (.slice D6 l1' xD6)).setCell ⟨W31.heap.size, 1, none⟩ (.slice D7 l2' xD7) := ⟨_, rfl⟩
          rw [← hV2]
          have HE := YHT32.out.fin HV1.out hV2
          clear hV2
          have kp0_34 := (HE.b.cell (p := ⟨w.heap.size, 0, none⟩) (show w.heap.size < wb.heap.size by omega)).trans p0
          have kp1_34 := (HE.b.cell (p := ⟨w.heap.size, 1, none⟩) (show w.heap.size < wb.heap.size by omega)).trans p1
          have kr0_34 := (HE.b.cell (p := ⟨w.heap.size + 1, 0, none⟩) (show w.heap.size + 1 < wb.heap.size by omega)).trans r0
          have kr1_34 := (HE.b.cell (p := ⟨w.heap.size + 1, 1, none⟩) (show w.heap.size + 1 < wb.heap.size by omega)).trans r1
          clear y0 y1 z0 z1 HV1
          refine hK.out _ _ ⟨kp0_34, kp1_34, kr0_34, kr1_34⟩ (fun hS => ?_)
          clear hK
          try simp only [Act.put, List.setIfInBounds_toArray, List.set_cons_zero, List.set_cons_succ]
          have HEE := Lib.hid HE
          clear hm1 hb1w HE
          refine wpAnyH_done (by kernel_rfl) ?_ _
          go_wp2_with fail
          go_meet
          exact ⟨_, _, _, _, _, _, _, _, _, _, rfl, rfl, HEE.out⟩
        · skip
          go_simp
          obtain ⟨W35, hw35⟩ : ∃ W, W = W30.alloc (.cells #[.slice none 0 0, .slice none 0 0] 34) := ⟨_, rfl⟩
          have hn35 : W35.heap[W30.heap.size]? = some (.cells #[.slice none 0 0, .slice none 0 0] 34) := by rw [hw35]; exact heap_alloc_new _ _
          have hb35 : Below W30.heap.size W30 W35 := by rw [hw35]; exact (Below.refl _ _).alloc (Nat.le_refl _) _
          rw [← hw35]
          clear hw35
          have HT35 := YHT30.out.al' hn35 hb35
          clear hb35 hn35
          have kp0_35 := (HT35.b.cell (p := ⟨w.heap.size, 0, none⟩) (show w.heap.size < wb.heap.size by omega)).trans p0
          have kp1_35 := (HT35.b.cell (p := ⟨w.heap.size, 1, none⟩) (show w.heap.size < wb.heap.size by omega)).trans p1
          have kr0_35 := (HT35.b.cell (p := ⟨w.heap.size + 1, 0, none⟩) (show w.heap.size + 1 < wb.heap.size by omega)).trans r0
          have kr1_35 := (HT35.b.cell (p := ⟨w.heap.size + 1, 1, none⟩) (show w.heap.size + 1 < wb.heap.size by omega)).trans r1
          have YHT35 := Lib.hid HT35
          clear HT35
          refine hK.out _ _ ⟨kp0_35, kp1_35, kr0_35, kr1_35⟩ (fun hS => ?_)
          clear hK
          try simp only [Act.put, List.setIfInBounds_toArray, List.set_cons_zero, List.set_cons_succ]
          refine wpAnyH_oneD (i := 3) rfl (by kernel_rfl) (fun K hK => ?_)
          go_simp
          refine Calls.mono (HN2.out _ YHT35.out.b) ?_
          rintro e W36 ⟨u1, u2, rfl, ho1, ho2, hb36⟩
          obtain ⟨D6, xD6, rfl, -⟩ := own_sl ho1
          obtain ⟨D7, xD7, rfl, -⟩ := own_sl ho2
          have HT36 := YHT35.out.word' hb36 ho1 ho2
          clear ho1 ho2 hb36
          have kp0_36 := (HT36.b.cell (p := ⟨w.heap.size, 0, none⟩) (show w.heap.size < wb.heap.size by omega)).trans p0
          have kp1_36 := (HT36.b.cell (p := ⟨w.heap.size, 1, none⟩) (show w.heap.size < wb.heap.size by omega)).trans p1
          have kr0_36 := (HT36.b.cell (p := ⟨w.heap.size + 1, 0, none⟩) (show w.heap.size + 1 < wb.heap.size by omega)).trans r0
          have kr1_36 := (HT36.b.cell (p := ⟨w.heap.size + 1, 1, none⟩) (show w.heap.size + 1 < wb.heap.size by omega)).trans r1
          have YHT36 := Lib.hid HT36
          clear HT36
          go_wp2_with fail
          refine hK.out _ _ ⟨kp0_36, kp1_36, kr0_36, kr1_36⟩ (fun hS => ?_)
          clear hK
          try simp only [Act.put, List.setIfInBounds_toArray, List.set_cons_zero, List.set_cons_succ]
          refine wpAnyH_oneD (i := 6) rfl (by kernel_rfl) (fun K hK => ?_)
          obtain ⟨⟨y0, y1⟩, ⟨z0, z1⟩⟩ := blk2 (YHT36.out.blk _ rfl).1
          go_simp
          obtain ⟨V1, hV1⟩ : ∃ W, W = (W36.setCell ⟨wb.heap.size, 0, none⟩ (.slice A6 l1 xA6)).setCell ⟨wb.heap.size, 1, none⟩ (.slice A7 l2 xA7) := ⟨_, rfl⟩
          rw [← hV1]
          obtain ⟨hm1, hb1w⟩ := YHT36.out.mid hV1
          have HV1 := Lib.hid hV1
          clear hV1
          have kp0_37 := (hb1w.cell (p := ⟨w.heap.size, 0, none⟩) (show w.heap.size < wb.heap.size by omega)).trans p0
          have kp1_37 := (hb1w.cell (p := ⟨w.heap.size, 1, none⟩) (show w.heap.size < wb.heap.size by omega)).trans p1
          have kr0_37 := (hb1w.cell (p := ⟨w.heap.size + 1, 0, none⟩) (show w.heap.size + 1 < wb.heap.size by omega)).trans r0
          have kr1_37 := (hb1w.cell (p := ⟨w.heap.size + 1, 1, none⟩) (show w.heap.size + 1 < wb.heap.size by omega)).trans r1
          clear y0 y1 z0 z1
          refine hK.out _ _ ⟨kp0_37, kp1_37, kr0_37, kr1_37⟩ (fun hS => ?_)
          clear hK
          try simp only [Act.put, List.setIfInBounds_toArray, List.set_cons_zero, List.set_cons_succ]
          refine wpAnyH_oneD (i := 7) rfl (by kernel_rfl) (fun K hK => ?_)
          obtain ⟨⟨y0, y1⟩, ⟨z0, z1⟩⟩ := blk2 hm1
          go_simp
          obtain ⟨V2, hV2⟩ : ∃ W, W = (V1.setCell ⟨W30.heap.size, 0, none⟩ (.slice D6 l1' xD6)).setCell ⟨W30.heap.size, 1, none⟩ (.slice D7 l2' xD7) := ⟨_, rfl⟩
          rw [← hV2]
          have HE := YHT36.out.fin HV1.out hV2
          clear hV2
          have kp0_38 := (HE.b.cell (p := ⟨w.heap.size, 0, none⟩) (show w.heap.size < wb.heap.size by omega)).trans p0
          have kp1_38 := (HE.b.cell (p := ⟨w.heap.size, 1, none⟩) (show w.heap.size < wb.heap.size by omega)).trans p1
          have kr0_38 := (HE.b.cell (p := ⟨w.heap.size + 1, 0, none⟩) (show w.heap.size + 1 < wb.heap.size by omega)).trans r0
          have kr1_38 := (HE.b.cell (p := ⟨w.heap.size + 1, 1, none⟩) (show w.heap.size + 1 < wb.heap.size by omega)).trans r1
          clear y0 y1 z0 z1 HV1
          refine hK.out _ _ ⟨kp0_38, kp1_38, kr0_38, kr1_38⟩ (fun hS => ?_)
          clear hK
          try simp only [Act.put, List.setIfInBounds_toArray, List.set_cons_zero, List.set_cons_succ]
          have HEE := Lib.hid HE
          clear hm1 hb1w HE
          refine wpAnyH_done (by kernel_rfl) ?_ _
          go_wp2_with fail
          go_meet
          exact ⟨_, _, _, _, _, _, _, _, _, _, rfl, rfl, HEE.out⟩
      · skip
        go_simp
        obtain ⟨W39, hw39⟩ : ∃ W, W = W29.alloc (.cells #[.slice none 0 0, .slice none 0 0] 34) := ⟨_, rfl⟩
        have hn39 : W39.heap[W29.heap.size]? = some (.cells #[.slice none 0 0, .slice none 0 0] 34) := by rw [hw39]; exact heap_alloc_new _ _
        have hb39 : Below W29.heap.size W29 W39 := by rw [hw39]; exact (Below.refl _ _).alloc (Nat.le_refl _) _
        rw [← hw39]
        clear hw39
        have HT39 := YHT29.out.al' hn39 hb39
        clear hb39 hn39
        have kp0_39 := (HT39.b.cell (p := ⟨w.heap.size, 0, none⟩) (show w.heap.size < wb.heap.size by omega)).trans p0
        have kp1_39 := (HT39.b.cell (p := ⟨w.heap.size, 1, none⟩) (show w.heap.size < wb.heap.size by omega)).trans p1
        have kr0_39 := (HT39.b.cell (p := ⟨w.heap.size + 1, 0, none⟩) (show w.heap.size + 1 < wb.heap.size by omega)).trans r0
        have kr1_39 := (HT39.b.cell (p := ⟨w.heap.size + 1, 1, none⟩) (show w.heap.size + 1 < wb.heap.size by omega)).trans r1
        have YHT39 := Lib.hid HT39
        clear HT39
        refine hK.out _ _ ⟨kp0_39, kp1_39, kr0_39, kr1_39⟩ (fun hS => ?_)
        clear hK
        try simp only [Act.put, List.setIfInBounds_toArray, List.set_cons_zero, List.set_cons_succ]
        refine wpAnyH_oneD (i := 1) rfl (by kernel_rfl) (fun K hK => ?_)
        go_simp
        refine Calls.mono (HN1.out _ YHT39.out.b) ?_
        rintro e W40 ⟨u1, u2, rfl, ho1, ho2, hb40⟩
        obtain ⟨A6, xA6, rfl, -⟩ := own_sl ho1
        obtain ⟨A7, xA7, rfl, -⟩ := own_sl ho2
        have HT40 := YHT39.out.word hb40 ho1 ho2
        clear ho1 ho2 hb40
        have kp0_40 := (HT40.b.cell (p := ⟨w.heap.size, 0, none⟩) (show w.heap.size < wb.heap.size by omega)).trans p0
        have kp1_40 := (HT40.b.cell (p := ⟨w.heap.size, 1, none⟩) (show w.heap.size < wb.heap.size by omega)).trans p1
        have kr0_40 := (HT40.b.cell (p := ⟨w.heap.size + 1, 0, none⟩) (show w.heap.size + 1 < wb.heap.size by omega)).trans r0
        have kr1_40 := (HT40.b.cell (p := ⟨w.heap.size + 1, 1, none⟩) (show w.heap.size + 1 < wb.heap.size by omega)).trans r1
        have YHT40 := Lib.hid HT40
        clear HT40
        go_wp2_with fail
        refine hK.out _ _ ⟨kp0_40, kp1_40, kr0_40, kr1_40⟩ (fun hS => ?_)
        clear hK
        try simp only [Act.put, List.setIfInBounds_toArray, List.set_cons_zero, List.set_cons_succ]
        refine wpAnyH_oneD (i := 3) rfl (by kernel_rfl) (fun K hK => ?_)
        go_simp
        refine Calls.mono (HN2.out _ YHT40.out.b) ?_
        rintro e W41 ⟨u1, u2, rfl, ho1, ho2, hb41⟩
        obtain ⟨D6, xD6, rfl, -⟩ := own_sl ho1
        obtain ⟨D7, xD7, rfl, -⟩ := own_sl ho2
        have HT41 := YHT40.out.word' hb41 ho1 ho2
        clear ho1 ho2 hb41
        have kp0_41 := (HT41.b.cell (p := ⟨w.heap.size, 0, none⟩) (show w.heap.size < wb.heap.size by omega)).trans p0
        have kp1_41 := (HT41.b.cell (p := ⟨w.heap.size, 1, none⟩) (show w.heap.size < wb.heap.size by omega)).trans p1
        have kr0_41 := (HT41.b.cell (p := ⟨w.heap.size + 1, 0, none⟩) (show w.heap.size + 1 < wb.heap.size by omega)).trans r0
        have kr1_41 := (HT41.b.cell (p := ⟨w.heap.size + 1, 1, none⟩) (show w.heap.size + 1 < wb.heap.size by omega)).trans r1
        have YHT41 := Lib.hid HT41
        clear HT41
        go_wp2_with fail
        refine hK.out _ _ ⟨kp0_41, kp1_41, kr0_41, kr1_41⟩ (fun hS => ?_)
        clear hK
        try simp only [Act.put, List.setIfInBounds_toArray, List.set_cons_zero, List.set_cons_succ]
        refine wpAnyH_oneD (i := 6) rfl (by kernel_rfl) (fun K hK => ?_)
        obtain ⟨⟨y0, y1⟩, ⟨z0, z1⟩⟩ := blk2 (YHT41.out.blk _ rfl).1
        go_simp
        obtain ⟨V1, hV1⟩ : ∃ W, W = (W41.setCell ⟨wb.heap.size, 0, none⟩ (.slice A6 l1 xA6)).setCell ⟨wb.heap.size, 1, none⟩ (.slice A7 l2 xA7) := ⟨_, rfl⟩
        rw [← hV1]
        obtain ⟨hm1, hb1w⟩ := YHT41.out.mid hV1
        have HV1 := Lib.hid hV1
        clear hV1
        have kp0_42 := (hb1w.cell (p := ⟨w.heap.size, 0, none⟩) (show w.heap.size < wb.heap.size by omega)).trans p0
        have kp1_42 := (hb1w.cell (p := ⟨w.heap.size, 1, none⟩) (show w.heap.size < wb.heap.size by omega)).trans p1
        have kr0_42 := (hb1w.cell (p := ⟨w.heap.size + 1, 0, none⟩) (show w.heap.size + 1 < wb.heap.size by omega)).trans r0
        have kr1_42 := (hb1w.cell (p := ⟨w.heap.size + 1, 1, none⟩) (show w.heap.size + 1 < wb.heap.size by omega)).trans r1
        clear y0 y1 z0 z1
        refine hK.out _ _ ⟨kp0_42, kp1_42, kr0_42, kr1_42⟩ (fun hS => ?_)
        clear hK
        try simp only [Act.put, List.setIfInBounds_toArray, List.set_cons_zero, List.set_cons_succ]
        refine wpAnyH_oneD (i := 7) rfl (by kernel_rfl) (fun K hK => ?_)
        obtain ⟨⟨y0, y1⟩, ⟨z0, z1⟩⟩ := blk2 hm1
        go_simp
        obtain ⟨V2, hV2⟩ : ∃ W, W = (V1.setCell ⟨W29.heap.size, 0, none⟩ (.slice D6 l1' xD6)).setCell ⟨W29.heap.size, 1, none⟩ (.slice D7 l2' xD7) := ⟨_, rfl⟩
        rw [← hV2]
        have HE := YHT41.out.fin HV1.out hV2
        clear hV2
        have kp0_43 := (HE.b.cell (p := ⟨w.heap.size, 0, none⟩) (show w.heap.size < wb.heap.size by omega)).trans p0
        have kp1_43 := (HE.b.cell (p := ⟨w.heap.size, 1, none⟩) (show w.heap.size < wb.heap.size by omega)).trans p1
        have kr0_43 := (HE.b.cell (p := ⟨w.heap.size + 1, 0, none⟩) (show w.heap.size + 1 < wb.heap.size by omega)).trans r0
        have kr1_43 := (HE.b.cell (p := ⟨w.heap.size + 1, 1, none⟩) (show w.heap.size + 1 < wb.heap.size by omega)).trans r1
        clear y0 y1 z0 z1 HV1
        refine hK.out _ _ ⟨kp0_43, kp1_43, kr0_43, kr1_43⟩ (fun hS => ?_)
        clear hK
        try simp only [Act.put, List.setIfInBounds_toArray, List.set_cons_zero, List.set_cons_succ]
        have HEE := Lib.hid HE
        clear hm1 hb1w HE
        refine wpAnyH_done (by kernel_rfl) ?_ _
        go_wp2_with fail
        go_meet
        exact ⟨_, _, _, _, _, _, _, _, _, _, rfl, rfl, HEE.out⟩
    · skip
      go_simp
      obtain ⟨W44, hw44⟩ : ∃ W, W = (wb.alloc (.cells #[.slice none 0 0, .slice none 0 0] 34)).drew := ⟨_, rfl⟩
      have hn44 : W44.heap[wb.heap.size]? = some (.cells #[.slice none 0 0, .slice none 0 0] 34) := by rw [hw44]; exact heap_alloc_new _ _
      have hb44 : Below wb.heap.size wb W44 := by rw [hw44]; exact ((Below.refl _ _).alloc (Nat.le_refl _) _).drew
      rw [← hw44]
      clear hw44
      have HT44 := TwS.al0' (l1 := l1) (l2 := l2) (l1' := l1') (l2' := l2') (p := P) (p' := Q) hn44 hb44
      clear hb44 hn44
      have kp0_44 := (HT44.b.cell (p := ⟨w.heap.size, 0, none⟩) (show w.heap.size < wb.heap.size by omega)).trans p0
      have kp1_44 := (HT44.b.cell (p := ⟨w.heap.size, 1, none⟩) (show w.heap.size < wb.heap.size by omega)).trans p1
      have kr0_44 := (HT44.b.cell (p := ⟨w.heap.size + 1, 0, none⟩) (show w.heap.size + 1 < wb.heap.size by omega)).trans r0
      have kr1_44 := (HT44.b.cell (p := ⟨w.heap.size + 1, 1, none⟩) (show w.heap.size + 1 < wb.heap.size by omega)).trans r1
      have YHT44 := Lib.hid HT44
      clear HT44
      refine hK.out _ _ ⟨kp0_44, kp1_44, kr0_44, kr1_44⟩ (fun hS => ?_)
      clear hK
      try simp only [Act.put, List.setIfInBounds_toArray, List.set_cons_zero, List.set_cons_succ]
      refine wpAnyH_ready (rs := [1, 4]) (by kernel_rfl) (by simp) ?_
      refine (allReadyH_consD (i := 1) rfl (fun K hK => ?_) (allReadyH_consD (i := 4) rfl (fun K hK => ?_) AllReadyH.nil))
      · skip
        go_simp
        refine Calls.mono (HN1.out _ YHT44.out.b) ?_
        rintro e W45 ⟨u1, u2, rfl, ho1, ho2, hb45⟩
        obtain ⟨A6, xA6, rfl, -⟩ := own_sl ho1
        obtain ⟨A7, xA7, rfl, -⟩ := own_sl ho2
        have HT45 := YHT44.out.word hb45 ho1 ho2
        clear ho1 ho2 hb45
        have kp0_45 := (HT45.b.cell (p := ⟨w.heap.size, 0, none⟩) (show w.heap.size < wb.heap.size by omega)).trans p0
        have kp1_45 := (HT45.b.cell (p := ⟨w.heap.size, 1, none⟩) (show w.heap.size < wb.heap.size by omega)).trans p1
        have kr0_45 := (HT45.b.cell (p := ⟨w.heap.size + 1, 0, none⟩) (show w.heap.size + 1 < wb.heap.size by omega)).trans r0
        have kr1_45 := (HT45.b.cell (p := ⟨w.heap.size + 1, 1, none⟩) (show w.heap.size + 1 < wb.heap.size by omega)).trans r1
        have YHT45 := Lib.hid HT45
        clear HT45
        go_wp2_with fail
        refine hK.out _ _ ⟨kp0_45, kp1_45, kr0_45, kr1_45⟩ (fun hS => ?_)
        clear hK
        try simp only [Act.put, List.setIfInBounds_toArray, List.set_cons_zero, List.set_cons_succ]
        refine wpAnyH_ready (rs := [3, 4]) (by kernel_rfl) (by simp) ?_
        refine (allReadyH_consD (i := 3) rfl (fun K hK => ?_) (allReadyH_consD (i := 4) rfl (fun K hK => ?_) AllReadyH.nil))
        · skip
          go_simp
          refine Calls.mono (HN2.out _ YHT45.out.b) ?_
          rintro e W46 ⟨u1, u2, rfl, ho1, ho2, hb46⟩
          obtain ⟨D6, xD6, rfl, -⟩ := own_sl ho1
          obtain ⟨D7, xD7, rfl, -⟩ := own_sl ho2
          have HT46 := YHT45.out.word' hb46 ho1 ho2
          clear ho1 ho2 hb46
          have kp0_46 := (HT46.b.cell (p := ⟨w.heap.size, 0, none⟩) (show w.heap.size < wb.heap.size by omega)).trans p0
          have kp1_46 := (HT46.b.cell (p := ⟨w.heap.size, 1, none⟩) (show w.heap.size < wb.heap.size by omega)).trans p1
          have kr0_46 := (HT46.b.cell (p := ⟨w.heap.size + 1, 0, none⟩) (show w.heap.size + 1 < wb.heap.size by omega)).trans r0
          have kr1_46 := (HT46.b.cell (p := ⟨w.heap.size + 1, 1, none⟩) (show w.heap.size + 1 < wb.heap.size by omega)).trans r1
          have YHT46 := Lib.hid HT46
          clear HT46
          go_wp2_with fail
          refine hK.out _ _ ⟨kp0_46, kp1_46, kr0_46, kr1_46⟩ (fun hS => ?_)
          clear hK
          try simp only [Act.put, List.setIfInBounds_toArray, List.set_cons_zero, List.set_cons_succ]
          refine wpAnyH_oneD (i := 4) rfl (by kernel_rfl) (fun K hK => ?_)
          go_simp
          obtain ⟨W47, hw47⟩ : ∃ W, W = W46.alloc (.cells #[.slice none 0 0, .slice none 0 0] 34) := ⟨_, rfl⟩
          have hn47 : W47.heap[W46.heap.size]? = some (.cells #[.slice none 0 0, .slice none 0 0] 34) := by rw [hw47]; exact heap_alloc_new _ _
          have hb47 : Below W46.heap.size W46 W47 := by rw [hw47]; exact (Below.refl _ _).alloc (Nat.le_refl _) _
          rw [← hw47]
          clear hw47
          have HT47 := YHT46.out.al hn47 hb47
          clear hb47 hn47
          have kp0_47 := (HT47.b.cell (p := ⟨w.heap.size, 0, none⟩) (show w.heap.size < wb.heap.size by omega)).trans p0
          have kp1_47 := (HT47.b.cell (p := ⟨w.heap.size, 1, none⟩) (show w.heap.size < wb.heap.size by omega)).trans p1
          have kr0_47 := (HT47.b.cell (p := ⟨w.heap.size + 1, 0, none⟩) (show w.heap.size + 1 < wb.heap.size by omega)).trans r0
          have kr1_47 := (HT47.b.cell (p := ⟨w.heap.size + 1, 1, none⟩) (show w.heap.size + 1 < wb.heap.size by omega)).trans r1
          have YHT47 := Lib.hid HT47
          clear HT47
          refine hK.out _ _ ⟨kp0_47, kp1_47, kr0_47, kr1_47⟩ (fun hS => ?_)
          clear hK
          try simp only [Act.put, List.setIfInBounds_toArray, List.set_cons_zero, List.set_cons_succ]
          refine wpAnyH_oneD (i := 6) rfl (by kernel_rfl) (fun K hK => ?_)
          obtain ⟨⟨y0, y1⟩, ⟨z0, z1⟩⟩ := blk2 (YHT47.out.blk _ rfl).1
          go_simp
          obtain ⟨V1, hV1⟩ : ∃ W, W = (W47.setCell ⟨W46.heap.size, 0, none⟩ (.slice A6 l1 xA6)).setCell ⟨W46.heap.size, 1, none⟩ (.slice A7 l2 xA7) := ⟨_, rfl⟩
          rw [← hV1]
          obtain ⟨hm1, hb1w⟩ := YHT47.out.mid hV1
          have HV1 := Lib.hid hV1
          clear hV1
          have kp0_48 := (hb1w.cell (p := ⟨w.heap.size, 0, none⟩) (show w.heap.size < wb.heap.size by omega)).trans p0
          have kp1_48 := (hb1w.cell (p := ⟨w.heap.size, 1, none⟩) (show w.heap.size < wb.heap.size by omega)).trans p1
          have kr0_48 := (hb1w.cell (p := ⟨w.heap.size + 1, 0, none⟩) (show w.heap.size + 1 < wb.heap.size by omega)).trans r0
          have kr1_48 := (hb1w.cell (p := ⟨w.heap.size + 1, 1, none⟩) (show w.heap.size + 1 < wb.heap.size by omega)).trans r1
          clear y0 y1 z0 z1
          refine hK.out _ _ ⟨kp0_48, kp1_48, kr0_48, kr1_48⟩ (fun hS => ?_)
          clear hK
          try simp only [Act.put, List.setIfInBounds_toArray, List.set_cons_zero, List.set_cons_succ]
          refine wpAnyH_oneD (i := 7) rfl (by kernel_rfl) (fun K hK => ?_)
          obtain ⟨⟨y0, y1⟩, ⟨z0, z1⟩⟩ := blk2 hm1
          go_simp
          obtain ⟨V2, hV2⟩ : ∃ W, W = (V1.setCell ⟨wb.heap.size, 0, none⟩ (.slice D6 l1' xD6)).setCell ⟨wb.heap.size, 1, none⟩ (.slice D7 l2' xD7) := ⟨_, rfl⟩
          rw [← hV2]
          have HE := YHT47.out.fin HV1.out hV2
          clear hV2
          have kp0_49 := (HE.b.cell (p := ⟨w.heap.size, 0, none⟩) (show w.heap.size < wb.heap.size by omega)).trans p0
          have kp1_49 := (HE.b.cell (p := ⟨w.heap.size, 1, none⟩) (show w.heap.size < wb.heap.size by omega)).trans p1
          have kr0_49 := (HE.b.cell (p := ⟨w.heap.size + 1, 0, none⟩) (show w.heap.size + 1 < wb.heap.size by omega)).trans r0
          have kr1_49 := (HE.b.cell (p := ⟨w.heap.size + 1, 1, none⟩) (show w.heap.size + 1 < wb.heap.size by omega)).trans r1
          clear y0 y1 z0 z1 HV1
          refine hK.out _ _ ⟨kp0_49, kp1_49, kr0_49, kr1_49⟩ (fun hS => ?_)
          clear hK
          try simp only [Act.put, List.setIfInBounds_toArray, List.set_cons_zero, List.set_cons_succ]
          have HEE := Lib.hid HE
          clear hm1 hb1w HE
          refine wpAnyH_done (by kernel_rfl) ?_ _
          go_wp2_with fail
          go_meet
          exact ⟨_, _, _, _, _, _, _, _, _, _, rfl, rfl, HEE.out⟩
        · skip
          go_simp
          obtain ⟨W50, hw50⟩ : ∃ W, W = W45.alloc (.cells #[.slice none 0 0, .slice none 0 0] 34) := ⟨_, rfl⟩
          have hn50 : W50.heap[W45.heap.size]? = some (.cells #[.slice none 0 0, .slice none 0 0] 34) := by rw [hw50]; exact heap_alloc_new _ _
          have hb50 : Below W45.heap.size W45 W50 := by rw [hw50]; exact (Below.refl _ _).alloc (Nat.le_refl _) _
          rw [← hw50]
          clear hw50
          have HT50 := YHT45.out.al hn50 hb50
          clear hb50 hn50
          have kp0_50 := (HT50.b.cell (p := ⟨w.heap.size, 0, none⟩) (show w.heap.size < wb.heap.size by omega)).trans p0
          have kp1_50 := (HT50.b.cell (p := ⟨w.heap.size, 1, none⟩) (show w.heap.size < wb.heap.size by omega)).trans p1
          have kr0_50 := (HT50.b.cell (p := ⟨w.heap.size + 1, 0, none⟩) (show w.heap.size + 1 < wb.heap.size by omega)).trans r0
          have kr1_50 := (HT50.b.cell (p := ⟨w.heap.size + 1, 1, none⟩) (show w.heap.size + 1 < wb.heap.size by omega)).trans r1
          have YHT50 := Lib.hid HT50
          clear HT50
          refine hK.out _ _ ⟨kp0_50, kp1_50, kr0_50, kr1_50⟩ (fun hS => ?_)
          clear hK
          try simp only [Act.put, List.setIfInBounds_toArray, List.set_cons_zero, List.set_cons_succ]
          refine wpAnyH_oneD (i := 3) rfl (by kernel_rfl) (fun K hK => ?_)
          go_simp
          refine Calls.mono (HN2.out _ YHT50.out.b) ?_
          rintro e W51 ⟨u1, u2, rfl, ho1, ho2, hb51⟩
          obtain ⟨D6, xD6, rfl, -⟩ := own_sl ho1
          obtain ⟨D7, xD7, rfl, -⟩ := own_sl ho2
          have HT51 := YHT50.out.word' hb51 ho1 ho2
          clear ho1 ho2 hb51
          have kp0_51 := (HT51.b.cell (p := ⟨w.heap.size, 0, none⟩) (show w.heap.size < wb.heap.size by omega)).trans p0
          have kp1_51 := (HT51.b.cell (p := ⟨w.heap.size, 1, none⟩) (show w.heap.size < wb.heap.size by omega)).trans p1
          have kr0_51 := (HT51.b.cell (p := ⟨w.heap.size + 1, 0, none⟩) (show w.heap.size + 1 < wb.heap.size by omega)).trans r0
          have kr1_51 := (HT51.b.cell (p := ⟨w.heap.size + 1, 1, none⟩) (show w.heap.size + 1 < wb.heap.size by omega)).trans r1
          have YHT51 := Lib.hid HT51
          clear HT51
          go_wp2_with fail
          refine hK.out _ _ ⟨kp0_51, kp1_51, kr0_51, kr1_51⟩ (fun hS => ?_)
          clear hK
          try simp only [Act.put, List.setIfInBounds_toArray, List.set_cons_zero, List.set_cons_succ]
          refine wpAnyH_oneD (i := 6) rfl (by kernel_rfl) (fun K hK => ?_)
          obtain ⟨⟨y0, y1⟩, ⟨z0, z1⟩⟩ := blk2 (YHT51.out.blk _ rfl).1
          go_simp
          obtain ⟨V1, hV1⟩ : ∃ W, W = (W51.setCell ⟨W45.heap.size, 0, none⟩ (.slice A6 l1 xA6)).setCell ⟨W45.heap.size, 1, none⟩ (.slice A7 l2 xA7) := ⟨_, rfl⟩
          rw [← hV1]
          obtain ⟨hm1, hb1w⟩ := YHT51.out.mid hV1
          have HV1 := Lib.hid hV1
          clear hV1
          have kp0_52 := (hb1w.cell (p := ⟨w.heap.size, 0, none⟩) (show w.heap.size < wb.heap.size by omega)).trans p0
          have kp1_52 := (hb1w.cell (p := ⟨w.heap.size, 1, none⟩) (show w.heap.size < wb.heap.size by omega)).trans p1
          have kr0_52 := (hb1w.cell (p := ⟨w.heap.size + 1, 0, none⟩) (show w.heap.size + 1 < wb.heap.size by omega)).trans r0
          have kr1_52 := (hb1w.cell (p := ⟨w.heap.size + 1, 1, none⟩) (show w.heap.size + 1 < wb.heap.size by omega)).trans r1
          clear y0 y1 z0 z1
          refine hK.out _ _ ⟨kp0_52, kp1_52, kr0_52, kr1_52⟩ (fun hS => ?_)
          clear hK
          try simp only [Act.put, List.setIfInBounds_toArray, List.set_cons_zero, List.set_cons_succ]
          refine wpAnyH_oneD (i := 7) rfl (by kernel_rfl) (fun K hK => ?_)
          obtain ⟨⟨y0, y1⟩, ⟨z0, z1⟩⟩ := blk2 hm1
          go_simp
          obtain ⟨V2, hV2⟩ : ∃ W, W = (V1.setCell ⟨wb.heap.size, 0, none⟩ (.slice D6 l1' xD6)).setCell ⟨wb.heap.size, 1, none⟩ (.slice D7 l2' xD7) := ⟨_, rfl⟩
          rw [← hV2]
          have HE := YHT51.out.fin HV1.out hV2
          clear hV2
          have kp0_53 := (HE.b.cell (p := ⟨w.heap.size, 0, none⟩) (show w.heap.size < wb.heap.size by omega)).trans p0
          have kp1_53 := (HE.b.cell (p := ⟨w.heap.size, 1, none⟩) (show w.heap.size < wb.heap.size by omega)).trans p1
          have kr0_53 := (HE.b.cell (p := ⟨w.heap.size + 1, 0, none⟩) (show w.heap.size + 1 < wb.heap.size by omega)).trans r0
          have kr1_53 := (HE.b.cell (p := ⟨w.heap.size + 1, 1, none⟩) (show w.heap.size + 1 < wb.heap.size by omega)).trans r1
          clear y0 y1 z0 z1 HV1
          refine hK.out _ _ ⟨kp0_53, kp1_53, kr0_53, kr1_53⟩ (fun hS => ?_)
          clear hK
          try simp only [Act.put, List.setIfInBounds_toArray, List.set_cons_zero, List.set_cons_succ]
          have HEE := Lib.hid HE
          clear hm1 hb1w HE
          refine wpAnyH_done (by kernel_rfl) ?_ _
          go_wp2_with fail
          go_meet
          exact ⟨_, _, _, _, _, _, _, _, _, _, rfl, rfl, HEE.out⟩
      · skip
        go_simp
        obtain ⟨W54, hw54⟩ : ∃ W, W = W44.alloc (.cells #[.slice none 0 0, .slice none 0 0] 34) := ⟨_, rfl⟩
        have hn54 : W54.heap[W44.heap.size]? = some (.cells #[.slice none 0 0, .slice none 0 0] 34) := by rw [hw54]; exact heap_alloc_new _ _
        have hb54 : Below W44.heap.size W44 W54 := by rw [hw54]; exact (Below.refl _ _).alloc (Nat.le_refl _) _
        rw [← hw54]
        clear hw54
        have HT54 := YHT44.out.al hn54 hb54
        clear hb54 hn54
        have kp0_54 := (HT54.b.cell (p := ⟨w.heap.size, 0, none⟩) (show w.heap.size < wb.heap.size by omega)).trans p0
        have kp1_54 := (HT54.b.cell (p := ⟨w.heap.size, 1, none⟩) (show w.heap.size < wb.heap.size by omega)).trans p1
        have kr0_54 := (HT54.b.cell (p := ⟨w.heap.size + 1, 0, none⟩) (show w.heap.size + 1 < wb.heap.size by omega)).trans r0
        have kr1_54 := (HT54.b.cell (p := ⟨w.heap.size + 1, 1, none⟩) (show w.heap.size + 1 < wb.heap.size by omega)).trans r1
        have YHT54 := Lib.hid HT54
        clear HT54
        refine hK.out _ _ ⟨kp0_54, kp1_54, kr0_54, kr1_54⟩ (fun hS => ?_)
        clear hK
        try simp only [Act.put, List.setIfInBounds_toArray, List.set_cons_zero, List.set_cons_succ]
        refine wpAnyH_oneD (i := 1) rfl (by kernel_rfl) (fun K hK => ?_)
        go_simp
        refine Calls.mono (HN1.out _ YHT54.out.b) ?_
        rintro e W55 ⟨u1, u2, rfl, ho1, ho2, hb55⟩
        obtain ⟨A6, xA6, rfl, -⟩ := own_sl ho1
        obtain ⟨A7, xA7, rfl, -⟩ := own_sl ho2
        have HT55 := YHT54.out.word hb55 ho1 ho2
        clear ho1 ho2 hb55
        have kp0_55 := (HT55.b.cell (p := ⟨w.heap.size, 0, none⟩) (show w.heap.size < wb.heap.size by omega)).trans p0
        have kp1_55 := (HT55.b.cell (p := ⟨w.heap.size, 1, none⟩) (show w.heap.size < wb.heap.size by omega)).trans p1
        have kr0_55 := (HT55.b.cell (p := ⟨w.heap.size + 1, 0, none⟩) (show w.heap.size + 1 < wb.heap.size by omega)).trans r0
        have kr1_55 := (HT55.b.cell (p := ⟨w.heap.size + 1, 1, none⟩) (show w.heap.size + 1 < wb.heap.size by omega)).trans r1
        have YHT55 := Lib.hid HT55
        clear HT55
        go_wp2_with fail
        refine hK.out _ _ ⟨kp0_55, kp1_55, kr0_55, kr1_55⟩ (fun hS => ?_)
        clear hK
        try simp only [Act.put, List.setIfInBounds_toArray, List.set_cons_zero, List.set_cons_succ]
        refine wpAnyH_oneD (i := 3) rfl (by kernel_rfl) (fun K hK => ?_)
        go_simp
        refine Calls.mono (HN2.out _ YHT55.out.b) ?_
        rintro e W56 ⟨u1, u2, rfl, ho1, ho2, hb56⟩
        obtain ⟨D6, xD6, rfl, -⟩ := own_sl ho1
        obtain ⟨D7, xD7, rfl, -⟩ := own_sl ho2
        have HT56 := YHT55.out.word' hb56 ho1 ho2
        clear ho1 ho2 hb56
        have kp0_56 := (HT56.b.cell (p := ⟨w.heap.size, 0, none⟩) (show w.heap.size < wb.heap.size by omega)).trans p0
        have kp1_56 := (HT56.b.cell (p := ⟨w.heap.size, 1, none⟩) (show w.heap.size < wb.heap.size by omega)).trans p1
        have kr0_56 := (HT56.b.cell (p := ⟨w.heap.size + 1, 0, none⟩) (show w.heap.size + 1 < wb.heap.size by omega)).trans r0
        have kr1_56 := (HT56.b.cell (p := ⟨w.heap.size + 1, 1, none⟩) (show w.heap.size + 1 < wb.heap.size by omega)).trans r1
        have YHT56 := Lib.hid HT56
        clear HT56
        go_wp2_with fail
        refine hK.out _ _ ⟨kp0_56, kp1_56, kr0_56, kr1_56⟩ (fun hS => ?_)
        clear hK
        try simp only [Act.put, List.setIfInBounds_toArray, List.set_cons_zero, List.set_cons_succ]
        refine wpAnyH_oneD (i := 6) rfl (by kernel_rfl) (fun K hK => ?_)
        obtain ⟨⟨y0, y1⟩, ⟨z0, z1⟩⟩ := blk2 (YHT56.out.blk _ rfl).1
        go_simp
        obtain ⟨V1, hV1⟩ : ∃ W, W = (W56.setCell ⟨W44.heap.size, 0, none⟩ (.slice A6 l1 xA6)).setCell ⟨W44.heap.size, 1, none⟩ (.slice A7 l2 xA7) := ⟨_, rfl⟩
        rw [← hV1]
        obtain ⟨hm1, hb1w⟩ := YHT56.out.mid hV1
        have HV1 := Lib.hid hV1
        clear hV1
        have kp0_57 := (hb1w.cell (p := ⟨w.heap.size, 0, none⟩) (show w.heap.size < wb.heap.size by omega)).trans p0
        have kp1_57 := (hb1w.cell (p := ⟨w.heap.size, 1, none⟩) (show w.heap.size < wb.heap.size by omega)).trans p1
        have kr0_57 := (hb1w.cell (p := ⟨w.heap.size + 1, 0, none⟩) (show w.heap.size + 1 < wb.heap.size by omega)).trans r0
        have kr1_57 := (hb1w.cell (p := ⟨w.heap.size + 1, 1, none⟩) (show w.heap.size + 1 < wb.heap.size by omega)).trans r1
        clear y0 y1 z0 z1
        refine hK.out _ _ ⟨kp0_57, kp1_57, kr0_57, kr1_57⟩ (fun hS => ?_)
        clear hK
        try simp only [Act.put, List.setIfInBounds_toArray, List.set_cons_zero, List.set_cons_succ]
        refine wpAnyH_oneD (i := 7) rfl (by kernel_rfl) (fun K hK => ?_)
        obtain ⟨⟨y0, y1⟩, ⟨z0, z1⟩⟩ := blk2 hm1
        go_simp
        obtain ⟨V2, hV2⟩ : ∃ W, W = (V1.setCell ⟨wb.heap.size, 0, none⟩ (.slice D6 l1' xD6)).setCell ⟨wb.heap.size, 1, none⟩ (.slice D7 l2' xD7) := ⟨_, rfl⟩
        rw [← hV2]
        have HE := YHT56.out.fin HV1.out hV2
        clear hV2
        have kp0_58 := (HE.b.cell (p := ⟨w.heap.size, 0, none⟩) (show w.heap.size < wb.heap.size by omega)).trans p0
        have kp1_58 := (HE.b.cell (p := ⟨w.heap.size, 1, none⟩) (show w.heap.size < wb.heap.size by omega)).trans p1
        have kr0_58 := (HE.b.cell (p := ⟨w.heap.size + 1, 0, none⟩) (show w.heap.size + 1 < wb.heap.size by omega)).trans r0
        have kr1_58 := (HE.b.cell (p := ⟨w.heap.size + 1, 1, none⟩) (show w.heap.size + 1 < wb.heap.size by omega)).trans r1
        clear y0 y1 z0 z1 HV1
        refine hK.out _ _ ⟨kp0_58, kp1_58, kr0_58, kr1_58⟩ (fun hS => ?_)
        clear hK
        try simp only [Act.put, List.setIfInBounds_toArray, List.set_cons_zero, List.set_cons_succ]
        have HEE := Lib.hid HE
        clear hm1 hb1w HE
        refine wpAnyH_done (by kernel_rfl) ?_ _
        go_wp2_with fail
        go_meet
        exact ⟨_, _, _, _, _, _, _, _, _, _, rfl, rfl, HEE.out⟩
  case rest =>
    obtain ⟨ka, kb, A6, x6, A7, x7, D6, y6, D7, y7, rfl, rfl, hE⟩ := hcut
    obtain ⟨wF, hwF⟩ : ∃ W, W = wc := ⟨_, rfl⟩
    rw [← hwF] at hE ⊢
    clear hwF
    have hWP : WRd wF wF.heap.size A6 A7 l1 x6 l2 x7 P.1 P.2 := ⟨sl_own hE.own.1, sl_own hE.own.2, HL1.out, HL2.out⟩
    have hWQ : WRd wF wF.heap.size D6 D7 l1' y6 l2' y7 Q.1 Q.2 := ⟨sl_own hE.own'.1, sl_own hE.own'.2, HL1'.out, HL2'.out⟩
    have HWP := Lib.hid hWP
    have HWQ := Lib.hid hWQ
    have hka := lt_of_block hE.blk
    have hkb := lt_of_block hE.blk'
    obtain ⟨⟨aA, aB⟩, -⟩ := blk2 hE.blk
    obtain ⟨⟨bA, bB⟩, -⟩ := blk2 hE.blk'
    have hbE := hb.trans (hE.b.mono hzb)
    dsimp only at aA aB bA bB
    clear hE hWP hWQ HN1 HN2 p0 p1 r0 r1 HC HC' HC0 HC0' HX
    by_cases e1 : l1 = l1'
    · subst e1
      by_cases e2 : l2 = l2'
      · subst e2
        have q1 : (((l1 : Int)) != (l1 : Int)) = false := by simp
        have q2 : (((l2 : Int)) != (l2 : Int)) = false := by simp
        have hiff := same_iff (P := P) (Q := Q) (by rw [← HL1.out, ← HL1'.out]) (by rw [← HL2.out, ← HL2'.out])
        rw [← HL1.out, ← HL2.out] at hiff
        have HIFF := Lib.hid hiff
        clear hiff
        obtain ⟨N, HN⟩ : ∃ N, Hid (N = l1 + l2) := ⟨_, Lib.hid rfl⟩
        have hNb : N ≤ 60000 := by have := HN.out; omega
        have HLN := Lib.hid (fun W : World => by have := rLen_any A6 A7 l1 x6 l2 x7 W (by omega); rw [← HN.out] at this; exact this)
        have HAP := Lib.hid (fun (W : World) (k : Nat) (hk : k ≤ 1000000) (hb : Below wF.heap.size wF W) => (atW_nat P.1 P.2 k) ▸ rAt_any A6 A7 l1 x6 l2 x7 P.1 P.2 (k : Int) W wF.heap.size (HWP.out.below hb (Nat.le_refl _)) hb.size (by omega) (by omega))
        have HAQ := Lib.hid (fun (W : World) (k : Nat) (hk : k ≤ 1000000) (hb : Below wF.heap.size wF W) => (atW_nat Q.1 Q.2 k) ▸ rAt_any D6 D7 l1 y6 l2 y7 Q.1 Q.2 (k : Int) W wF.heap.size (HWQ.out.below hb (Nat.le_refl _)) hb.size (by omega) (by omega))
        go_wp2
        go_loopw [7] (fun i wr => ∃ k : Nat, k ≤ N ∧ i = .int .i64 k ∧ Below wF.heap.size wF wr ∧ Hid (∀ j, j < k → seqW P.1 P.2 j = seqW Q.1 Q.2 j)) (fun i _ => N - (intOf i).toNat)
        case atStart => exact ⟨0, by omega, rfl, Below.refl _ _, Lib.hid (fun j hj => by omega)⟩
        case round =>
          obtain ⟨k, hk, rfl, hbr, hSQ⟩ := hrel
          rename_i wr
          have a0 := (hbr.cell (p := ⟨ka, 0, none⟩) hka).trans aA
          have a1 := (hbr.cell (p := ⟨ka, 1, none⟩) hka).trans aB
          go_wp2_with fail
          refine Calls.mono (HLN.out _) ?_
          rintro e w2 ⟨rfl, hb2⟩
          have hb02 : Below wF.heap.size wF w2 := hbr.trans (hb2.mono hbr.size)
          have c0 := (hb02.cell (p := ⟨ka, 0, none⟩) hka).trans aA
          have c1 := (hb02.cell (p := ⟨ka, 1, none⟩) hka).trans aB
          have g0 := (hb02.cell (p := ⟨kb, 0, none⟩) hkb).trans bA
          have g1 := (hb02.cell (p := ⟨kb, 1, none⟩) hkb).trans bB
          by_cases hlt : k < N
          · have HP1 := Lib.hid (HAP.out w2.drew k (by omega) hb02.drew)
            have HQ1 := Lib.hid (fun W hb => HAQ.out W k (by omega) hb)
            obtain ⟨b, hbq⟩ : ∃ b, (seqW P.1 P.2 k != seqW Q.1 Q.2 k) = b := ⟨_, rfl⟩
            have hcm : b = false ↔ seqW P.1 P.2 k = seqW Q.1 Q.2 k := by rw [← hbq]; simp
            have HCM := Lib.hid hcm
            clear hcm
            generalize hX : seqW P.1 P.2 k = X at *
            generalize hY : seqW Q.1 Q.2 k = Y at *
            have HXX := Lib.hid hX
            have HYY := Lib.hid hY
            clear hX hY a0 a1
            go_wp2_with fail
            refine wp_region_held_drew (S := fun w' => w'.cell? ⟨ka, 0, none⟩ = some (.slice A6 l1 x6) ∧ w'.cell? ⟨ka, 1, none⟩ = some (.slice A7 l2 x7) ∧ w'.cell? ⟨kb, 0, none⟩ = some (.slice D6 l1 y6) ∧ w'.cell? ⟨kb, 1, none⟩ = some (.slice D7 l2 y7)) (by kernel_rfl) ⟨c0, c1, g0, g1⟩ (fun hS => ?_)
            refine wpAnyH_takeD (i := 0) (v := ?_) rfl (by kernel_rfl) (by kernel_rfl) (by kernel_rfl) (fun _ _ _ h => h) (Or.inl ⟨by kernel_rfl, ?_⟩) hS ?_
            rotate_left 1
            · (intro w' hSw; (try dsimp only at hSw); go_simp; try (with_reducible rfl))
            try simp only [Act.put, List.setIfInBounds_toArray, List.set_cons_zero, List.set_cons_succ]
            refine wpAnyH_takeD (i := 1) (v := ?_) rfl (by kernel_rfl) (by kernel_rfl) (by kernel_rfl) (fun _ _ _ h => h) (Or.inl ⟨by kernel_rfl, ?_⟩) hS ?_
            rotate_left 1
            · (intro w' hSw; (try dsimp only at hSw); go_simp; try (with_reducible rfl))
            try simp only [Act.put, List.setIfInBounds_toArray, List.set_cons_zero, List.set_cons_succ]
            refine wpAnyH_takeD (i := 3) (v := ?_) rfl (by kernel_rfl) (by kernel_rfl) (by kernel_rfl) (fun _ _ _ h => h) (Or.inl ⟨by kernel_rfl, ?_⟩) hS ?_
            rotate_left 1
            · (intro w' hSw; (try dsimp only at hSw); go_simp; try (with_reducible rfl))
            try simp only [Act.put, List.setIfInBounds_toArray, List.set_cons_zero, List.set_cons_succ]
            refine wpAnyH_takeD (i := 4) (v := ?_) rfl (by kernel_rfl) (by kernel_rfl) (by kernel_rfl) (fun _ _ _ h => h) (Or.inl ⟨by kernel_rfl, ?_⟩) hS ?_
            rotate_left 1
            · (intro w' hSw; (try dsimp only at hSw); go_simp; try (with_reducible rfl))
            try simp only [Act.put, List.setIfInBounds_toArray, List.set_cons_zero, List.set_cons_succ]
            refine wpAnyH_oneD (i := 2) rfl (by kernel_rfl) (fun K hK => ?_)
            go_simp
            refine Calls.mono HP1.out ?_
            rintro e w5 ⟨rfl, hb5'⟩
            have hb5 : Below w2.heap.size w2 w5 := below_undrew hb5'
            have m0 := (hb5.cell (p := ⟨ka, 0, none⟩) (show ka < w2.heap.size from Nat.lt_of_lt_of_le hka hb02.size)).trans c0
            have m1 := (hb5.cell (p := ⟨ka, 1, none⟩) (show ka < w2.heap.size from Nat.lt_of_lt_of_le hka hb02.size)).trans c1
            have m2 := (hb5.cell (p := ⟨kb, 0, none⟩) (show kb < w2.heap.size from Nat.lt_of_lt_of_le hkb hb02.size)).trans g0
            have m3 := (hb5.cell (p := ⟨kb, 1, none⟩) (show kb < w2.heap.size from Nat.lt_of_lt_of_le hkb hb02.size)).trans g1
            go_wp2_with fail
            refine hK.out _ _ ⟨m0, m1, m2, m3⟩ (fun hS => ?_)
            clear hK
            try simp only [Act.put, List.setIfInBounds_toArray, List.set_cons_zero, List.set_cons_succ]
            refine wpAnyH_oneD (i := 5) rfl (by kernel_rfl) (fun K hK => ?_)
            go_simp
            refine Calls.mono (HQ1.out w5 (hb02.trans (hb5.mono hb02.size))) ?_
            rintro e w6 ⟨rfl, hb6'⟩
            have hbz : Below w2.heap.size w2 w6 := hb5.trans (hb6'.mono hb5.size)
            have z0 := (hbz.cell (p := ⟨ka, 0, none⟩) (show ka < w2.heap.size from Nat.lt_of_lt_of_le hka hb02.size)).trans c0
            have z1 := (hbz.cell (p := ⟨ka, 1, none⟩) (show ka < w2.heap.size from Nat.lt_of_lt_of_le hka hb02.size)).trans c1
            have z2 := (hbz.cell (p := ⟨kb, 0, none⟩) (show kb < w2.heap.size from Nat.lt_of_lt_of_le hkb hb02.size)).trans g0
            have z3 := (hbz.cell (p := ⟨kb, 1, none⟩) (show kb < w2.heap.size from Nat.lt_of_lt_of_le hkb hb02.size)).trans g1
            go_wp2_with fail
            refine hK.out _ _ ⟨z0, z1, z2, z3⟩ (fun hS => ?_)
            clear hK
            try simp only [Act.put, List.setIfInBounds_toArray, List.set_cons_zero, List.set_cons_succ]
            refine wpAnyH_takeD (i := 6) (v := ?_) rfl (by kernel_rfl) (by kernel_rfl) (by kernel_rfl) (fun _ _ _ h => h) (Or.inl ⟨by kernel_rfl, ?_⟩) hS ?_
            rotate_left 1
            · (intro w' hSw; (try dsimp only at hSw); go_simp; try (with_reducible rfl))
            try simp only [Act.put, List.setIfInBounds_toArray, List.set_cons_zero, List.set_cons_succ]
            refine wpAnyH_done (by kernel_rfl) ?_ _
            cases b
            · go_wp2
              go_roundw
              case rel => exact ⟨k + 1, by omega, by go_num, hb02.trans (hbz.mono hb02.size), Lib.hid (fun j hj => by
                by_cases hjk : j < k
                · exact hSQ.out j hjk
                · have : j = k := by omega
                  subst this
                  rw [HXX.out, HYY.out]; exact HCM.out.1 rfl)⟩
              case measure => simp [intOf]; omega
            · have hne : decide (P = Q) = false := by
                rw [decide_eq_false_iff_not]
                rintro rfl
                have := HCM.out.2 (by rw [← HXX.out, ← HYY.out])
                cases this
              have HNE := Lib.hid hne
              clear hne
              go_wp2
              go_ret
              exact ⟨ret_bool (HSM.out.trans HNE.out).symm, hbE.trans ((hb02.trans (hbz.mono hb02.size)).mono hbE.size)⟩
          · have hkN : k = N := by omega
            subst hkN
            have hres : decide (P = Q) = true := by
              rw [decide_eq_true_iff]
              exact HIFF.out.1 (fun i hi => hSQ.out i (by rw [HN.out]; exact hi))
            have HRE := Lib.hid hres
            clear hres
            go_wp2
            go_ret
            exact ⟨ret_bool (HSM.out.trans HRE.out).symm, hbE.trans (hb02.mono hbE.size)⟩
      · have q1 : (((l1 : Int)) != (l1 : Int)) = false := by simp
        have q2 : (((l2 : Int)) != (l2' : Int)) = true := by simp; omega
        have hne : decide (P = Q) = false := by
          rw [decide_eq_false_iff_not]
          rintro rfl
          exact e2 (by rw [HL2.out, HL2'.out])
        have HNE := Lib.hid hne
        clear hne e2
        go_wp2
        go_ret
        exact ⟨ret_bool (HSM.out.trans HNE.out).symm, hbE⟩
    · have q1 : (((l1 : Int)) != (l1' : Int)) = true := by simp; omega
      have hne : decide (P = Q) = false := by
        rw [decide_eq_false_iff_not]
        rintro rfl
        exact e1 (by rw [HL1.out, HL1'.out])
      have HNE := Lib.hid hne
      clear hne e1
      go_wp2
      go_ret
      exact ⟨ret_bool (HSM.out.trans HNE.out).symm, hbE⟩
end Go.Proofs.Ytkikkplpalabhaa
