/- The walk of layer 28 (cover): split, two ways. -/
import Derived.Test.YtamhjgkigjpbhaaDoorCv5
namespace Go.Proofs.YtamhjgkigjpbhaaDoor
open Go.RowKit

set_option maxHeartbeats 8000000 in
set_option maxRecDepth 100000 in
theorem split6_any (f : List Nd) (x : Way) (A1 : Option Addr) (c1 : Nat) (A2 : Option Addr) (c2 : Nat) (A3 : Option Addr) (c3 : Nat) (Af : Option Addr) (cf j : Nat) (w : World) (B : Nat) (h : WR w x A1 c1 A2 c2 A3 c3) (hf : Sl w B 2 Af f.length cf (ncells f)) (hB : B ≤ w.heap.size) (hl : f.length ≤ 1000000)
    (hN : isN f = true) (hj : j < f.length) (hx : WOk f x) (_hn : x.need < 256) (_hb : x.ban < 256) (ht : x.todo.length ≤ 1000000) (hop : opAt f j = 6) :
    Calls Tryd.prog 54 #[.agg #[.int .u64 (x.need : Int), .int .u64 (x.ban : Int), .slice A1 x.now.length c1, .slice A2 x.next.length c2, .slice A3 x.todo.length c3], .slice Af f.length cf, .int .i64 (j : Int)] w (Splits w (splitW f j x)) := by
  have HK := Lib.hid (fun (w' : World) (hb : Below w.heap.size w w') => Kids_any Af cf f (j : Int) w' B (hf.below hb hB) (Nat.le_trans hB hb.size) (by omega) ⟨by omega, by omega⟩)
  have hF := ndF hN hj
  have HR := Lib.hid h
  have HFS := Lib.hid hf
  have HX := Lib.hid hx
  have hcf := hf.cap
  obtain ⟨b, o, rfl, hbB, hc0, hc1⟩ := rd_nd hf.rd hj
  have hge : f[j] = f.getD j ⟨0, 0⟩ := by simp [List.getD, hj]
  rw [hge] at hc0 hc1
  have hb0 : Below w.heap.size w (w.alloc (.cells #[.int .u64 (x.need : Int), .int .u64 (x.ban : Int), .slice A1 x.now.length c1, .slice A2 x.next.length c2, .slice A3 x.todo.length c3] 100)) := (Below.refl _ _).alloc (Nat.le_refl _) _
  have hx0 := heap_alloc_new w (.cells #[.int .u64 (x.need : Int), .int .u64 (x.ban : Int), .slice A1 x.now.length c1, .slice A2 x.next.length c2, .slice A3 x.todo.length c3] 100)
  have hxz : (w.alloc (.cells #[.int .u64 (x.need : Int), .int .u64 (x.ban : Int), .slice A1 x.now.length c1, .slice A2 x.next.length c2, .slice A3 x.todo.length c3] 100)).heap.size = w.heap.size + 1 := by simp
  obtain ⟨W0, hW0⟩ : ∃ W0, w.alloc (.cells #[.int .u64 (x.need : Int), .int .u64 (x.ban : Int), .slice A1 x.now.length c1, .slice A2 x.next.length c2, .slice A3 x.todo.length c3] 100) = W0 := ⟨_, rfl⟩
  rw [hW0] at hb0 hx0 hxz
  have HW0 := Lib.hid hW0
  clear hW0 h hx hge
  change w.cell? ⟨b, o + j * 2, none⟩ = some (.int .i64 (opAt f j)) at hc0
  have hs : splitW f j x = [x.with_ [leftOf f j], x.with_ [rightOf f j]] := by unfold splitW; rw [hop]; rfl
  obtain ⟨hk, _, _⟩ := hF.kid2 (.inr (.inl hop))
  rw [hs, hop] at *
  rw [hk] at HK
  clear hF hs hk
  go_enter Tryd.func54, Tryd.ntmps54
  go_wp2_with fail
  rw [HW0.out]
  go_wp2_with fail
  refine Calls.mono (HK.out _ hb0) ?_
  rintro e w1 ⟨rfl, hb1⟩
  rw [hxz] at hb1
  have hz1 := hb1.size
  rw [hxz] at hz1
  have hb01 : Below w.heap.size w w1 := hb0.trans (hb1.mono (by omega))
  have q0 := (hb1.block w.heap.size (by omega)).trans hx0
  have k0 : w1.cell? ⟨w.heap.size, 0, none⟩ = some (.int .u64 (x.need : Int)) := by rw [cell_of_row _ _ 0 _ _ (0, 0) q0]; rfl
  have k1 : w1.cell? ⟨w.heap.size, 1, none⟩ = some (.int .u64 (x.ban : Int)) := by rw [cell_of_row _ _ 1 _ _ (0, 0) q0]; rfl
  have k2 : w1.cell? ⟨w.heap.size, 2, none⟩ = some (.slice A1 x.now.length c1) := by rw [cell_of_row _ _ 2 _ _ (0, 0) q0]; rfl
  have k3 : w1.cell? ⟨w.heap.size, 3, none⟩ = some (.slice A2 x.next.length c2) := by rw [cell_of_row _ _ 3 _ _ (0, 0) q0]; rfl
  have k4 : w1.cell? ⟨w.heap.size, 4, none⟩ = some (.slice A3 x.todo.length c3) := by rw [cell_of_row _ _ 4 _ _ (0, 0) q0]; rfl
  have k5 := (hb01.cell (p := ⟨b, o + j * 2, none⟩) (show b < w.heap.size by omega)).trans hc0
  have k6 := (hb01.cell (p := ⟨b, o + j * 2 + 1, none⟩) (show b < w.heap.size by omega)).trans hc1
  have hR := Lib.hid (HR.out.below hb01)
  have Q0 := Lib.hid q0
  have HB := Lib.hid hb01
  clear hb0 hx0 q0 hb01 HK HW0 hc0 hc1
  go_wp2_with fail
  refine wp_region_held_drew (S := fun w' => w'.cell? ⟨w.heap.size, 0, none⟩ = some (.int .u64 (x.need : Int)) ∧ w'.cell? ⟨w.heap.size, 1, none⟩ = some (.int .u64 (x.ban : Int)) ∧ w'.cell? ⟨w.heap.size, 2, none⟩ = some (.slice A1 x.now.length c1) ∧ w'.cell? ⟨w.heap.size, 3, none⟩ = some (.slice A2 x.next.length c2) ∧ w'.cell? ⟨w.heap.size, 4, none⟩ = some (.slice A3 x.todo.length c3)) (by kernel_rfl) ⟨k0, k1, k2, k3, k4⟩ (fun hS => ?_)
  refine wpAnyH_takeD (i := 0) (v := ?_) rfl (by kernel_rfl) (by kernel_rfl) (by kernel_rfl) (fun _ _ _ h => h) (Or.inl ⟨by kernel_rfl, ?_⟩) hS ?_
  rotate_left 1
  · (intro w' hSw; (try dsimp only at hSw); go_simp; try (with_reducible rfl))
  try simp only [Act.put, List.setIfInBounds_toArray, List.set_cons_zero, List.set_cons_succ]
  refine wpAnyH_takeD (i := 1) (v := ?_) rfl (by kernel_rfl) (by kernel_rfl) (by kernel_rfl) (fun _ _ _ h => h) (Or.inl ⟨by kernel_rfl, ?_⟩) hS ?_
  rotate_left 1
  · (intro w' hSw; (try dsimp only at hSw); go_simp; try (with_reducible rfl))
  try simp only [Act.put, List.setIfInBounds_toArray, List.set_cons_zero, List.set_cons_succ]
  refine wpAnyH_takeD (i := 4) (v := ?_) rfl (by kernel_rfl) (by kernel_rfl) (by kernel_rfl) (fun _ _ _ h => h) (Or.inl ⟨by kernel_rfl, ?_⟩) hS ?_
  rotate_left 1
  · (intro w' hSw; (try dsimp only at hSw); go_simp; try (with_reducible rfl))
  try simp only [Act.put, List.setIfInBounds_toArray, List.set_cons_zero, List.set_cons_succ]
  refine wpAnyH_takeD (i := 5) (v := ?_) rfl (by kernel_rfl) (by kernel_rfl) (by kernel_rfl) (fun _ _ _ h => h) (Or.inl ⟨by kernel_rfl, ?_⟩) hS ?_
  rotate_left 1
  · (intro w' hSw; (try dsimp only at hSw); go_simp; try (with_reducible rfl))
  try simp only [Act.put, List.setIfInBounds_toArray, List.set_cons_zero, List.set_cons_succ]
  refine wpAnyH_ready (rs := [2, 6]) (by kernel_rfl) (by simp) ?_
  refine (allReadyH_consD (i := 2) rfl (fun K hK => ?_) (allReadyH_consD (i := 6) rfl (fun K hK => ?_) AllReadyH.nil))
  · skip
    go_simp
    obtain ⟨W1, hw1⟩ : ∃ W, W = (w1.alloc (.cells #[.int .i64 (leftOf f j : Int)] 3)).drew := ⟨_, rfl⟩
    have hs1 : Below w1.heap.size w1 W1 := by rw [hw1]; exact ((Below.refl _ _).alloc (Nat.le_refl _) _).drew
    have hn1 : Sl W1 W1.heap.size 1 (some ⟨w1.heap.size, 0, none⟩) 1 1 (icells (natI [leftOf f j])) := by rw [hw1]; exact (new_ints w1 [leftOf f j] (by simp) (by simp)).drew
    rw [← hw1]
    clear hw1
    have hb1 := hs1
    have y1_0 := (hb1.cell (p := ⟨w.heap.size, 0, none⟩) (show w.heap.size < w1.heap.size by omega)).trans k0
    have y1_1 := (hb1.cell (p := ⟨w.heap.size, 1, none⟩) (show w.heap.size < w1.heap.size by omega)).trans k1
    have y1_2 := (hb1.cell (p := ⟨w.heap.size, 2, none⟩) (show w.heap.size < w1.heap.size by omega)).trans k2
    have y1_3 := (hb1.cell (p := ⟨w.heap.size, 3, none⟩) (show w.heap.size < w1.heap.size by omega)).trans k3
    have y1_4 := (hb1.cell (p := ⟨w.heap.size, 4, none⟩) (show w.heap.size < w1.heap.size by omega)).trans k4
    refine hK.out _ _ ⟨y1_0, y1_1, y1_2, y1_3, y1_4⟩ (fun hS => ?_)
    clear hK
    try simp only [Act.put, List.setIfInBounds_toArray, List.set_cons_zero, List.set_cons_succ]
    refine wpAnyH_ready (rs := [3, 6]) (by kernel_rfl) (by simp) ?_
    refine (allReadyH_consD (i := 3) rfl (fun K hK => ?_) (allReadyH_consD (i := 6) rfl (fun K hK => ?_) AllReadyH.nil))
    · skip
      go_simp
      have HC := Lib.hid (with_any x A1 c1 A2 c2 A3 c3 _ _ [leftOf f j] W1 (hR.out.below hb1) hn1 (by simp) ht)
      refine Calls.mono HC.out ?_
      clear HC
      rintro e W2 ⟨v, rfl, ⟨D1a, d1a, D2a, d2a, D3a, d3a, rfl, hr2⟩, hs2⟩
      have hb2 := hb1.trans (hs2.mono hb1.size)
      have y2_0 := (hb2.cell (p := ⟨w.heap.size, 0, none⟩) (show w.heap.size < w1.heap.size by omega)).trans k0
      have y2_1 := (hb2.cell (p := ⟨w.heap.size, 1, none⟩) (show w.heap.size < w1.heap.size by omega)).trans k1
      have y2_2 := (hb2.cell (p := ⟨w.heap.size, 2, none⟩) (show w.heap.size < w1.heap.size by omega)).trans k2
      have y2_3 := (hb2.cell (p := ⟨w.heap.size, 3, none⟩) (show w.heap.size < w1.heap.size by omega)).trans k3
      have y2_4 := (hb2.cell (p := ⟨w.heap.size, 4, none⟩) (show w.heap.size < w1.heap.size by omega)).trans k4
      go_wp2_with fail
      refine hK.out _ _ ⟨y2_0, y2_1, y2_2, y2_3, y2_4⟩ (fun hS => ?_)
      clear hK
      try simp only [Act.put, List.setIfInBounds_toArray, List.set_cons_zero, List.set_cons_succ]
      refine wpAnyH_oneD (i := 6) rfl (by kernel_rfl) (fun K hK => ?_)
      go_simp
      obtain ⟨W3, hw3⟩ : ∃ W, W = W2.alloc (.cells #[.int .i64 (rightOf f j : Int)] 3) := ⟨_, rfl⟩
      have hs3 : Below W2.heap.size W2 W3 := by rw [hw3]; exact (Below.refl _ _).alloc (Nat.le_refl _) _
      have hn3 : Sl W3 W3.heap.size 1 (some ⟨W2.heap.size, 0, none⟩) 1 1 (icells (natI [rightOf f j])) := by rw [hw3]; exact new_ints W2 [rightOf f j] (by simp) (by simp)
      rw [← hw3]
      clear hw3
      have ra_3 := hr2.below hs3
      have hb3 := hb2.trans (hs3.mono hb2.size)
      have y3_0 := (hb3.cell (p := ⟨w.heap.size, 0, none⟩) (show w.heap.size < w1.heap.size by omega)).trans k0
      have y3_1 := (hb3.cell (p := ⟨w.heap.size, 1, none⟩) (show w.heap.size < w1.heap.size by omega)).trans k1
      have y3_2 := (hb3.cell (p := ⟨w.heap.size, 2, none⟩) (show w.heap.size < w1.heap.size by omega)).trans k2
      have y3_3 := (hb3.cell (p := ⟨w.heap.size, 3, none⟩) (show w.heap.size < w1.heap.size by omega)).trans k3
      have y3_4 := (hb3.cell (p := ⟨w.heap.size, 4, none⟩) (show w.heap.size < w1.heap.size by omega)).trans k4
      refine hK.out _ _ ⟨y3_0, y3_1, y3_2, y3_3, y3_4⟩ (fun hS => ?_)
      clear hK
      try simp only [Act.put, List.setIfInBounds_toArray, List.set_cons_zero, List.set_cons_succ]
      refine wpAnyH_oneD (i := 7) rfl (by kernel_rfl) (fun K hK => ?_)
      go_simp
      have HC := Lib.hid (with_any x A1 c1 A2 c2 A3 c3 _ _ [rightOf f j] W3 (hR.out.below hb3) hn3 (by simp) ht)
      refine Calls.mono HC.out ?_
      clear HC
      rintro e W4 ⟨v, rfl, ⟨D1b, d1b, D2b, d2b, D3b, d3b, rfl, hr4⟩, hs4⟩
      have ra_4 := ra_3.below hs4
      have hb4 := hb3.trans (hs4.mono hb3.size)
      have y4_0 := (hb4.cell (p := ⟨w.heap.size, 0, none⟩) (show w.heap.size < w1.heap.size by omega)).trans k0
      have y4_1 := (hb4.cell (p := ⟨w.heap.size, 1, none⟩) (show w.heap.size < w1.heap.size by omega)).trans k1
      have y4_2 := (hb4.cell (p := ⟨w.heap.size, 2, none⟩) (show w.heap.size < w1.heap.size by omega)).trans k2
      have y4_3 := (hb4.cell (p := ⟨w.heap.size, 3, none⟩) (show w.heap.size < w1.heap.size by omega)).trans k3
      have y4_4 := (hb4.cell (p := ⟨w.heap.size, 4, none⟩) (show w.heap.size < w1.heap.size by omega)).trans k4
      go_wp2_with fail
      refine hK.out _ _ ⟨y4_0, y4_1, y4_2, y4_3, y4_4⟩ (fun hS => ?_)
      clear hK
      try simp only [Act.put, List.setIfInBounds_toArray, List.set_cons_zero, List.set_cons_succ]
      refine wpAnyH_oneD (i := 8) rfl (by kernel_rfl) (fun K hK => ?_)
      go_simp
      have hs5 := fun o : Obj => hb4.trans (((Below.refl W4.heap.size W4).alloc (Nat.le_refl _) o).mono hb4.size)
      refine hK.out _ _ ⟨((hs5 _).cell (p := ⟨w.heap.size, 0, none⟩) (show w.heap.size < w1.heap.size by omega)).trans k0, ((hs5 _).cell (p := ⟨w.heap.size, 1, none⟩) (show w.heap.size < w1.heap.size by omega)).trans k1, ((hs5 _).cell (p := ⟨w.heap.size, 2, none⟩) (show w.heap.size < w1.heap.size by omega)).trans k2, ((hs5 _).cell (p := ⟨w.heap.size, 3, none⟩) (show w.heap.size < w1.heap.size by omega)).trans k3, ((hs5 _).cell (p := ⟨w.heap.size, 4, none⟩) (show w.heap.size < w1.heap.size by omega)).trans k4⟩ (fun hS => ?_)
      clear hK
      try simp only [Act.put, List.setIfInBounds_toArray, List.set_cons_zero, List.set_cons_succ]
      refine wpAnyH_takeD (i := 9) (v := ?_) rfl (by kernel_rfl) (by kernel_rfl) (by kernel_rfl) (fun _ _ _ h => h) (Or.inl ⟨by kernel_rfl, ?_⟩) hS ?_
      rotate_left 1
      · (intro w' hSw; (try dsimp only at hSw); go_simp; try (with_reducible rfl))
      try simp only [Act.put, List.setIfInBounds_toArray, List.set_cons_zero, List.set_cons_succ]
      refine wpAnyH_done (by kernel_rfl) ?_ _
      clear hS
      go_wp2
      go_ret
      exact splits_two (x := x.with_ [leftOf f j]) (y := (x.with_ [rightOf f j])) (HB.out.trans (hb4.mono (by omega))) ra_4 hr4 (by first | rfl | simp [Way.owing, Way.with_]) (by first | rfl | simp [Way.owing, Way.with_]) (by first | rfl | simp [Way.owing, Way.with_]) (by first | rfl | simp [Way.owing, Way.with_]) (by first | rfl | simp [Way.owing, Way.with_]) (by first | rfl | simp [Way.owing, Way.with_]) (by first | rfl | simp [Way.owing, Way.with_]) (by first | rfl | simp [Way.owing, Way.with_]) (by first | rfl | simp [Way.owing, Way.with_]) (by first | rfl | simp [Way.owing, Way.with_])
    · skip
      go_simp
      obtain ⟨W6, hw6⟩ : ∃ W, W = W1.alloc (.cells #[.int .i64 (rightOf f j : Int)] 3) := ⟨_, rfl⟩
      have hs6 : Below W1.heap.size W1 W6 := by rw [hw6]; exact (Below.refl _ _).alloc (Nat.le_refl _) _
      have hn6 : Sl W6 W6.heap.size 1 (some ⟨W1.heap.size, 0, none⟩) 1 1 (icells (natI [rightOf f j])) := by rw [hw6]; exact new_ints W1 [rightOf f j] (by simp) (by simp)
      rw [← hw6]
      clear hw6
      have na_6 := (hn1.below hs6 (Nat.le_refl _)).up hs6.size
      have hb6 := hb1.trans (hs6.mono hb1.size)
      have y6_0 := (hb6.cell (p := ⟨w.heap.size, 0, none⟩) (show w.heap.size < w1.heap.size by omega)).trans k0
      have y6_1 := (hb6.cell (p := ⟨w.heap.size, 1, none⟩) (show w.heap.size < w1.heap.size by omega)).trans k1
      have y6_2 := (hb6.cell (p := ⟨w.heap.size, 2, none⟩) (show w.heap.size < w1.heap.size by omega)).trans k2
      have y6_3 := (hb6.cell (p := ⟨w.heap.size, 3, none⟩) (show w.heap.size < w1.heap.size by omega)).trans k3
      have y6_4 := (hb6.cell (p := ⟨w.heap.size, 4, none⟩) (show w.heap.size < w1.heap.size by omega)).trans k4
      refine hK.out _ _ ⟨y6_0, y6_1, y6_2, y6_3, y6_4⟩ (fun hS => ?_)
      clear hK
      try simp only [Act.put, List.setIfInBounds_toArray, List.set_cons_zero, List.set_cons_succ]
      refine wpAnyH_oneD (i := 3) rfl (by kernel_rfl) (fun K hK => ?_)
      go_simp
      have HC := Lib.hid (with_any x A1 c1 A2 c2 A3 c3 _ _ [leftOf f j] W6 (hR.out.below hb6) na_6 (by simp) ht)
      refine Calls.mono HC.out ?_
      clear HC
      rintro e W7 ⟨v, rfl, ⟨D1a, d1a, D2a, d2a, D3a, d3a, rfl, hr7⟩, hs7⟩
      have nb_7 := (hn6.below hs7 (Nat.le_refl _)).up hs7.size
      have hb7 := hb6.trans (hs7.mono hb6.size)
      have y7_0 := (hb7.cell (p := ⟨w.heap.size, 0, none⟩) (show w.heap.size < w1.heap.size by omega)).trans k0
      have y7_1 := (hb7.cell (p := ⟨w.heap.size, 1, none⟩) (show w.heap.size < w1.heap.size by omega)).trans k1
      have y7_2 := (hb7.cell (p := ⟨w.heap.size, 2, none⟩) (show w.heap.size < w1.heap.size by omega)).trans k2
      have y7_3 := (hb7.cell (p := ⟨w.heap.size, 3, none⟩) (show w.heap.size < w1.heap.size by omega)).trans k3
      have y7_4 := (hb7.cell (p := ⟨w.heap.size, 4, none⟩) (show w.heap.size < w1.heap.size by omega)).trans k4
      go_wp2_with fail
      refine hK.out _ _ ⟨y7_0, y7_1, y7_2, y7_3, y7_4⟩ (fun hS => ?_)
      clear hK
      try simp only [Act.put, List.setIfInBounds_toArray, List.set_cons_zero, List.set_cons_succ]
      refine wpAnyH_oneD (i := 7) rfl (by kernel_rfl) (fun K hK => ?_)
      go_simp
      have HC := Lib.hid (with_any x A1 c1 A2 c2 A3 c3 _ _ [rightOf f j] W7 (hR.out.below hb7) nb_7 (by simp) ht)
      refine Calls.mono HC.out ?_
      clear HC
      rintro e W8 ⟨v, rfl, ⟨D1b, d1b, D2b, d2b, D3b, d3b, rfl, hr8⟩, hs8⟩
      have ra_8 := hr7.below hs8
      have hb8 := hb7.trans (hs8.mono hb7.size)
      have y8_0 := (hb8.cell (p := ⟨w.heap.size, 0, none⟩) (show w.heap.size < w1.heap.size by omega)).trans k0
      have y8_1 := (hb8.cell (p := ⟨w.heap.size, 1, none⟩) (show w.heap.size < w1.heap.size by omega)).trans k1
      have y8_2 := (hb8.cell (p := ⟨w.heap.size, 2, none⟩) (show w.heap.size < w1.heap.size by omega)).trans k2
      have y8_3 := (hb8.cell (p := ⟨w.heap.size, 3, none⟩) (show w.heap.size < w1.heap.size by omega)).trans k3
      have y8_4 := (hb8.cell (p := ⟨w.heap.size, 4, none⟩) (show w.heap.size < w1.heap.size by omega)).trans k4
      go_wp2_with fail
      refine hK.out _ _ ⟨y8_0, y8_1, y8_2, y8_3, y8_4⟩ (fun hS => ?_)
      clear hK
      try simp only [Act.put, List.setIfInBounds_toArray, List.set_cons_zero, List.set_cons_succ]
      refine wpAnyH_oneD (i := 8) rfl (by kernel_rfl) (fun K hK => ?_)
      go_simp
      have hs9 := fun o : Obj => hb8.trans (((Below.refl W8.heap.size W8).alloc (Nat.le_refl _) o).mono hb8.size)
      refine hK.out _ _ ⟨((hs9 _).cell (p := ⟨w.heap.size, 0, none⟩) (show w.heap.size < w1.heap.size by omega)).trans k0, ((hs9 _).cell (p := ⟨w.heap.size, 1, none⟩) (show w.heap.size < w1.heap.size by omega)).trans k1, ((hs9 _).cell (p := ⟨w.heap.size, 2, none⟩) (show w.heap.size < w1.heap.size by omega)).trans k2, ((hs9 _).cell (p := ⟨w.heap.size, 3, none⟩) (show w.heap.size < w1.heap.size by omega)).trans k3, ((hs9 _).cell (p := ⟨w.heap.size, 4, none⟩) (show w.heap.size < w1.heap.size by omega)).trans k4⟩ (fun hS => ?_)
      clear hK
      try simp only [Act.put, List.setIfInBounds_toArray, List.set_cons_zero, List.set_cons_succ]
      refine wpAnyH_takeD (i := 9) (v := ?_) rfl (by kernel_rfl) (by kernel_rfl) (by kernel_rfl) (fun _ _ _ h => h) (Or.inl ⟨by kernel_rfl, ?_⟩) hS ?_
      rotate_left 1
      · (intro w' hSw; (try dsimp only at hSw); go_simp; try (with_reducible rfl))
      try simp only [Act.put, List.setIfInBounds_toArray, List.set_cons_zero, List.set_cons_succ]
      refine wpAnyH_done (by kernel_rfl) ?_ _
      clear hS
      go_wp2
      go_ret
      exact splits_two (x := x.with_ [leftOf f j]) (y := (x.with_ [rightOf f j])) (HB.out.trans (hb8.mono (by omega))) ra_8 hr8 (by first | rfl | simp [Way.owing, Way.with_]) (by first | rfl | simp [Way.owing, Way.with_]) (by first | rfl | simp [Way.owing, Way.with_]) (by first | rfl | simp [Way.owing, Way.with_]) (by first | rfl | simp [Way.owing, Way.with_]) (by first | rfl | simp [Way.owing, Way.with_]) (by first | rfl | simp [Way.owing, Way.with_]) (by first | rfl | simp [Way.owing, Way.with_]) (by first | rfl | simp [Way.owing, Way.with_]) (by first | rfl | simp [Way.owing, Way.with_])
  · skip
    go_simp
    obtain ⟨W10, hw10⟩ : ∃ W, W = (w1.alloc (.cells #[.int .i64 (rightOf f j : Int)] 3)).drew := ⟨_, rfl⟩
    have hs10 : Below w1.heap.size w1 W10 := by rw [hw10]; exact ((Below.refl _ _).alloc (Nat.le_refl _) _).drew
    have hn10 : Sl W10 W10.heap.size 1 (some ⟨w1.heap.size, 0, none⟩) 1 1 (icells (natI [rightOf f j])) := by rw [hw10]; exact (new_ints w1 [rightOf f j] (by simp) (by simp)).drew
    rw [← hw10]
    clear hw10
    have hb10 := hs10
    have y10_0 := (hb10.cell (p := ⟨w.heap.size, 0, none⟩) (show w.heap.size < w1.heap.size by omega)).trans k0
    have y10_1 := (hb10.cell (p := ⟨w.heap.size, 1, none⟩) (show w.heap.size < w1.heap.size by omega)).trans k1
    have y10_2 := (hb10.cell (p := ⟨w.heap.size, 2, none⟩) (show w.heap.size < w1.heap.size by omega)).trans k2
    have y10_3 := (hb10.cell (p := ⟨w.heap.size, 3, none⟩) (show w.heap.size < w1.heap.size by omega)).trans k3
    have y10_4 := (hb10.cell (p := ⟨w.heap.size, 4, none⟩) (show w.heap.size < w1.heap.size by omega)).trans k4
    refine hK.out _ _ ⟨y10_0, y10_1, y10_2, y10_3, y10_4⟩ (fun hS => ?_)
    clear hK
    try simp only [Act.put, List.setIfInBounds_toArray, List.set_cons_zero, List.set_cons_succ]
    refine wpAnyH_oneD (i := 2) rfl (by kernel_rfl) (fun K hK => ?_)
    go_simp
    obtain ⟨W11, hw11⟩ : ∃ W, W = W10.alloc (.cells #[.int .i64 (leftOf f j : Int)] 3) := ⟨_, rfl⟩
    have hs11 : Below W10.heap.size W10 W11 := by rw [hw11]; exact (Below.refl _ _).alloc (Nat.le_refl _) _
    have hn11 : Sl W11 W11.heap.size 1 (some ⟨W10.heap.size, 0, none⟩) 1 1 (icells (natI [leftOf f j])) := by rw [hw11]; exact new_ints W10 [leftOf f j] (by simp) (by simp)
    rw [← hw11]
    clear hw11
    have nb_11 := (hn10.below hs11 (Nat.le_refl _)).up hs11.size
    have hb11 := hb10.trans (hs11.mono hb10.size)
    have y11_0 := (hb11.cell (p := ⟨w.heap.size, 0, none⟩) (show w.heap.size < w1.heap.size by omega)).trans k0
    have y11_1 := (hb11.cell (p := ⟨w.heap.size, 1, none⟩) (show w.heap.size < w1.heap.size by omega)).trans k1
    have y11_2 := (hb11.cell (p := ⟨w.heap.size, 2, none⟩) (show w.heap.size < w1.heap.size by omega)).trans k2
    have y11_3 := (hb11.cell (p := ⟨w.heap.size, 3, none⟩) (show w.heap.size < w1.heap.size by omega)).trans k3
    have y11_4 := (hb11.cell (p := ⟨w.heap.size, 4, none⟩) (show w.heap.size < w1.heap.size by omega)).trans k4
    refine hK.out _ _ ⟨y11_0, y11_1, y11_2, y11_3, y11_4⟩ (fun hS => ?_)
    clear hK
    try simp only [Act.put, List.setIfInBounds_toArray, List.set_cons_zero, List.set_cons_succ]
    refine wpAnyH_oneD (i := 3) rfl (by kernel_rfl) (fun K hK => ?_)
    go_simp
    have HC := Lib.hid (with_any x A1 c1 A2 c2 A3 c3 _ _ [leftOf f j] W11 (hR.out.below hb11) hn11 (by simp) ht)
    refine Calls.mono HC.out ?_
    clear HC
    rintro e W12 ⟨v, rfl, ⟨D1a, d1a, D2a, d2a, D3a, d3a, rfl, hr12⟩, hs12⟩
    have nb_12 := (nb_11.below hs12 (Nat.le_refl _)).up hs12.size
    have hb12 := hb11.trans (hs12.mono hb11.size)
    have y12_0 := (hb12.cell (p := ⟨w.heap.size, 0, none⟩) (show w.heap.size < w1.heap.size by omega)).trans k0
    have y12_1 := (hb12.cell (p := ⟨w.heap.size, 1, none⟩) (show w.heap.size < w1.heap.size by omega)).trans k1
    have y12_2 := (hb12.cell (p := ⟨w.heap.size, 2, none⟩) (show w.heap.size < w1.heap.size by omega)).trans k2
    have y12_3 := (hb12.cell (p := ⟨w.heap.size, 3, none⟩) (show w.heap.size < w1.heap.size by omega)).trans k3
    have y12_4 := (hb12.cell (p := ⟨w.heap.size, 4, none⟩) (show w.heap.size < w1.heap.size by omega)).trans k4
    go_wp2_with fail
    refine hK.out _ _ ⟨y12_0, y12_1, y12_2, y12_3, y12_4⟩ (fun hS => ?_)
    clear hK
    try simp only [Act.put, List.setIfInBounds_toArray, List.set_cons_zero, List.set_cons_succ]
    refine wpAnyH_oneD (i := 7) rfl (by kernel_rfl) (fun K hK => ?_)
    go_simp
    have HC := Lib.hid (with_any x A1 c1 A2 c2 A3 c3 _ _ [rightOf f j] W12 (hR.out.below hb12) nb_12 (by simp) ht)
    refine Calls.mono HC.out ?_
    clear HC
    rintro e W13 ⟨v, rfl, ⟨D1b, d1b, D2b, d2b, D3b, d3b, rfl, hr13⟩, hs13⟩
    have ra_13 := hr12.below hs13
    have hb13 := hb12.trans (hs13.mono hb12.size)
    have y13_0 := (hb13.cell (p := ⟨w.heap.size, 0, none⟩) (show w.heap.size < w1.heap.size by omega)).trans k0
    have y13_1 := (hb13.cell (p := ⟨w.heap.size, 1, none⟩) (show w.heap.size < w1.heap.size by omega)).trans k1
    have y13_2 := (hb13.cell (p := ⟨w.heap.size, 2, none⟩) (show w.heap.size < w1.heap.size by omega)).trans k2
    have y13_3 := (hb13.cell (p := ⟨w.heap.size, 3, none⟩) (show w.heap.size < w1.heap.size by omega)).trans k3
    have y13_4 := (hb13.cell (p := ⟨w.heap.size, 4, none⟩) (show w.heap.size < w1.heap.size by omega)).trans k4
    go_wp2_with fail
    refine hK.out _ _ ⟨y13_0, y13_1, y13_2, y13_3, y13_4⟩ (fun hS => ?_)
    clear hK
    try simp only [Act.put, List.setIfInBounds_toArray, List.set_cons_zero, List.set_cons_succ]
    refine wpAnyH_oneD (i := 8) rfl (by kernel_rfl) (fun K hK => ?_)
    go_simp
    have hs14 := fun o : Obj => hb13.trans (((Below.refl W13.heap.size W13).alloc (Nat.le_refl _) o).mono hb13.size)
    refine hK.out _ _ ⟨((hs14 _).cell (p := ⟨w.heap.size, 0, none⟩) (show w.heap.size < w1.heap.size by omega)).trans k0, ((hs14 _).cell (p := ⟨w.heap.size, 1, none⟩) (show w.heap.size < w1.heap.size by omega)).trans k1, ((hs14 _).cell (p := ⟨w.heap.size, 2, none⟩) (show w.heap.size < w1.heap.size by omega)).trans k2, ((hs14 _).cell (p := ⟨w.heap.size, 3, none⟩) (show w.heap.size < w1.heap.size by omega)).trans k3, ((hs14 _).cell (p := ⟨w.heap.size, 4, none⟩) (show w.heap.size < w1.heap.size by omega)).trans k4⟩ (fun hS => ?_)
    clear hK
    try simp only [Act.put, List.setIfInBounds_toArray, List.set_cons_zero, List.set_cons_succ]
    refine wpAnyH_takeD (i := 9) (v := ?_) rfl (by kernel_rfl) (by kernel_rfl) (by kernel_rfl) (fun _ _ _ h => h) (Or.inl ⟨by kernel_rfl, ?_⟩) hS ?_
    rotate_left 1
    · (intro w' hSw; (try dsimp only at hSw); go_simp; try (with_reducible rfl))
    try simp only [Act.put, List.setIfInBounds_toArray, List.set_cons_zero, List.set_cons_succ]
    refine wpAnyH_done (by kernel_rfl) ?_ _
    clear hS
    go_wp2
    go_ret
    exact splits_two (x := x.with_ [leftOf f j]) (y := (x.with_ [rightOf f j])) (HB.out.trans (hb13.mono (by omega))) ra_13 hr13 (by first | rfl | simp [Way.owing, Way.with_]) (by first | rfl | simp [Way.owing, Way.with_]) (by first | rfl | simp [Way.owing, Way.with_]) (by first | rfl | simp [Way.owing, Way.with_]) (by first | rfl | simp [Way.owing, Way.with_]) (by first | rfl | simp [Way.owing, Way.with_]) (by first | rfl | simp [Way.owing, Way.with_]) (by first | rfl | simp [Way.owing, Way.with_]) (by first | rfl | simp [Way.owing, Way.with_]) (by first | rfl | simp [Way.owing, Way.with_])
set_option maxHeartbeats 8000000 in
set_option maxRecDepth 100000 in
theorem split9_any (f : List Nd) (x : Way) (A1 : Option Addr) (c1 : Nat) (A2 : Option Addr) (c2 : Nat) (A3 : Option Addr) (c3 : Nat) (Af : Option Addr) (cf j : Nat) (w : World) (B : Nat) (h : WR w x A1 c1 A2 c2 A3 c3) (hf : Sl w B 2 Af f.length cf (ncells f)) (hB : B ≤ w.heap.size) (hl : f.length ≤ 1000000)
    (hN : isN f = true) (hj : j < f.length) (hx : WOk f x) (_hn : x.need < 256) (_hb : x.ban < 256) (ht : x.todo.length ≤ 1000000) (hop : opAt f j = 9) :
    Calls Tryd.prog 54 #[.agg #[.int .u64 (x.need : Int), .int .u64 (x.ban : Int), .slice A1 x.now.length c1, .slice A2 x.next.length c2, .slice A3 x.todo.length c3], .slice Af f.length cf, .int .i64 (j : Int)] w (Splits w (splitW f j x)) := by
  have HK := Lib.hid (fun (w' : World) (hb : Below w.heap.size w w') => Kids_any Af cf f (j : Int) w' B (hf.below hb hB) (Nat.le_trans hB hb.size) (by omega) ⟨by omega, by omega⟩)
  have hF := ndF hN hj
  have HR := Lib.hid h
  have HFS := Lib.hid hf
  have HX := Lib.hid hx
  have hcf := hf.cap
  obtain ⟨b, o, rfl, hbB, hc0, hc1⟩ := rd_nd hf.rd hj
  have hge : f[j] = f.getD j ⟨0, 0⟩ := by simp [List.getD, hj]
  rw [hge] at hc0 hc1
  have hb0 : Below w.heap.size w (w.alloc (.cells #[.int .u64 (x.need : Int), .int .u64 (x.ban : Int), .slice A1 x.now.length c1, .slice A2 x.next.length c2, .slice A3 x.todo.length c3] 100)) := (Below.refl _ _).alloc (Nat.le_refl _) _
  have hx0 := heap_alloc_new w (.cells #[.int .u64 (x.need : Int), .int .u64 (x.ban : Int), .slice A1 x.now.length c1, .slice A2 x.next.length c2, .slice A3 x.todo.length c3] 100)
  have hxz : (w.alloc (.cells #[.int .u64 (x.need : Int), .int .u64 (x.ban : Int), .slice A1 x.now.length c1, .slice A2 x.next.length c2, .slice A3 x.todo.length c3] 100)).heap.size = w.heap.size + 1 := by simp
  obtain ⟨W0, hW0⟩ : ∃ W0, w.alloc (.cells #[.int .u64 (x.need : Int), .int .u64 (x.ban : Int), .slice A1 x.now.length c1, .slice A2 x.next.length c2, .slice A3 x.todo.length c3] 100) = W0 := ⟨_, rfl⟩
  rw [hW0] at hb0 hx0 hxz
  have HW0 := Lib.hid hW0
  clear hW0 h hx hge
  change w.cell? ⟨b, o + j * 2, none⟩ = some (.int .i64 (opAt f j)) at hc0
  have hs : splitW f j x = [x.with_ [rightOf f j], (x.with_ [leftOf f j]).owing j] := by unfold splitW; rw [hop]; rfl
  obtain ⟨hk, _, _⟩ := hF.kid2 (.inr (.inr (.inl hop)))
  rw [hs, hop] at *
  rw [hk] at HK
  clear hF hs hk
  go_enter Tryd.func54, Tryd.ntmps54
  go_wp2_with fail
  rw [HW0.out]
  go_wp2_with fail
  refine Calls.mono (HK.out _ hb0) ?_
  rintro e w1 ⟨rfl, hb1⟩
  rw [hxz] at hb1
  have hz1 := hb1.size
  rw [hxz] at hz1
  have hb01 : Below w.heap.size w w1 := hb0.trans (hb1.mono (by omega))
  have q0 := (hb1.block w.heap.size (by omega)).trans hx0
  have k0 : w1.cell? ⟨w.heap.size, 0, none⟩ = some (.int .u64 (x.need : Int)) := by rw [cell_of_row _ _ 0 _ _ (0, 0) q0]; rfl
  have k1 : w1.cell? ⟨w.heap.size, 1, none⟩ = some (.int .u64 (x.ban : Int)) := by rw [cell_of_row _ _ 1 _ _ (0, 0) q0]; rfl
  have k2 : w1.cell? ⟨w.heap.size, 2, none⟩ = some (.slice A1 x.now.length c1) := by rw [cell_of_row _ _ 2 _ _ (0, 0) q0]; rfl
  have k3 : w1.cell? ⟨w.heap.size, 3, none⟩ = some (.slice A2 x.next.length c2) := by rw [cell_of_row _ _ 3 _ _ (0, 0) q0]; rfl
  have k4 : w1.cell? ⟨w.heap.size, 4, none⟩ = some (.slice A3 x.todo.length c3) := by rw [cell_of_row _ _ 4 _ _ (0, 0) q0]; rfl
  have k5 := (hb01.cell (p := ⟨b, o + j * 2, none⟩) (show b < w.heap.size by omega)).trans hc0
  have k6 := (hb01.cell (p := ⟨b, o + j * 2 + 1, none⟩) (show b < w.heap.size by omega)).trans hc1
  have hR := Lib.hid (HR.out.below hb01)
  have Q0 := Lib.hid q0
  have HB := Lib.hid hb01
  clear hb0 hx0 q0 hb01 HK HW0 hc0 hc1
  go_wp2_with fail
  refine wp_region_held_drew (S := fun w' => w'.cell? ⟨w.heap.size, 0, none⟩ = some (.int .u64 (x.need : Int)) ∧ w'.cell? ⟨w.heap.size, 1, none⟩ = some (.int .u64 (x.ban : Int)) ∧ w'.cell? ⟨w.heap.size, 2, none⟩ = some (.slice A1 x.now.length c1) ∧ w'.cell? ⟨w.heap.size, 3, none⟩ = some (.slice A2 x.next.length c2) ∧ w'.cell? ⟨w.heap.size, 4, none⟩ = some (.slice A3 x.todo.length c3)) (by kernel_rfl) ⟨k0, k1, k2, k3, k4⟩ (fun hS => ?_)
  refine wpAnyH_takeD (i := 0) (v := ?_) rfl (by kernel_rfl) (by kernel_rfl) (by kernel_rfl) (fun _ _ _ h => h) (Or.inl ⟨by kernel_rfl, ?_⟩) hS ?_
  rotate_left 1
  · (intro w' hSw; (try dsimp only at hSw); go_simp; try (with_reducible rfl))
  try simp only [Act.put, List.setIfInBounds_toArray, List.set_cons_zero, List.set_cons_succ]
  refine wpAnyH_takeD (i := 1) (v := ?_) rfl (by kernel_rfl) (by kernel_rfl) (by kernel_rfl) (fun _ _ _ h => h) (Or.inl ⟨by kernel_rfl, ?_⟩) hS ?_
  rotate_left 1
  · (intro w' hSw; (try dsimp only at hSw); go_simp; try (with_reducible rfl))
  try simp only [Act.put, List.setIfInBounds_toArray, List.set_cons_zero, List.set_cons_succ]
  refine wpAnyH_takeD (i := 4) (v := ?_) rfl (by kernel_rfl) (by kernel_rfl) (by kernel_rfl) (fun _ _ _ h => h) (Or.inl ⟨by kernel_rfl, ?_⟩) hS ?_
  rotate_left 1
  · (intro w' hSw; (try dsimp only at hSw); go_simp; try (with_reducible rfl))
  try simp only [Act.put, List.setIfInBounds_toArray, List.set_cons_zero, List.set_cons_succ]
  refine wpAnyH_takeD (i := 5) (v := ?_) rfl (by kernel_rfl) (by kernel_rfl) (by kernel_rfl) (fun _ _ _ h => h) (Or.inl ⟨by kernel_rfl, ?_⟩) hS ?_
  rotate_left 1
  · (intro w' hSw; (try dsimp only at hSw); go_simp; try (with_reducible rfl))
  try simp only [Act.put, List.setIfInBounds_toArray, List.set_cons_zero, List.set_cons_succ]
  refine wpAnyH_takeD (i := 8) (v := ?_) rfl (by kernel_rfl) (by kernel_rfl) (by kernel_rfl) (fun _ _ _ h => h) (Or.inl ⟨by kernel_rfl, ?_⟩) hS ?_
  rotate_left 1
  · (intro w' hSw; (try dsimp only at hSw); go_simp; try (with_reducible rfl))
  try simp only [Act.put, List.setIfInBounds_toArray, List.set_cons_zero, List.set_cons_succ]
  refine wpAnyH_ready (rs := [2, 6]) (by kernel_rfl) (by simp) ?_
  refine (allReadyH_consD (i := 2) rfl (fun K hK => ?_) (allReadyH_consD (i := 6) rfl (fun K hK => ?_) AllReadyH.nil))
  · skip
    go_simp
    obtain ⟨W15, hw15⟩ : ∃ W, W = (w1.alloc (.cells #[.int .i64 (rightOf f j : Int)] 3)).drew := ⟨_, rfl⟩
    have hs15 : Below w1.heap.size w1 W15 := by rw [hw15]; exact ((Below.refl _ _).alloc (Nat.le_refl _) _).drew
    have hn15 : Sl W15 W15.heap.size 1 (some ⟨w1.heap.size, 0, none⟩) 1 1 (icells (natI [rightOf f j])) := by rw [hw15]; exact (new_ints w1 [rightOf f j] (by simp) (by simp)).drew
    rw [← hw15]
    clear hw15
    have hb15 := hs15
    have y15_0 := (hb15.cell (p := ⟨w.heap.size, 0, none⟩) (show w.heap.size < w1.heap.size by omega)).trans k0
    have y15_1 := (hb15.cell (p := ⟨w.heap.size, 1, none⟩) (show w.heap.size < w1.heap.size by omega)).trans k1
    have y15_2 := (hb15.cell (p := ⟨w.heap.size, 2, none⟩) (show w.heap.size < w1.heap.size by omega)).trans k2
    have y15_3 := (hb15.cell (p := ⟨w.heap.size, 3, none⟩) (show w.heap.size < w1.heap.size by omega)).trans k3
    have y15_4 := (hb15.cell (p := ⟨w.heap.size, 4, none⟩) (show w.heap.size < w1.heap.size by omega)).trans k4
    refine hK.out _ _ ⟨y15_0, y15_1, y15_2, y15_3, y15_4⟩ (fun hS => ?_)
    clear hK
    try simp only [Act.put, List.setIfInBounds_toArray, List.set_cons_zero, List.set_cons_succ]
    refine wpAnyH_ready (rs := [3, 6]) (by kernel_rfl) (by simp) ?_
    refine (allReadyH_consD (i := 3) rfl (fun K hK => ?_) (allReadyH_consD (i := 6) rfl (fun K hK => ?_) AllReadyH.nil))
    · skip
      go_simp
      have HC := Lib.hid (with_any x A1 c1 A2 c2 A3 c3 _ _ [rightOf f j] W15 (hR.out.below hb15) hn15 (by simp) ht)
      refine Calls.mono HC.out ?_
      clear HC
      rintro e W16 ⟨v, rfl, ⟨D1a, d1a, D2a, d2a, D3a, d3a, rfl, hr16⟩, hs16⟩
      have hb16 := hb15.trans (hs16.mono hb15.size)
      have y16_0 := (hb16.cell (p := ⟨w.heap.size, 0, none⟩) (show w.heap.size < w1.heap.size by omega)).trans k0
      have y16_1 := (hb16.cell (p := ⟨w.heap.size, 1, none⟩) (show w.heap.size < w1.heap.size by omega)).trans k1
      have y16_2 := (hb16.cell (p := ⟨w.heap.size, 2, none⟩) (show w.heap.size < w1.heap.size by omega)).trans k2
      have y16_3 := (hb16.cell (p := ⟨w.heap.size, 3, none⟩) (show w.heap.size < w1.heap.size by omega)).trans k3
      have y16_4 := (hb16.cell (p := ⟨w.heap.size, 4, none⟩) (show w.heap.size < w1.heap.size by omega)).trans k4
      go_wp2_with fail
      refine hK.out _ _ ⟨y16_0, y16_1, y16_2, y16_3, y16_4⟩ (fun hS => ?_)
      clear hK
      try simp only [Act.put, List.setIfInBounds_toArray, List.set_cons_zero, List.set_cons_succ]
      refine wpAnyH_oneD (i := 6) rfl (by kernel_rfl) (fun K hK => ?_)
      go_simp
      obtain ⟨W17, hw17⟩ : ∃ W, W = W16.alloc (.cells #[.int .i64 (leftOf f j : Int)] 3) := ⟨_, rfl⟩
      have hs17 : Below W16.heap.size W16 W17 := by rw [hw17]; exact (Below.refl _ _).alloc (Nat.le_refl _) _
      have hn17 : Sl W17 W17.heap.size 1 (some ⟨W16.heap.size, 0, none⟩) 1 1 (icells (natI [leftOf f j])) := by rw [hw17]; exact new_ints W16 [leftOf f j] (by simp) (by simp)
      rw [← hw17]
      clear hw17
      have ra_17 := hr16.below hs17
      have hb17 := hb16.trans (hs17.mono hb16.size)
      have y17_0 := (hb17.cell (p := ⟨w.heap.size, 0, none⟩) (show w.heap.size < w1.heap.size by omega)).trans k0
      have y17_1 := (hb17.cell (p := ⟨w.heap.size, 1, none⟩) (show w.heap.size < w1.heap.size by omega)).trans k1
      have y17_2 := (hb17.cell (p := ⟨w.heap.size, 2, none⟩) (show w.heap.size < w1.heap.size by omega)).trans k2
      have y17_3 := (hb17.cell (p := ⟨w.heap.size, 3, none⟩) (show w.heap.size < w1.heap.size by omega)).trans k3
      have y17_4 := (hb17.cell (p := ⟨w.heap.size, 4, none⟩) (show w.heap.size < w1.heap.size by omega)).trans k4
      refine hK.out _ _ ⟨y17_0, y17_1, y17_2, y17_3, y17_4⟩ (fun hS => ?_)
      clear hK
      try simp only [Act.put, List.setIfInBounds_toArray, List.set_cons_zero, List.set_cons_succ]
      refine wpAnyH_oneD (i := 7) rfl (by kernel_rfl) (fun K hK => ?_)
      go_simp
      have HC := Lib.hid (with_any x A1 c1 A2 c2 A3 c3 _ _ [leftOf f j] W17 (hR.out.below hb17) hn17 (by simp) ht)
      refine Calls.mono HC.out ?_
      clear HC
      rintro e W18 ⟨v, rfl, ⟨D1b, d1b, D2b, d2b, D3b, d3b, rfl, hr18⟩, hs18⟩
      have ra_18 := ra_17.below hs18
      have hb18 := hb17.trans (hs18.mono hb17.size)
      have y18_0 := (hb18.cell (p := ⟨w.heap.size, 0, none⟩) (show w.heap.size < w1.heap.size by omega)).trans k0
      have y18_1 := (hb18.cell (p := ⟨w.heap.size, 1, none⟩) (show w.heap.size < w1.heap.size by omega)).trans k1
      have y18_2 := (hb18.cell (p := ⟨w.heap.size, 2, none⟩) (show w.heap.size < w1.heap.size by omega)).trans k2
      have y18_3 := (hb18.cell (p := ⟨w.heap.size, 3, none⟩) (show w.heap.size < w1.heap.size by omega)).trans k3
      have y18_4 := (hb18.cell (p := ⟨w.heap.size, 4, none⟩) (show w.heap.size < w1.heap.size by omega)).trans k4
      go_wp2_with fail
      refine hK.out _ _ ⟨y18_0, y18_1, y18_2, y18_3, y18_4⟩ (fun hS => ?_)
      clear hK
      try simp only [Act.put, List.setIfInBounds_toArray, List.set_cons_zero, List.set_cons_succ]
      refine wpAnyH_oneD (i := 9) rfl (by kernel_rfl) (fun K hK => ?_)
      go_simp
      have HC := Lib.hid (owing_any (x.with_ [leftOf f j]) D1b d1b D2b d2b D3b d3b j W18 hr18 (by show j < x.next.length; rw [HX.out.next]; omega) (by show x.next.length ≤ _; rw [HX.out.next]; omega))
      refine Calls.mono HC.out ?_
      clear HC
      rintro e W19 ⟨v, rfl, ⟨D1c, d1c, D2c, d2c, D3c, d3c, rfl, hr19⟩, hs19⟩
      have ra_19 := ra_18.below hs19
      have hb19 := hb18.trans (hs19.mono hb18.size)
      have y19_0 := (hb19.cell (p := ⟨w.heap.size, 0, none⟩) (show w.heap.size < w1.heap.size by omega)).trans k0
      have y19_1 := (hb19.cell (p := ⟨w.heap.size, 1, none⟩) (show w.heap.size < w1.heap.size by omega)).trans k1
      have y19_2 := (hb19.cell (p := ⟨w.heap.size, 2, none⟩) (show w.heap.size < w1.heap.size by omega)).trans k2
      have y19_3 := (hb19.cell (p := ⟨w.heap.size, 3, none⟩) (show w.heap.size < w1.heap.size by omega)).trans k3
      have y19_4 := (hb19.cell (p := ⟨w.heap.size, 4, none⟩) (show w.heap.size < w1.heap.size by omega)).trans k4
      go_wp2_with fail
      refine hK.out _ _ ⟨y19_0, y19_1, y19_2, y19_3, y19_4⟩ (fun hS => ?_)
      clear hK
      try simp only [Act.put, List.setIfInBounds_toArray, List.set_cons_zero, List.set_cons_succ]
      refine wpAnyH_oneD (i := 10) rfl (by kernel_rfl) (fun K hK => ?_)
      go_simp
      have hs20 := fun o : Obj => hb19.trans (((Below.refl W19.heap.size W19).alloc (Nat.le_refl _) o).mono hb19.size)
      refine hK.out _ _ ⟨((hs20 _).cell (p := ⟨w.heap.size, 0, none⟩) (show w.heap.size < w1.heap.size by omega)).trans k0, ((hs20 _).cell (p := ⟨w.heap.size, 1, none⟩) (show w.heap.size < w1.heap.size by omega)).trans k1, ((hs20 _).cell (p := ⟨w.heap.size, 2, none⟩) (show w.heap.size < w1.heap.size by omega)).trans k2, ((hs20 _).cell (p := ⟨w.heap.size, 3, none⟩) (show w.heap.size < w1.heap.size by omega)).trans k3, ((hs20 _).cell (p := ⟨w.heap.size, 4, none⟩) (show w.heap.size < w1.heap.size by omega)).trans k4⟩ (fun hS => ?_)
      clear hK
      try simp only [Act.put, List.setIfInBounds_toArray, List.set_cons_zero, List.set_cons_succ]
      refine wpAnyH_takeD (i := 11) (v := ?_) rfl (by kernel_rfl) (by kernel_rfl) (by kernel_rfl) (fun _ _ _ h => h) (Or.inl ⟨by kernel_rfl, ?_⟩) hS ?_
      rotate_left 1
      · (intro w' hSw; (try dsimp only at hSw); go_simp; try (with_reducible rfl))
      try simp only [Act.put, List.setIfInBounds_toArray, List.set_cons_zero, List.set_cons_succ]
      refine wpAnyH_done (by kernel_rfl) ?_ _
      clear hS
      go_wp2
      go_ret
      exact splits_two (x := x.with_ [rightOf f j]) (y := ((x.with_ [leftOf f j]).owing j)) (HB.out.trans (hb19.mono (by omega))) ra_19 hr19 (by first | rfl | simp [Way.owing, Way.with_]) (by first | rfl | simp [Way.owing, Way.with_]) (by first | rfl | simp [Way.owing, Way.with_]) (by first | rfl | simp [Way.owing, Way.with_]) (by first | rfl | simp [Way.owing, Way.with_]) (by first | rfl | simp [Way.owing, Way.with_]) (by first | rfl | simp [Way.owing, Way.with_]) (by first | rfl | simp [Way.owing, Way.with_]) (by first | rfl | simp [Way.owing, Way.with_]) (by first | rfl | simp [Way.owing, Way.with_])
    · skip
      go_simp
      obtain ⟨W21, hw21⟩ : ∃ W, W = W15.alloc (.cells #[.int .i64 (leftOf f j : Int)] 3) := ⟨_, rfl⟩
      have hs21 : Below W15.heap.size W15 W21 := by rw [hw21]; exact (Below.refl _ _).alloc (Nat.le_refl _) _
      have hn21 : Sl W21 W21.heap.size 1 (some ⟨W15.heap.size, 0, none⟩) 1 1 (icells (natI [leftOf f j])) := by rw [hw21]; exact new_ints W15 [leftOf f j] (by simp) (by simp)
      rw [← hw21]
      clear hw21
      have na_21 := (hn15.below hs21 (Nat.le_refl _)).up hs21.size
      have hb21 := hb15.trans (hs21.mono hb15.size)
      have y21_0 := (hb21.cell (p := ⟨w.heap.size, 0, none⟩) (show w.heap.size < w1.heap.size by omega)).trans k0
      have y21_1 := (hb21.cell (p := ⟨w.heap.size, 1, none⟩) (show w.heap.size < w1.heap.size by omega)).trans k1
      have y21_2 := (hb21.cell (p := ⟨w.heap.size, 2, none⟩) (show w.heap.size < w1.heap.size by omega)).trans k2
      have y21_3 := (hb21.cell (p := ⟨w.heap.size, 3, none⟩) (show w.heap.size < w1.heap.size by omega)).trans k3
      have y21_4 := (hb21.cell (p := ⟨w.heap.size, 4, none⟩) (show w.heap.size < w1.heap.size by omega)).trans k4
      refine hK.out _ _ ⟨y21_0, y21_1, y21_2, y21_3, y21_4⟩ (fun hS => ?_)
      clear hK
      try simp only [Act.put, List.setIfInBounds_toArray, List.set_cons_zero, List.set_cons_succ]
      refine wpAnyH_oneD (i := 3) rfl (by kernel_rfl) (fun K hK => ?_)
      go_simp
      have HC := Lib.hid (with_any x A1 c1 A2 c2 A3 c3 _ _ [rightOf f j] W21 (hR.out.below hb21) na_21 (by simp) ht)
      refine Calls.mono HC.out ?_
      clear HC
      rintro e W22 ⟨v, rfl, ⟨D1a, d1a, D2a, d2a, D3a, d3a, rfl, hr22⟩, hs22⟩
      have nb_22 := (hn21.below hs22 (Nat.le_refl _)).up hs22.size
      have hb22 := hb21.trans (hs22.mono hb21.size)
      have y22_0 := (hb22.cell (p := ⟨w.heap.size, 0, none⟩) (show w.heap.size < w1.heap.size by omega)).trans k0
      have y22_1 := (hb22.cell (p := ⟨w.heap.size, 1, none⟩) (show w.heap.size < w1.heap.size by omega)).trans k1
      have y22_2 := (hb22.cell (p := ⟨w.heap.size, 2, none⟩) (show w.heap.size < w1.heap.size by omega)).trans k2
      have y22_3 := (hb22.cell (p := ⟨w.heap.size, 3, none⟩) (show w.heap.size < w1.heap.size by omega)).trans k3
      have y22_4 := (hb22.cell (p := ⟨w.heap.size, 4, none⟩) (show w.heap.size < w1.heap.size by omega)).trans k4
      go_wp2_with fail
      refine hK.out _ _ ⟨y22_0, y22_1, y22_2, y22_3, y22_4⟩ (fun hS => ?_)
      clear hK
      try simp only [Act.put, List.setIfInBounds_toArray, List.set_cons_zero, List.set_cons_succ]
      refine wpAnyH_oneD (i := 7) rfl (by kernel_rfl) (fun K hK => ?_)
      go_simp
      have HC := Lib.hid (with_any x A1 c1 A2 c2 A3 c3 _ _ [leftOf f j] W22 (hR.out.below hb22) nb_22 (by simp) ht)
      refine Calls.mono HC.out ?_
      clear HC
      rintro e W23 ⟨v, rfl, ⟨D1b, d1b, D2b, d2b, D3b, d3b, rfl, hr23⟩, hs23⟩
      have ra_23 := hr22.below hs23
      have hb23 := hb22.trans (hs23.mono hb22.size)
      have y23_0 := (hb23.cell (p := ⟨w.heap.size, 0, none⟩) (show w.heap.size < w1.heap.size by omega)).trans k0
      have y23_1 := (hb23.cell (p := ⟨w.heap.size, 1, none⟩) (show w.heap.size < w1.heap.size by omega)).trans k1
      have y23_2 := (hb23.cell (p := ⟨w.heap.size, 2, none⟩) (show w.heap.size < w1.heap.size by omega)).trans k2
      have y23_3 := (hb23.cell (p := ⟨w.heap.size, 3, none⟩) (show w.heap.size < w1.heap.size by omega)).trans k3
      have y23_4 := (hb23.cell (p := ⟨w.heap.size, 4, none⟩) (show w.heap.size < w1.heap.size by omega)).trans k4
      go_wp2_with fail
      refine hK.out _ _ ⟨y23_0, y23_1, y23_2, y23_3, y23_4⟩ (fun hS => ?_)
      clear hK
      try simp only [Act.put, List.setIfInBounds_toArray, List.set_cons_zero, List.set_cons_succ]
      refine wpAnyH_oneD (i := 9) rfl (by kernel_rfl) (fun K hK => ?_)
      go_simp
      have HC := Lib.hid (owing_any (x.with_ [leftOf f j]) D1b d1b D2b d2b D3b d3b j W23 hr23 (by show j < x.next.length; rw [HX.out.next]; omega) (by show x.next.length ≤ _; rw [HX.out.next]; omega))
      refine Calls.mono HC.out ?_
      clear HC
      rintro e W24 ⟨v, rfl, ⟨D1c, d1c, D2c, d2c, D3c, d3c, rfl, hr24⟩, hs24⟩
      have ra_24 := ra_23.below hs24
      have hb24 := hb23.trans (hs24.mono hb23.size)
      have y24_0 := (hb24.cell (p := ⟨w.heap.size, 0, none⟩) (show w.heap.size < w1.heap.size by omega)).trans k0
      have y24_1 := (hb24.cell (p := ⟨w.heap.size, 1, none⟩) (show w.heap.size < w1.heap.size by omega)).trans k1
      have y24_2 := (hb24.cell (p := ⟨w.heap.size, 2, none⟩) (show w.heap.size < w1.heap.size by omega)).trans k2
      have y24_3 := (hb24.cell (p := ⟨w.heap.size, 3, none⟩) (show w.heap.size < w1.heap.size by omega)).trans k3
      have y24_4 := (hb24.cell (p := ⟨w.heap.size, 4, none⟩) (show w.heap.size < w1.heap.size by omega)).trans k4
      go_wp2_with fail
      refine hK.out _ _ ⟨y24_0, y24_1, y24_2, y24_3, y24_4⟩ (fun hS => ?_)
      clear hK
      try simp only [Act.put, List.setIfInBounds_toArray, List.set_cons_zero, List.set_cons_succ]
      refine wpAnyH_oneD (i := 10) rfl (by kernel_rfl) (fun K hK => ?_)
      go_simp
      have hs25 := fun o : Obj => hb24.trans (((Below.refl W24.heap.size W24).alloc (Nat.le_refl _) o).mono hb24.size)
      refine hK.out _ _ ⟨((hs25 _).cell (p := ⟨w.heap.size, 0, none⟩) (show w.heap.size < w1.heap.size by omega)).trans k0, ((hs25 _).cell (p := ⟨w.heap.size, 1, none⟩) (show w.heap.size < w1.heap.size by omega)).trans k1, ((hs25 _).cell (p := ⟨w.heap.size, 2, none⟩) (show w.heap.size < w1.heap.size by omega)).trans k2, ((hs25 _).cell (p := ⟨w.heap.size, 3, none⟩) (show w.heap.size < w1.heap.size by omega)).trans k3, ((hs25 _).cell (p := ⟨w.heap.size, 4, none⟩) (show w.heap.size < w1.heap.size by omega)).trans k4⟩ (fun hS => ?_)
      clear hK
      try simp only [Act.put, List.setIfInBounds_toArray, List.set_cons_zero, List.set_cons_succ]
      refine wpAnyH_takeD (i := 11) (v := ?_) rfl (by kernel_rfl) (by kernel_rfl) (by kernel_rfl) (fun _ _ _ h => h) (Or.inl ⟨by kernel_rfl, ?_⟩) hS ?_
      rotate_left 1
      · (intro w' hSw; (try dsimp only at hSw); go_simp; try (with_reducible rfl))
      try simp only [Act.put, List.setIfInBounds_toArray, List.set_cons_zero, List.set_cons_succ]
      refine wpAnyH_done (by kernel_rfl) ?_ _
      clear hS
      go_wp2
      go_ret
      exact splits_two (x := x.with_ [rightOf f j]) (y := ((x.with_ [leftOf f j]).owing j)) (HB.out.trans (hb24.mono (by omega))) ra_24 hr24 (by first | rfl | simp [Way.owing, Way.with_]) (by first | rfl | simp [Way.owing, Way.with_]) (by first | rfl | simp [Way.owing, Way.with_]) (by first | rfl | simp [Way.owing, Way.with_]) (by first | rfl | simp [Way.owing, Way.with_]) (by first | rfl | simp [Way.owing, Way.with_]) (by first | rfl | simp [Way.owing, Way.with_]) (by first | rfl | simp [Way.owing, Way.with_]) (by first | rfl | simp [Way.owing, Way.with_]) (by first | rfl | simp [Way.owing, Way.with_])
  · skip
    go_simp
    obtain ⟨W26, hw26⟩ : ∃ W, W = (w1.alloc (.cells #[.int .i64 (leftOf f j : Int)] 3)).drew := ⟨_, rfl⟩
    have hs26 : Below w1.heap.size w1 W26 := by rw [hw26]; exact ((Below.refl _ _).alloc (Nat.le_refl _) _).drew
    have hn26 : Sl W26 W26.heap.size 1 (some ⟨w1.heap.size, 0, none⟩) 1 1 (icells (natI [leftOf f j])) := by rw [hw26]; exact (new_ints w1 [leftOf f j] (by simp) (by simp)).drew
    rw [← hw26]
    clear hw26
    have hb26 := hs26
    have y26_0 := (hb26.cell (p := ⟨w.heap.size, 0, none⟩) (show w.heap.size < w1.heap.size by omega)).trans k0
    have y26_1 := (hb26.cell (p := ⟨w.heap.size, 1, none⟩) (show w.heap.size < w1.heap.size by omega)).trans k1
    have y26_2 := (hb26.cell (p := ⟨w.heap.size, 2, none⟩) (show w.heap.size < w1.heap.size by omega)).trans k2
    have y26_3 := (hb26.cell (p := ⟨w.heap.size, 3, none⟩) (show w.heap.size < w1.heap.size by omega)).trans k3
    have y26_4 := (hb26.cell (p := ⟨w.heap.size, 4, none⟩) (show w.heap.size < w1.heap.size by omega)).trans k4
    refine hK.out _ _ ⟨y26_0, y26_1, y26_2, y26_3, y26_4⟩ (fun hS => ?_)
    clear hK
    try simp only [Act.put, List.setIfInBounds_toArray, List.set_cons_zero, List.set_cons_succ]
    refine wpAnyH_oneD (i := 2) rfl (by kernel_rfl) (fun K hK => ?_)
    go_simp
    obtain ⟨W27, hw27⟩ : ∃ W, W = W26.alloc (.cells #[.int .i64 (rightOf f j : Int)] 3) := ⟨_, rfl⟩
    have hs27 : Below W26.heap.size W26 W27 := by rw [hw27]; exact (Below.refl _ _).alloc (Nat.le_refl _) _
    have hn27 : Sl W27 W27.heap.size 1 (some ⟨W26.heap.size, 0, none⟩) 1 1 (icells (natI [rightOf f j])) := by rw [hw27]; exact new_ints W26 [rightOf f j] (by simp) (by simp)
    rw [← hw27]
    clear hw27
    have nb_27 := (hn26.below hs27 (Nat.le_refl _)).up hs27.size
    have hb27 := hb26.trans (hs27.mono hb26.size)
    have y27_0 := (hb27.cell (p := ⟨w.heap.size, 0, none⟩) (show w.heap.size < w1.heap.size by omega)).trans k0
    have y27_1 := (hb27.cell (p := ⟨w.heap.size, 1, none⟩) (show w.heap.size < w1.heap.size by omega)).trans k1
    have y27_2 := (hb27.cell (p := ⟨w.heap.size, 2, none⟩) (show w.heap.size < w1.heap.size by omega)).trans k2
    have y27_3 := (hb27.cell (p := ⟨w.heap.size, 3, none⟩) (show w.heap.size < w1.heap.size by omega)).trans k3
    have y27_4 := (hb27.cell (p := ⟨w.heap.size, 4, none⟩) (show w.heap.size < w1.heap.size by omega)).trans k4
    refine hK.out _ _ ⟨y27_0, y27_1, y27_2, y27_3, y27_4⟩ (fun hS => ?_)
    clear hK
    try simp only [Act.put, List.setIfInBounds_toArray, List.set_cons_zero, List.set_cons_succ]
    refine wpAnyH_oneD (i := 3) rfl (by kernel_rfl) (fun K hK => ?_)
    go_simp
    have HC := Lib.hid (with_any x A1 c1 A2 c2 A3 c3 _ _ [rightOf f j] W27 (hR.out.below hb27) hn27 (by simp) ht)
    refine Calls.mono HC.out ?_
    clear HC
    rintro e W28 ⟨v, rfl, ⟨D1a, d1a, D2a, d2a, D3a, d3a, rfl, hr28⟩, hs28⟩
    have nb_28 := (nb_27.below hs28 (Nat.le_refl _)).up hs28.size
    have hb28 := hb27.trans (hs28.mono hb27.size)
    have y28_0 := (hb28.cell (p := ⟨w.heap.size, 0, none⟩) (show w.heap.size < w1.heap.size by omega)).trans k0
    have y28_1 := (hb28.cell (p := ⟨w.heap.size, 1, none⟩) (show w.heap.size < w1.heap.size by omega)).trans k1
    have y28_2 := (hb28.cell (p := ⟨w.heap.size, 2, none⟩) (show w.heap.size < w1.heap.size by omega)).trans k2
    have y28_3 := (hb28.cell (p := ⟨w.heap.size, 3, none⟩) (show w.heap.size < w1.heap.size by omega)).trans k3
    have y28_4 := (hb28.cell (p := ⟨w.heap.size, 4, none⟩) (show w.heap.size < w1.heap.size by omega)).trans k4
    go_wp2_with fail
    refine hK.out _ _ ⟨y28_0, y28_1, y28_2, y28_3, y28_4⟩ (fun hS => ?_)
    clear hK
    try simp only [Act.put, List.setIfInBounds_toArray, List.set_cons_zero, List.set_cons_succ]
    refine wpAnyH_oneD (i := 7) rfl (by kernel_rfl) (fun K hK => ?_)
    go_simp
    have HC := Lib.hid (with_any x A1 c1 A2 c2 A3 c3 _ _ [leftOf f j] W28 (hR.out.below hb28) nb_28 (by simp) ht)
    refine Calls.mono HC.out ?_
    clear HC
    rintro e W29 ⟨v, rfl, ⟨D1b, d1b, D2b, d2b, D3b, d3b, rfl, hr29⟩, hs29⟩
    have ra_29 := hr28.below hs29
    have hb29 := hb28.trans (hs29.mono hb28.size)
    have y29_0 := (hb29.cell (p := ⟨w.heap.size, 0, none⟩) (show w.heap.size < w1.heap.size by omega)).trans k0
    have y29_1 := (hb29.cell (p := ⟨w.heap.size, 1, none⟩) (show w.heap.size < w1.heap.size by omega)).trans k1
    have y29_2 := (hb29.cell (p := ⟨w.heap.size, 2, none⟩) (show w.heap.size < w1.heap.size by omega)).trans k2
    have y29_3 := (hb29.cell (p := ⟨w.heap.size, 3, none⟩) (show w.heap.size < w1.heap.size by omega)).trans k3
    have y29_4 := (hb29.cell (p := ⟨w.heap.size, 4, none⟩) (show w.heap.size < w1.heap.size by omega)).trans k4
    go_wp2_with fail
    refine hK.out _ _ ⟨y29_0, y29_1, y29_2, y29_3, y29_4⟩ (fun hS => ?_)
    clear hK
    try simp only [Act.put, List.setIfInBounds_toArray, List.set_cons_zero, List.set_cons_succ]
    refine wpAnyH_oneD (i := 9) rfl (by kernel_rfl) (fun K hK => ?_)
    go_simp
    have HC := Lib.hid (owing_any (x.with_ [leftOf f j]) D1b d1b D2b d2b D3b d3b j W29 hr29 (by show j < x.next.length; rw [HX.out.next]; omega) (by show x.next.length ≤ _; rw [HX.out.next]; omega))
    refine Calls.mono HC.out ?_
    clear HC
    rintro e W30 ⟨v, rfl, ⟨D1c, d1c, D2c, d2c, D3c, d3c, rfl, hr30⟩, hs30⟩
    have ra_30 := ra_29.below hs30
    have hb30 := hb29.trans (hs30.mono hb29.size)
    have y30_0 := (hb30.cell (p := ⟨w.heap.size, 0, none⟩) (show w.heap.size < w1.heap.size by omega)).trans k0
    have y30_1 := (hb30.cell (p := ⟨w.heap.size, 1, none⟩) (show w.heap.size < w1.heap.size by omega)).trans k1
    have y30_2 := (hb30.cell (p := ⟨w.heap.size, 2, none⟩) (show w.heap.size < w1.heap.size by omega)).trans k2
    have y30_3 := (hb30.cell (p := ⟨w.heap.size, 3, none⟩) (show w.heap.size < w1.heap.size by omega)).trans k3
    have y30_4 := (hb30.cell (p := ⟨w.heap.size, 4, none⟩) (show w.heap.size < w1.heap.size by omega)).trans k4
    go_wp2_with fail
    refine hK.out _ _ ⟨y30_0, y30_1, y30_2, y30_3, y30_4⟩ (fun hS => ?_)
    clear hK
    try simp only [Act.put, List.setIfInBounds_toArray, List.set_cons_zero, List.set_cons_succ]
    refine wpAnyH_oneD (i := 10) rfl (by kernel_rfl) (fun K hK => ?_)
    go_simp
    have hs31 := fun o : Obj => hb30.trans (((Below.refl W30.heap.size W30).alloc (Nat.le_refl _) o).mono hb30.size)
    refine hK.out _ _ ⟨((hs31 _).cell (p := ⟨w.heap.size, 0, none⟩) (show w.heap.size < w1.heap.size by omega)).trans k0, ((hs31 _).cell (p := ⟨w.heap.size, 1, none⟩) (show w.heap.size < w1.heap.size by omega)).trans k1, ((hs31 _).cell (p := ⟨w.heap.size, 2, none⟩) (show w.heap.size < w1.heap.size by omega)).trans k2, ((hs31 _).cell (p := ⟨w.heap.size, 3, none⟩) (show w.heap.size < w1.heap.size by omega)).trans k3, ((hs31 _).cell (p := ⟨w.heap.size, 4, none⟩) (show w.heap.size < w1.heap.size by omega)).trans k4⟩ (fun hS => ?_)
    clear hK
    try simp only [Act.put, List.setIfInBounds_toArray, List.set_cons_zero, List.set_cons_succ]
    refine wpAnyH_takeD (i := 11) (v := ?_) rfl (by kernel_rfl) (by kernel_rfl) (by kernel_rfl) (fun _ _ _ h => h) (Or.inl ⟨by kernel_rfl, ?_⟩) hS ?_
    rotate_left 1
    · (intro w' hSw; (try dsimp only at hSw); go_simp; try (with_reducible rfl))
    try simp only [Act.put, List.setIfInBounds_toArray, List.set_cons_zero, List.set_cons_succ]
    refine wpAnyH_done (by kernel_rfl) ?_ _
    clear hS
    go_wp2
    go_ret
    exact splits_two (x := x.with_ [rightOf f j]) (y := ((x.with_ [leftOf f j]).owing j)) (HB.out.trans (hb30.mono (by omega))) ra_30 hr30 (by first | rfl | simp [Way.owing, Way.with_]) (by first | rfl | simp [Way.owing, Way.with_]) (by first | rfl | simp [Way.owing, Way.with_]) (by first | rfl | simp [Way.owing, Way.with_]) (by first | rfl | simp [Way.owing, Way.with_]) (by first | rfl | simp [Way.owing, Way.with_]) (by first | rfl | simp [Way.owing, Way.with_]) (by first | rfl | simp [Way.owing, Way.with_]) (by first | rfl | simp [Way.owing, Way.with_]) (by first | rfl | simp [Way.owing, Way.with_])
set_option maxHeartbeats 8000000 in
set_option maxRecDepth 100000 in
theorem split10_any (f : List Nd) (x : Way) (A1 : Option Addr) (c1 : Nat) (A2 : Option Addr) (c2 : Nat) (A3 : Option Addr) (c3 : Nat) (Af : Option Addr) (cf j : Nat) (w : World) (B : Nat) (h : WR w x A1 c1 A2 c2 A3 c3) (hf : Sl w B 2 Af f.length cf (ncells f)) (hB : B ≤ w.heap.size) (hl : f.length ≤ 1000000)
    (hN : isN f = true) (hj : j < f.length) (hx : WOk f x) (_hn : x.need < 256) (_hb : x.ban < 256) (ht : x.todo.length ≤ 1000000) (hop : opAt f j = 10) :
    Calls Tryd.prog 54 #[.agg #[.int .u64 (x.need : Int), .int .u64 (x.ban : Int), .slice A1 x.now.length c1, .slice A2 x.next.length c2, .slice A3 x.todo.length c3], .slice Af f.length cf, .int .i64 (j : Int)] w (Splits w (splitW f j x)) := by
  have HK := Lib.hid (fun (w' : World) (hb : Below w.heap.size w w') => Kids_any Af cf f (j : Int) w' B (hf.below hb hB) (Nat.le_trans hB hb.size) (by omega) ⟨by omega, by omega⟩)
  have hF := ndF hN hj
  have HR := Lib.hid h
  have HFS := Lib.hid hf
  have HX := Lib.hid hx
  have hcf := hf.cap
  obtain ⟨b, o, rfl, hbB, hc0, hc1⟩ := rd_nd hf.rd hj
  have hge : f[j] = f.getD j ⟨0, 0⟩ := by simp [List.getD, hj]
  rw [hge] at hc0 hc1
  have hb0 : Below w.heap.size w (w.alloc (.cells #[.int .u64 (x.need : Int), .int .u64 (x.ban : Int), .slice A1 x.now.length c1, .slice A2 x.next.length c2, .slice A3 x.todo.length c3] 100)) := (Below.refl _ _).alloc (Nat.le_refl _) _
  have hx0 := heap_alloc_new w (.cells #[.int .u64 (x.need : Int), .int .u64 (x.ban : Int), .slice A1 x.now.length c1, .slice A2 x.next.length c2, .slice A3 x.todo.length c3] 100)
  have hxz : (w.alloc (.cells #[.int .u64 (x.need : Int), .int .u64 (x.ban : Int), .slice A1 x.now.length c1, .slice A2 x.next.length c2, .slice A3 x.todo.length c3] 100)).heap.size = w.heap.size + 1 := by simp
  obtain ⟨W0, hW0⟩ : ∃ W0, w.alloc (.cells #[.int .u64 (x.need : Int), .int .u64 (x.ban : Int), .slice A1 x.now.length c1, .slice A2 x.next.length c2, .slice A3 x.todo.length c3] 100) = W0 := ⟨_, rfl⟩
  rw [hW0] at hb0 hx0 hxz
  have HW0 := Lib.hid hW0
  clear hW0 h hx hge
  change w.cell? ⟨b, o + j * 2, none⟩ = some (.int .i64 (opAt f j)) at hc0
  have hs : splitW f j x = [x.with_ [leftOf f j, rightOf f j], (x.with_ [rightOf f j]).owing j] := by unfold splitW; rw [hop]; rfl
  obtain ⟨hk, _, _⟩ := hF.kid2 (.inr (.inr (.inr hop)))
  rw [hs, hop] at *
  rw [hk] at HK
  clear hF hs hk
  go_enter Tryd.func54, Tryd.ntmps54
  go_wp2_with fail
  rw [HW0.out]
  go_wp2_with fail
  refine Calls.mono (HK.out _ hb0) ?_
  rintro e w1 ⟨rfl, hb1⟩
  rw [hxz] at hb1
  have hz1 := hb1.size
  rw [hxz] at hz1
  have hb01 : Below w.heap.size w w1 := hb0.trans (hb1.mono (by omega))
  have q0 := (hb1.block w.heap.size (by omega)).trans hx0
  have k0 : w1.cell? ⟨w.heap.size, 0, none⟩ = some (.int .u64 (x.need : Int)) := by rw [cell_of_row _ _ 0 _ _ (0, 0) q0]; rfl
  have k1 : w1.cell? ⟨w.heap.size, 1, none⟩ = some (.int .u64 (x.ban : Int)) := by rw [cell_of_row _ _ 1 _ _ (0, 0) q0]; rfl
  have k2 : w1.cell? ⟨w.heap.size, 2, none⟩ = some (.slice A1 x.now.length c1) := by rw [cell_of_row _ _ 2 _ _ (0, 0) q0]; rfl
  have k3 : w1.cell? ⟨w.heap.size, 3, none⟩ = some (.slice A2 x.next.length c2) := by rw [cell_of_row _ _ 3 _ _ (0, 0) q0]; rfl
  have k4 : w1.cell? ⟨w.heap.size, 4, none⟩ = some (.slice A3 x.todo.length c3) := by rw [cell_of_row _ _ 4 _ _ (0, 0) q0]; rfl
  have k5 := (hb01.cell (p := ⟨b, o + j * 2, none⟩) (show b < w.heap.size by omega)).trans hc0
  have k6 := (hb01.cell (p := ⟨b, o + j * 2 + 1, none⟩) (show b < w.heap.size by omega)).trans hc1
  have hR := Lib.hid (HR.out.below hb01)
  have Q0 := Lib.hid q0
  have HB := Lib.hid hb01
  clear hb0 hx0 q0 hb01 HK HW0 hc0 hc1
  go_wp2_with fail
  refine wp_region_held_drew (S := fun w' => w'.cell? ⟨w.heap.size, 0, none⟩ = some (.int .u64 (x.need : Int)) ∧ w'.cell? ⟨w.heap.size, 1, none⟩ = some (.int .u64 (x.ban : Int)) ∧ w'.cell? ⟨w.heap.size, 2, none⟩ = some (.slice A1 x.now.length c1) ∧ w'.cell? ⟨w.heap.size, 3, none⟩ = some (.slice A2 x.next.length c2) ∧ w'.cell? ⟨w.heap.size, 4, none⟩ = some (.slice A3 x.todo.length c3)) (by kernel_rfl) ⟨k0, k1, k2, k3, k4⟩ (fun hS => ?_)
  refine wpAnyH_takeD (i := 0) (v := ?_) rfl (by kernel_rfl) (by kernel_rfl) (by kernel_rfl) (fun _ _ _ h => h) (Or.inl ⟨by kernel_rfl, ?_⟩) hS ?_
  rotate_left 1
  · (intro w' hSw; (try dsimp only at hSw); go_simp; try (with_reducible rfl))
  try simp only [Act.put, List.setIfInBounds_toArray, List.set_cons_zero, List.set_cons_succ]
  refine wpAnyH_takeD (i := 1) (v := ?_) rfl (by kernel_rfl) (by kernel_rfl) (by kernel_rfl) (fun _ _ _ h => h) (Or.inl ⟨by kernel_rfl, ?_⟩) hS ?_
  rotate_left 1
  · (intro w' hSw; (try dsimp only at hSw); go_simp; try (with_reducible rfl))
  try simp only [Act.put, List.setIfInBounds_toArray, List.set_cons_zero, List.set_cons_succ]
  refine wpAnyH_takeD (i := 2) (v := ?_) rfl (by kernel_rfl) (by kernel_rfl) (by kernel_rfl) (fun _ _ _ h => h) (Or.inl ⟨by kernel_rfl, ?_⟩) hS ?_
  rotate_left 1
  · (intro w' hSw; (try dsimp only at hSw); go_simp; try (with_reducible rfl))
  try simp only [Act.put, List.setIfInBounds_toArray, List.set_cons_zero, List.set_cons_succ]
  refine wpAnyH_takeD (i := 5) (v := ?_) rfl (by kernel_rfl) (by kernel_rfl) (by kernel_rfl) (fun _ _ _ h => h) (Or.inl ⟨by kernel_rfl, ?_⟩) hS ?_
  rotate_left 1
  · (intro w' hSw; (try dsimp only at hSw); go_simp; try (with_reducible rfl))
  try simp only [Act.put, List.setIfInBounds_toArray, List.set_cons_zero, List.set_cons_succ]
  refine wpAnyH_takeD (i := 6) (v := ?_) rfl (by kernel_rfl) (by kernel_rfl) (by kernel_rfl) (fun _ _ _ h => h) (Or.inl ⟨by kernel_rfl, ?_⟩) hS ?_
  rotate_left 1
  · (intro w' hSw; (try dsimp only at hSw); go_simp; try (with_reducible rfl))
  try simp only [Act.put, List.setIfInBounds_toArray, List.set_cons_zero, List.set_cons_succ]
  refine wpAnyH_takeD (i := 9) (v := ?_) rfl (by kernel_rfl) (by kernel_rfl) (by kernel_rfl) (fun _ _ _ h => h) (Or.inl ⟨by kernel_rfl, ?_⟩) hS ?_
  rotate_left 1
  · (intro w' hSw; (try dsimp only at hSw); go_simp; try (with_reducible rfl))
  try simp only [Act.put, List.setIfInBounds_toArray, List.set_cons_zero, List.set_cons_succ]
  refine wpAnyH_ready (rs := [3, 7]) (by kernel_rfl) (by simp) ?_
  refine (allReadyH_consD (i := 3) rfl (fun K hK => ?_) (allReadyH_consD (i := 7) rfl (fun K hK => ?_) AllReadyH.nil))
  · skip
    go_simp
    obtain ⟨W32, hw32⟩ : ∃ W, W = (w1.alloc (.cells #[.int .i64 (leftOf f j : Int), .int .i64 (rightOf f j : Int)] 3)).drew := ⟨_, rfl⟩
    have hs32 : Below w1.heap.size w1 W32 := by rw [hw32]; exact ((Below.refl _ _).alloc (Nat.le_refl _) _).drew
    have hn32 : Sl W32 W32.heap.size 1 (some ⟨w1.heap.size, 0, none⟩) 2 2 (icells (natI [leftOf f j, rightOf f j])) := by rw [hw32]; exact (new_ints w1 [leftOf f j, rightOf f j] (by simp) (by simp)).drew
    rw [← hw32]
    clear hw32
    have hb32 := hs32
    have y32_0 := (hb32.cell (p := ⟨w.heap.size, 0, none⟩) (show w.heap.size < w1.heap.size by omega)).trans k0
    have y32_1 := (hb32.cell (p := ⟨w.heap.size, 1, none⟩) (show w.heap.size < w1.heap.size by omega)).trans k1
    have y32_2 := (hb32.cell (p := ⟨w.heap.size, 2, none⟩) (show w.heap.size < w1.heap.size by omega)).trans k2
    have y32_3 := (hb32.cell (p := ⟨w.heap.size, 3, none⟩) (show w.heap.size < w1.heap.size by omega)).trans k3
    have y32_4 := (hb32.cell (p := ⟨w.heap.size, 4, none⟩) (show w.heap.size < w1.heap.size by omega)).trans k4
    refine hK.out _ _ ⟨y32_0, y32_1, y32_2, y32_3, y32_4⟩ (fun hS => ?_)
    clear hK
    try simp only [Act.put, List.setIfInBounds_toArray, List.set_cons_zero, List.set_cons_succ]
    refine wpAnyH_ready (rs := [4, 7]) (by kernel_rfl) (by simp) ?_
    refine (allReadyH_consD (i := 4) rfl (fun K hK => ?_) (allReadyH_consD (i := 7) rfl (fun K hK => ?_) AllReadyH.nil))
    · skip
      go_simp
      have HC := Lib.hid (with_any x A1 c1 A2 c2 A3 c3 _ _ [leftOf f j, rightOf f j] W32 (hR.out.below hb32) hn32 (by simp) ht)
      refine Calls.mono HC.out ?_
      clear HC
      rintro e W33 ⟨v, rfl, ⟨D1a, d1a, D2a, d2a, D3a, d3a, rfl, hr33⟩, hs33⟩
      have hb33 := hb32.trans (hs33.mono hb32.size)
      have y33_0 := (hb33.cell (p := ⟨w.heap.size, 0, none⟩) (show w.heap.size < w1.heap.size by omega)).trans k0
      have y33_1 := (hb33.cell (p := ⟨w.heap.size, 1, none⟩) (show w.heap.size < w1.heap.size by omega)).trans k1
      have y33_2 := (hb33.cell (p := ⟨w.heap.size, 2, none⟩) (show w.heap.size < w1.heap.size by omega)).trans k2
      have y33_3 := (hb33.cell (p := ⟨w.heap.size, 3, none⟩) (show w.heap.size < w1.heap.size by omega)).trans k3
      have y33_4 := (hb33.cell (p := ⟨w.heap.size, 4, none⟩) (show w.heap.size < w1.heap.size by omega)).trans k4
      go_wp2_with fail
      refine hK.out _ _ ⟨y33_0, y33_1, y33_2, y33_3, y33_4⟩ (fun hS => ?_)
      clear hK
      try simp only [Act.put, List.setIfInBounds_toArray, List.set_cons_zero, List.set_cons_succ]
      refine wpAnyH_oneD (i := 7) rfl (by kernel_rfl) (fun K hK => ?_)
      go_simp
      obtain ⟨W34, hw34⟩ : ∃ W, W = W33.alloc (.cells #[.int .i64 (rightOf f j : Int)] 3) := ⟨_, rfl⟩
      have hs34 : Below W33.heap.size W33 W34 := by rw [hw34]; exact (Below.refl _ _).alloc (Nat.le_refl _) _
      have hn34 : Sl W34 W34.heap.size 1 (some ⟨W33.heap.size, 0, none⟩) 1 1 (icells (natI [rightOf f j])) := by rw [hw34]; exact new_ints W33 [rightOf f j] (by simp) (by simp)
      rw [← hw34]
      clear hw34
      have ra_34 := hr33.below hs34
      have hb34 := hb33.trans (hs34.mono hb33.size)
      have y34_0 := (hb34.cell (p := ⟨w.heap.size, 0, none⟩) (show w.heap.size < w1.heap.size by omega)).trans k0
      have y34_1 := (hb34.cell (p := ⟨w.heap.size, 1, none⟩) (show w.heap.size < w1.heap.size by omega)).trans k1
      have y34_2 := (hb34.cell (p := ⟨w.heap.size, 2, none⟩) (show w.heap.size < w1.heap.size by omega)).trans k2
      have y34_3 := (hb34.cell (p := ⟨w.heap.size, 3, none⟩) (show w.heap.size < w1.heap.size by omega)).trans k3
      have y34_4 := (hb34.cell (p := ⟨w.heap.size, 4, none⟩) (show w.heap.size < w1.heap.size by omega)).trans k4
      refine hK.out _ _ ⟨y34_0, y34_1, y34_2, y34_3, y34_4⟩ (fun hS => ?_)
      clear hK
      try simp only [Act.put, List.setIfInBounds_toArray, List.set_cons_zero, List.set_cons_succ]
      refine wpAnyH_oneD (i := 8) rfl (by kernel_rfl) (fun K hK => ?_)
      go_simp
      have HC := Lib.hid (with_any x A1 c1 A2 c2 A3 c3 _ _ [rightOf f j] W34 (hR.out.below hb34) hn34 (by simp) ht)
      refine Calls.mono HC.out ?_
      clear HC
      rintro e W35 ⟨v, rfl, ⟨D1b, d1b, D2b, d2b, D3b, d3b, rfl, hr35⟩, hs35⟩
      have ra_35 := ra_34.below hs35
      have hb35 := hb34.trans (hs35.mono hb34.size)
      have y35_0 := (hb35.cell (p := ⟨w.heap.size, 0, none⟩) (show w.heap.size < w1.heap.size by omega)).trans k0
      have y35_1 := (hb35.cell (p := ⟨w.heap.size, 1, none⟩) (show w.heap.size < w1.heap.size by omega)).trans k1
      have y35_2 := (hb35.cell (p := ⟨w.heap.size, 2, none⟩) (show w.heap.size < w1.heap.size by omega)).trans k2
      have y35_3 := (hb35.cell (p := ⟨w.heap.size, 3, none⟩) (show w.heap.size < w1.heap.size by omega)).trans k3
      have y35_4 := (hb35.cell (p := ⟨w.heap.size, 4, none⟩) (show w.heap.size < w1.heap.size by omega)).trans k4
      go_wp2_with fail
      refine hK.out _ _ ⟨y35_0, y35_1, y35_2, y35_3, y35_4⟩ (fun hS => ?_)
      clear hK
      try simp only [Act.put, List.setIfInBounds_toArray, List.set_cons_zero, List.set_cons_succ]
      refine wpAnyH_oneD (i := 10) rfl (by kernel_rfl) (fun K hK => ?_)
      go_simp
      have HC := Lib.hid (owing_any (x.with_ [rightOf f j]) D1b d1b D2b d2b D3b d3b j W35 hr35 (by show j < x.next.length; rw [HX.out.next]; omega) (by show x.next.length ≤ _; rw [HX.out.next]; omega))
      refine Calls.mono HC.out ?_
      clear HC
      rintro e W36 ⟨v, rfl, ⟨D1c, d1c, D2c, d2c, D3c, d3c, rfl, hr36⟩, hs36⟩
      have ra_36 := ra_35.below hs36
      have hb36 := hb35.trans (hs36.mono hb35.size)
      have y36_0 := (hb36.cell (p := ⟨w.heap.size, 0, none⟩) (show w.heap.size < w1.heap.size by omega)).trans k0
      have y36_1 := (hb36.cell (p := ⟨w.heap.size, 1, none⟩) (show w.heap.size < w1.heap.size by omega)).trans k1
      have y36_2 := (hb36.cell (p := ⟨w.heap.size, 2, none⟩) (show w.heap.size < w1.heap.size by omega)).trans k2
      have y36_3 := (hb36.cell (p := ⟨w.heap.size, 3, none⟩) (show w.heap.size < w1.heap.size by omega)).trans k3
      have y36_4 := (hb36.cell (p := ⟨w.heap.size, 4, none⟩) (show w.heap.size < w1.heap.size by omega)).trans k4
      go_wp2_with fail
      refine hK.out _ _ ⟨y36_0, y36_1, y36_2, y36_3, y36_4⟩ (fun hS => ?_)
      clear hK
      try simp only [Act.put, List.setIfInBounds_toArray, List.set_cons_zero, List.set_cons_succ]
      refine wpAnyH_oneD (i := 11) rfl (by kernel_rfl) (fun K hK => ?_)
      go_simp
      have hs37 := fun o : Obj => hb36.trans (((Below.refl W36.heap.size W36).alloc (Nat.le_refl _) o).mono hb36.size)
      refine hK.out _ _ ⟨((hs37 _).cell (p := ⟨w.heap.size, 0, none⟩) (show w.heap.size < w1.heap.size by omega)).trans k0, ((hs37 _).cell (p := ⟨w.heap.size, 1, none⟩) (show w.heap.size < w1.heap.size by omega)).trans k1, ((hs37 _).cell (p := ⟨w.heap.size, 2, none⟩) (show w.heap.size < w1.heap.size by omega)).trans k2, ((hs37 _).cell (p := ⟨w.heap.size, 3, none⟩) (show w.heap.size < w1.heap.size by omega)).trans k3, ((hs37 _).cell (p := ⟨w.heap.size, 4, none⟩) (show w.heap.size < w1.heap.size by omega)).trans k4⟩ (fun hS => ?_)
      clear hK
      try simp only [Act.put, List.setIfInBounds_toArray, List.set_cons_zero, List.set_cons_succ]
      refine wpAnyH_takeD (i := 12) (v := ?_) rfl (by kernel_rfl) (by kernel_rfl) (by kernel_rfl) (fun _ _ _ h => h) (Or.inl ⟨by kernel_rfl, ?_⟩) hS ?_
      rotate_left 1
      · (intro w' hSw; (try dsimp only at hSw); go_simp; try (with_reducible rfl))
      try simp only [Act.put, List.setIfInBounds_toArray, List.set_cons_zero, List.set_cons_succ]
      refine wpAnyH_done (by kernel_rfl) ?_ _
      clear hS
      go_wp2
      go_ret
      exact splits_two (x := x.with_ [leftOf f j, rightOf f j]) (y := ((x.with_ [rightOf f j]).owing j)) (HB.out.trans (hb36.mono (by omega))) ra_36 hr36 (by first | rfl | simp [Way.owing, Way.with_]) (by first | rfl | simp [Way.owing, Way.with_]) (by first | rfl | simp [Way.owing, Way.with_]) (by first | rfl | simp [Way.owing, Way.with_]) (by first | rfl | simp [Way.owing, Way.with_]) (by first | rfl | simp [Way.owing, Way.with_]) (by first | rfl | simp [Way.owing, Way.with_]) (by first | rfl | simp [Way.owing, Way.with_]) (by first | rfl | simp [Way.owing, Way.with_]) (by first | rfl | simp [Way.owing, Way.with_])
    · skip
      go_simp
      obtain ⟨W38, hw38⟩ : ∃ W, W = W32.alloc (.cells #[.int .i64 (rightOf f j : Int)] 3) := ⟨_, rfl⟩
      have hs38 : Below W32.heap.size W32 W38 := by rw [hw38]; exact (Below.refl _ _).alloc (Nat.le_refl _) _
      have hn38 : Sl W38 W38.heap.size 1 (some ⟨W32.heap.size, 0, none⟩) 1 1 (icells (natI [rightOf f j])) := by rw [hw38]; exact new_ints W32 [rightOf f j] (by simp) (by simp)
      rw [← hw38]
      clear hw38
      have na_38 := (hn32.below hs38 (Nat.le_refl _)).up hs38.size
      have hb38 := hb32.trans (hs38.mono hb32.size)
      have y38_0 := (hb38.cell (p := ⟨w.heap.size, 0, none⟩) (show w.heap.size < w1.heap.size by omega)).trans k0
      have y38_1 := (hb38.cell (p := ⟨w.heap.size, 1, none⟩) (show w.heap.size < w1.heap.size by omega)).trans k1
      have y38_2 := (hb38.cell (p := ⟨w.heap.size, 2, none⟩) (show w.heap.size < w1.heap.size by omega)).trans k2
      have y38_3 := (hb38.cell (p := ⟨w.heap.size, 3, none⟩) (show w.heap.size < w1.heap.size by omega)).trans k3
      have y38_4 := (hb38.cell (p := ⟨w.heap.size, 4, none⟩) (show w.heap.size < w1.heap.size by omega)).trans k4
      refine hK.out _ _ ⟨y38_0, y38_1, y38_2, y38_3, y38_4⟩ (fun hS => ?_)
      clear hK
      try simp only [Act.put, List.setIfInBounds_toArray, List.set_cons_zero, List.set_cons_succ]
      refine wpAnyH_oneD (i := 4) rfl (by kernel_rfl) (fun K hK => ?_)
      go_simp
      have HC := Lib.hid (with_any x A1 c1 A2 c2 A3 c3 _ _ [leftOf f j, rightOf f j] W38 (hR.out.below hb38) na_38 (by simp) ht)
      refine Calls.mono HC.out ?_
      clear HC
      rintro e W39 ⟨v, rfl, ⟨D1a, d1a, D2a, d2a, D3a, d3a, rfl, hr39⟩, hs39⟩
      have nb_39 := (hn38.below hs39 (Nat.le_refl _)).up hs39.size
      have hb39 := hb38.trans (hs39.mono hb38.size)
      have y39_0 := (hb39.cell (p := ⟨w.heap.size, 0, none⟩) (show w.heap.size < w1.heap.size by omega)).trans k0
      have y39_1 := (hb39.cell (p := ⟨w.heap.size, 1, none⟩) (show w.heap.size < w1.heap.size by omega)).trans k1
      have y39_2 := (hb39.cell (p := ⟨w.heap.size, 2, none⟩) (show w.heap.size < w1.heap.size by omega)).trans k2
      have y39_3 := (hb39.cell (p := ⟨w.heap.size, 3, none⟩) (show w.heap.size < w1.heap.size by omega)).trans k3
      have y39_4 := (hb39.cell (p := ⟨w.heap.size, 4, none⟩) (show w.heap.size < w1.heap.size by omega)).trans k4
      go_wp2_with fail
      refine hK.out _ _ ⟨y39_0, y39_1, y39_2, y39_3, y39_4⟩ (fun hS => ?_)
      clear hK
      try simp only [Act.put, List.setIfInBounds_toArray, List.set_cons_zero, List.set_cons_succ]
      refine wpAnyH_oneD (i := 8) rfl (by kernel_rfl) (fun K hK => ?_)
      go_simp
      have HC := Lib.hid (with_any x A1 c1 A2 c2 A3 c3 _ _ [rightOf f j] W39 (hR.out.below hb39) nb_39 (by simp) ht)
      refine Calls.mono HC.out ?_
      clear HC
      rintro e W40 ⟨v, rfl, ⟨D1b, d1b, D2b, d2b, D3b, d3b, rfl, hr40⟩, hs40⟩
      have ra_40 := hr39.below hs40
      have hb40 := hb39.trans (hs40.mono hb39.size)
      have y40_0 := (hb40.cell (p := ⟨w.heap.size, 0, none⟩) (show w.heap.size < w1.heap.size by omega)).trans k0
      have y40_1 := (hb40.cell (p := ⟨w.heap.size, 1, none⟩) (show w.heap.size < w1.heap.size by omega)).trans k1
      have y40_2 := (hb40.cell (p := ⟨w.heap.size, 2, none⟩) (show w.heap.size < w1.heap.size by omega)).trans k2
      have y40_3 := (hb40.cell (p := ⟨w.heap.size, 3, none⟩) (show w.heap.size < w1.heap.size by omega)).trans k3
      have y40_4 := (hb40.cell (p := ⟨w.heap.size, 4, none⟩) (show w.heap.size < w1.heap.size by omega)).trans k4
      go_wp2_with fail
      refine hK.out _ _ ⟨y40_0, y40_1, y40_2, y40_3, y40_4⟩ (fun hS => ?_)
      clear hK
      try simp only [Act.put, List.setIfInBounds_toArray, List.set_cons_zero, List.set_cons_succ]
      refine wpAnyH_oneD (i := 10) rfl (by kernel_rfl) (fun K hK => ?_)
      go_simp
      have HC := Lib.hid (owing_any (x.with_ [rightOf f j]) D1b d1b D2b d2b D3b d3b j W40 hr40 (by show j < x.next.length; rw [HX.out.next]; omega) (by show x.next.length ≤ _; rw [HX.out.next]; omega))
      refine Calls.mono HC.out ?_
      clear HC
      rintro e W41 ⟨v, rfl, ⟨D1c, d1c, D2c, d2c, D3c, d3c, rfl, hr41⟩, hs41⟩
      have ra_41 := ra_40.below hs41
      have hb41 := hb40.trans (hs41.mono hb40.size)
      have y41_0 := (hb41.cell (p := ⟨w.heap.size, 0, none⟩) (show w.heap.size < w1.heap.size by omega)).trans k0
      have y41_1 := (hb41.cell (p := ⟨w.heap.size, 1, none⟩) (show w.heap.size < w1.heap.size by omega)).trans k1
      have y41_2 := (hb41.cell (p := ⟨w.heap.size, 2, none⟩) (show w.heap.size < w1.heap.size by omega)).trans k2
      have y41_3 := (hb41.cell (p := ⟨w.heap.size, 3, none⟩) (show w.heap.size < w1.heap.size by omega)).trans k3
      have y41_4 := (hb41.cell (p := ⟨w.heap.size, 4, none⟩) (show w.heap.size < w1.heap.size by omega)).trans k4
      go_wp2_with fail
      refine hK.out _ _ ⟨y41_0, y41_1, y41_2, y41_3, y41_4⟩ (fun hS => ?_)
      clear hK
      try simp only [Act.put, List.setIfInBounds_toArray, List.set_cons_zero, List.set_cons_succ]
      refine wpAnyH_oneD (i := 11) rfl (by kernel_rfl) (fun K hK => ?_)
      go_simp
      have hs42 := fun o : Obj => hb41.trans (((Below.refl W41.heap.size W41).alloc (Nat.le_refl _) o).mono hb41.size)
      refine hK.out _ _ ⟨((hs42 _).cell (p := ⟨w.heap.size, 0, none⟩) (show w.heap.size < w1.heap.size by omega)).trans k0, ((hs42 _).cell (p := ⟨w.heap.size, 1, none⟩) (show w.heap.size < w1.heap.size by omega)).trans k1, ((hs42 _).cell (p := ⟨w.heap.size, 2, none⟩) (show w.heap.size < w1.heap.size by omega)).trans k2, ((hs42 _).cell (p := ⟨w.heap.size, 3, none⟩) (show w.heap.size < w1.heap.size by omega)).trans k3, ((hs42 _).cell (p := ⟨w.heap.size, 4, none⟩) (show w.heap.size < w1.heap.size by omega)).trans k4⟩ (fun hS => ?_)
      clear hK
      try simp only [Act.put, List.setIfInBounds_toArray, List.set_cons_zero, List.set_cons_succ]
      refine wpAnyH_takeD (i := 12) (v := ?_) rfl (by kernel_rfl) (by kernel_rfl) (by kernel_rfl) (fun _ _ _ h => h) (Or.inl ⟨by kernel_rfl, ?_⟩) hS ?_
      rotate_left 1
      · (intro w' hSw; (try dsimp only at hSw); go_simp; try (with_reducible rfl))
      try simp only [Act.put, List.setIfInBounds_toArray, List.set_cons_zero, List.set_cons_succ]
      refine wpAnyH_done (by kernel_rfl) ?_ _
      clear hS
      go_wp2
      go_ret
      exact splits_two (x := x.with_ [leftOf f j, rightOf f j]) (y := ((x.with_ [rightOf f j]).owing j)) (HB.out.trans (hb41.mono (by omega))) ra_41 hr41 (by first | rfl | simp [Way.owing, Way.with_]) (by first | rfl | simp [Way.owing, Way.with_]) (by first | rfl | simp [Way.owing, Way.with_]) (by first | rfl | simp [Way.owing, Way.with_]) (by first | rfl | simp [Way.owing, Way.with_]) (by first | rfl | simp [Way.owing, Way.with_]) (by first | rfl | simp [Way.owing, Way.with_]) (by first | rfl | simp [Way.owing, Way.with_]) (by first | rfl | simp [Way.owing, Way.with_]) (by first | rfl | simp [Way.owing, Way.with_])
  · skip
    go_simp
    obtain ⟨W43, hw43⟩ : ∃ W, W = (w1.alloc (.cells #[.int .i64 (rightOf f j : Int)] 3)).drew := ⟨_, rfl⟩
    have hs43 : Below w1.heap.size w1 W43 := by rw [hw43]; exact ((Below.refl _ _).alloc (Nat.le_refl _) _).drew
    have hn43 : Sl W43 W43.heap.size 1 (some ⟨w1.heap.size, 0, none⟩) 1 1 (icells (natI [rightOf f j])) := by rw [hw43]; exact (new_ints w1 [rightOf f j] (by simp) (by simp)).drew
    rw [← hw43]
    clear hw43
    have hb43 := hs43
    have y43_0 := (hb43.cell (p := ⟨w.heap.size, 0, none⟩) (show w.heap.size < w1.heap.size by omega)).trans k0
    have y43_1 := (hb43.cell (p := ⟨w.heap.size, 1, none⟩) (show w.heap.size < w1.heap.size by omega)).trans k1
    have y43_2 := (hb43.cell (p := ⟨w.heap.size, 2, none⟩) (show w.heap.size < w1.heap.size by omega)).trans k2
    have y43_3 := (hb43.cell (p := ⟨w.heap.size, 3, none⟩) (show w.heap.size < w1.heap.size by omega)).trans k3
    have y43_4 := (hb43.cell (p := ⟨w.heap.size, 4, none⟩) (show w.heap.size < w1.heap.size by omega)).trans k4
    refine hK.out _ _ ⟨y43_0, y43_1, y43_2, y43_3, y43_4⟩ (fun hS => ?_)
    clear hK
    try simp only [Act.put, List.setIfInBounds_toArray, List.set_cons_zero, List.set_cons_succ]
    refine wpAnyH_oneD (i := 3) rfl (by kernel_rfl) (fun K hK => ?_)
    go_simp
    obtain ⟨W44, hw44⟩ : ∃ W, W = W43.alloc (.cells #[.int .i64 (leftOf f j : Int), .int .i64 (rightOf f j : Int)] 3) := ⟨_, rfl⟩
    have hs44 : Below W43.heap.size W43 W44 := by rw [hw44]; exact (Below.refl _ _).alloc (Nat.le_refl _) _
    have hn44 : Sl W44 W44.heap.size 1 (some ⟨W43.heap.size, 0, none⟩) 2 2 (icells (natI [leftOf f j, rightOf f j])) := by rw [hw44]; exact new_ints W43 [leftOf f j, rightOf f j] (by simp) (by simp)
    rw [← hw44]
    clear hw44
    have nb_44 := (hn43.below hs44 (Nat.le_refl _)).up hs44.size
    have hb44 := hb43.trans (hs44.mono hb43.size)
    have y44_0 := (hb44.cell (p := ⟨w.heap.size, 0, none⟩) (show w.heap.size < w1.heap.size by omega)).trans k0
    have y44_1 := (hb44.cell (p := ⟨w.heap.size, 1, none⟩) (show w.heap.size < w1.heap.size by omega)).trans k1
    have y44_2 := (hb44.cell (p := ⟨w.heap.size, 2, none⟩) (show w.heap.size < w1.heap.size by omega)).trans k2
    have y44_3 := (hb44.cell (p := ⟨w.heap.size, 3, none⟩) (show w.heap.size < w1.heap.size by omega)).trans k3
    have y44_4 := (hb44.cell (p := ⟨w.heap.size, 4, none⟩) (show w.heap.size < w1.heap.size by omega)).trans k4
    refine hK.out _ _ ⟨y44_0, y44_1, y44_2, y44_3, y44_4⟩ (fun hS => ?_)
    clear hK
    try simp only [Act.put, List.setIfInBounds_toArray, List.set_cons_zero, List.set_cons_succ]
    refine wpAnyH_oneD (i := 4) rfl (by kernel_rfl) (fun K hK => ?_)
    go_simp
    have HC := Lib.hid (with_any x A1 c1 A2 c2 A3 c3 _ _ [leftOf f j, rightOf f j] W44 (hR.out.below hb44) hn44 (by simp) ht)
    refine Calls.mono HC.out ?_
    clear HC
    rintro e W45 ⟨v, rfl, ⟨D1a, d1a, D2a, d2a, D3a, d3a, rfl, hr45⟩, hs45⟩
    have nb_45 := (nb_44.below hs45 (Nat.le_refl _)).up hs45.size
    have hb45 := hb44.trans (hs45.mono hb44.size)
    have y45_0 := (hb45.cell (p := ⟨w.heap.size, 0, none⟩) (show w.heap.size < w1.heap.size by omega)).trans k0
    have y45_1 := (hb45.cell (p := ⟨w.heap.size, 1, none⟩) (show w.heap.size < w1.heap.size by omega)).trans k1
    have y45_2 := (hb45.cell (p := ⟨w.heap.size, 2, none⟩) (show w.heap.size < w1.heap.size by omega)).trans k2
    have y45_3 := (hb45.cell (p := ⟨w.heap.size, 3, none⟩) (show w.heap.size < w1.heap.size by omega)).trans k3
    have y45_4 := (hb45.cell (p := ⟨w.heap.size, 4, none⟩) (show w.heap.size < w1.heap.size by omega)).trans k4
    go_wp2_with fail
    refine hK.out _ _ ⟨y45_0, y45_1, y45_2, y45_3, y45_4⟩ (fun hS => ?_)
    clear hK
    try simp only [Act.put, List.setIfInBounds_toArray, List.set_cons_zero, List.set_cons_succ]
    refine wpAnyH_oneD (i := 8) rfl (by kernel_rfl) (fun K hK => ?_)
    go_simp
    have HC := Lib.hid (with_any x A1 c1 A2 c2 A3 c3 _ _ [rightOf f j] W45 (hR.out.below hb45) nb_45 (by simp) ht)
    refine Calls.mono HC.out ?_
    clear HC
    rintro e W46 ⟨v, rfl, ⟨D1b, d1b, D2b, d2b, D3b, d3b, rfl, hr46⟩, hs46⟩
    have ra_46 := hr45.below hs46
    have hb46 := hb45.trans (hs46.mono hb45.size)
    have y46_0 := (hb46.cell (p := ⟨w.heap.size, 0, none⟩) (show w.heap.size < w1.heap.size by omega)).trans k0
    have y46_1 := (hb46.cell (p := ⟨w.heap.size, 1, none⟩) (show w.heap.size < w1.heap.size by omega)).trans k1
    have y46_2 := (hb46.cell (p := ⟨w.heap.size, 2, none⟩) (show w.heap.size < w1.heap.size by omega)).trans k2
    have y46_3 := (hb46.cell (p := ⟨w.heap.size, 3, none⟩) (show w.heap.size < w1.heap.size by omega)).trans k3
    have y46_4 := (hb46.cell (p := ⟨w.heap.size, 4, none⟩) (show w.heap.size < w1.heap.size by omega)).trans k4
    go_wp2_with fail
    refine hK.out _ _ ⟨y46_0, y46_1, y46_2, y46_3, y46_4⟩ (fun hS => ?_)
    clear hK
    try simp only [Act.put, List.setIfInBounds_toArray, List.set_cons_zero, List.set_cons_succ]
    refine wpAnyH_oneD (i := 10) rfl (by kernel_rfl) (fun K hK => ?_)
    go_simp
    have HC := Lib.hid (owing_any (x.with_ [rightOf f j]) D1b d1b D2b d2b D3b d3b j W46 hr46 (by show j < x.next.length; rw [HX.out.next]; omega) (by show x.next.length ≤ _; rw [HX.out.next]; omega))
    refine Calls.mono HC.out ?_
    clear HC
    rintro e W47 ⟨v, rfl, ⟨D1c, d1c, D2c, d2c, D3c, d3c, rfl, hr47⟩, hs47⟩
    have ra_47 := ra_46.below hs47
    have hb47 := hb46.trans (hs47.mono hb46.size)
    have y47_0 := (hb47.cell (p := ⟨w.heap.size, 0, none⟩) (show w.heap.size < w1.heap.size by omega)).trans k0
    have y47_1 := (hb47.cell (p := ⟨w.heap.size, 1, none⟩) (show w.heap.size < w1.heap.size by omega)).trans k1
    have y47_2 := (hb47.cell (p := ⟨w.heap.size, 2, none⟩) (show w.heap.size < w1.heap.size by omega)).trans k2
    have y47_3 := (hb47.cell (p := ⟨w.heap.size, 3, none⟩) (show w.heap.size < w1.heap.size by omega)).trans k3
    have y47_4 := (hb47.cell (p := ⟨w.heap.size, 4, none⟩) (show w.heap.size < w1.heap.size by omega)).trans k4
    go_wp2_with fail
    refine hK.out _ _ ⟨y47_0, y47_1, y47_2, y47_3, y47_4⟩ (fun hS => ?_)
    clear hK
    try simp only [Act.put, List.setIfInBounds_toArray, List.set_cons_zero, List.set_cons_succ]
    refine wpAnyH_oneD (i := 11) rfl (by kernel_rfl) (fun K hK => ?_)
    go_simp
    have hs48 := fun o : Obj => hb47.trans (((Below.refl W47.heap.size W47).alloc (Nat.le_refl _) o).mono hb47.size)
    refine hK.out _ _ ⟨((hs48 _).cell (p := ⟨w.heap.size, 0, none⟩) (show w.heap.size < w1.heap.size by omega)).trans k0, ((hs48 _).cell (p := ⟨w.heap.size, 1, none⟩) (show w.heap.size < w1.heap.size by omega)).trans k1, ((hs48 _).cell (p := ⟨w.heap.size, 2, none⟩) (show w.heap.size < w1.heap.size by omega)).trans k2, ((hs48 _).cell (p := ⟨w.heap.size, 3, none⟩) (show w.heap.size < w1.heap.size by omega)).trans k3, ((hs48 _).cell (p := ⟨w.heap.size, 4, none⟩) (show w.heap.size < w1.heap.size by omega)).trans k4⟩ (fun hS => ?_)
    clear hK
    try simp only [Act.put, List.setIfInBounds_toArray, List.set_cons_zero, List.set_cons_succ]
    refine wpAnyH_takeD (i := 12) (v := ?_) rfl (by kernel_rfl) (by kernel_rfl) (by kernel_rfl) (fun _ _ _ h => h) (Or.inl ⟨by kernel_rfl, ?_⟩) hS ?_
    rotate_left 1
    · (intro w' hSw; (try dsimp only at hSw); go_simp; try (with_reducible rfl))
    try simp only [Act.put, List.setIfInBounds_toArray, List.set_cons_zero, List.set_cons_succ]
    refine wpAnyH_done (by kernel_rfl) ?_ _
    clear hS
    go_wp2
    go_ret
    exact splits_two (x := x.with_ [leftOf f j, rightOf f j]) (y := ((x.with_ [rightOf f j]).owing j)) (HB.out.trans (hb47.mono (by omega))) ra_47 hr47 (by first | rfl | simp [Way.owing, Way.with_]) (by first | rfl | simp [Way.owing, Way.with_]) (by first | rfl | simp [Way.owing, Way.with_]) (by first | rfl | simp [Way.owing, Way.with_]) (by first | rfl | simp [Way.owing, Way.with_]) (by first | rfl | simp [Way.owing, Way.with_]) (by first | rfl | simp [Way.owing, Way.with_]) (by first | rfl | simp [Way.owing, Way.with_]) (by first | rfl | simp [Way.owing, Way.with_]) (by first | rfl | simp [Way.owing, Way.with_])
set_option maxHeartbeats 8000000 in
set_option maxRecDepth 100000 in
theorem split_any (f : List Nd) (x : Way) (A1 : Option Addr) (c1 : Nat) (A2 : Option Addr) (c2 : Nat) (A3 : Option Addr) (c3 : Nat) (Af : Option Addr) (cf j : Nat) (w : World) (B : Nat) (h : WR w x A1 c1 A2 c2 A3 c3) (hf : Sl w B 2 Af f.length cf (ncells f)) (hB : B ≤ w.heap.size) (hl : f.length ≤ 1000000)
    (hN : isN f = true) (hj : j < f.length) (hx : WOk f x) (hn : x.need < 256) (hb : x.ban < 256) (ht : x.todo.length ≤ 1000000) :
    Calls Tryd.prog 54 #[.agg #[.int .u64 (x.need : Int), .int .u64 (x.ban : Int), .slice A1 x.now.length c1, .slice A2 x.next.length c2, .slice A3 x.todo.length c3], .slice Af f.length cf, .int .i64 (j : Int)] w (Splits w (splitW f j x)) := by
  have hF := ndF hN hj
  rcases hF.op with e | e | e | e | e | e | e | e | e
  · exact split1_any f x A1 c1 A2 c2 A3 c3 Af cf j w B h hf hB hl hN hj hx hn hb ht e
  · exact split2_any f x A1 c1 A2 c2 A3 c3 Af cf j w B h hf hB hl hN hj hx hn hb ht e
  · exact split3_any f x A1 c1 A2 c2 A3 c3 Af cf j w B h hf hB hl hN hj hx hn hb ht e
  · exact split4_any f x A1 c1 A2 c2 A3 c3 Af cf j w B h hf hB hl hN hj hx hn hb ht e
  · exact split5_any f x A1 c1 A2 c2 A3 c3 Af cf j w B h hf hB hl hN hj hx hn hb ht e
  · exact split6_any f x A1 c1 A2 c2 A3 c3 Af cf j w B h hf hB hl hN hj hx hn hb ht e
  · exact split8_any f x A1 c1 A2 c2 A3 c3 Af cf j w B h hf hB hl hN hj hx hn hb ht e
  · exact split9_any f x A1 c1 A2 c2 A3 c3 Af cf j w B h hf hB hl hN hj hx hn hb ht e
  · exact split10_any f x A1 c1 A2 c2 A3 c3 Af cf j w B h hf hB hl hN hj hx hn hb ht e
end Go.Proofs.YtamhjgkigjpbhaaDoor
