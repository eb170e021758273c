/- The walk of layer 26's example. -/
import Derived.Test.YtkikkplpalabhaaSm9
namespace Go.Proofs.Ytkikkplpalabhaa
open Go.RowKit

/-- A list of nodes, written out. -/
theorem lit_sl (w : World) (l : List Nd) (k : Nat) (cs : Array Value) (hcs : cs.toList = ncells l) (hk : k = l.length) (hlt : k ≤ 100) :
    Sl (w.alloc (.cells cs 42)) (w.heap.size + 1) 2 (some ⟨w.heap.size, 0, none⟩) k k (ncells l) := by
  refine ⟨by rw [ncells_len, hk], Nat.le_refl _, by unfold maxLen; omega, by simp, .inr ⟨w.heap.size, 0, rfl, by omega, fun j u hj => ?_⟩⟩
  rw [cell_of_row _ _ _ _ _ (0, 0) (heap_alloc_new w _), Nat.zero_add, ← hj, ← hcs]
  simp
theorem isOf_have {f a g : List Nd} (h : onceL f = a) (ha : onceL a = a) (hg : IsOf f g) : g = a := isOf_eq h ha hg

theorem exF0 : onceL [⟨3, 0⟩, ⟨1, 0⟩, ⟨5, 0⟩] = [⟨3, 0⟩] := by decide
theorem exG0 : onceL [⟨3, 0⟩] = [⟨3, 0⟩] := by decide
theorem exF1 : onceL [⟨3, 0⟩, ⟨3, 0⟩, ⟨4, 0⟩, ⟨6, 0⟩] = [⟨1, 0⟩] := by decide
theorem exG1 : onceL [⟨1, 0⟩] = [⟨1, 0⟩] := by decide
theorem exF2 : onceL [⟨3, 0⟩, ⟨8, 0⟩, ⟨3, 1⟩, ⟨8, 0⟩, ⟨5, 0⟩] = [⟨3, 0⟩, ⟨3, 1⟩, ⟨5, 0⟩, ⟨8, 0⟩] := by decide
theorem exF3 : onceL [⟨3, 0⟩, ⟨3, 0⟩, ⟨3, 1⟩, ⟨9, 0⟩, ⟨9, 0⟩] = [⟨3, 0⟩, ⟨3, 1⟩, ⟨9, 0⟩] := by decide
theorem exG3 : onceL [⟨3, 0⟩, ⟨3, 1⟩, ⟨9, 0⟩] = [⟨3, 0⟩, ⟨3, 1⟩, ⟨9, 0⟩] := by decide
set_option maxHeartbeats 4000000 in
theorem works_any (w : World) : Calls Try.prog 21 #[] w (Tru w true) := by
  go_enter Try.func21, Try.ntmps21
  obtain ⟨w0, hw0⟩ : ∃ w0, w0 = (w.alloc (.cells #[.int .i64 3, .int .i64 0] 42)).alloc (.cells #[.int .i64 3, .int .i64 1] 42) := ⟨_, rfl⟩
  have hb0 : Below w.heap.size w w0 := by rw [hw0]; exact ((Below.refl _ _).alloc (Nat.le_refl _) _).alloc (by simp) _
  have hz0 : w0.heap.size = w.heap.size + 1 + 1 := by rw [hw0]; simp
  have hp : w0.cell? ⟨w.heap.size, 0, none⟩ = some (.int .i64 3) ∧ w0.cell? ⟨w.heap.size, 1, none⟩ = some (.int .i64 0) := by
    rw [hw0]
    have h1 := heap_alloc_new w (.cells #[.int .i64 3, .int .i64 0] 42)
    have h2 := (Below.heap_alloc (w.alloc (.cells #[.int .i64 3, .int .i64 0] 42)) (.cells #[.int .i64 3, .int .i64 1] 42) _ (lt_of_block h1)).trans h1
    exact ⟨by rw [cell_of_row _ _ _ _ _ (0, 0) h2]; rfl, by rw [cell_of_row _ _ _ _ _ (0, 0) h2]; rfl⟩
  have hq : w0.cell? ⟨w.heap.size + 1, 0, none⟩ = some (.int .i64 3) ∧ w0.cell? ⟨w.heap.size + 1, 1, none⟩ = some (.int .i64 1) := by
    rw [hw0]
    have h1 := heap_alloc_new (w.alloc (.cells #[.int .i64 3, .int .i64 0] 42)) (.cells #[.int .i64 3, .int .i64 1] 42)
    rw [World.size_alloc] at h1
    exact ⟨by rw [cell_of_row _ _ _ _ _ (0, 0) h1]; rfl, by rw [cell_of_row _ _ _ _ _ (0, 0) h1]; rfl⟩
  obtain ⟨p0, p1⟩ := hp
  obtain ⟨q0, q1⟩ := hq
  have HW0 := Lib.hid hw0
  have HZ0 := Lib.hid hz0
  have hzp : w.heap.size < w0.heap.size := by omega
  have hzq : w.heap.size + 1 < w0.heap.size := by omega
  have hb00 : Below w0.heap.size w0 w0 := Below.refl _ _
  clear hw0 hz0
  go_wp2_with fail
  rw [← HW0.out]
  clear HW0
  have hba0 : Below w0.heap.size w0 (w0.alloc (.cells #[.int .i64 3, .int .i64 0, .int .i64 1, .int .i64 0, .int .i64 5, .int .i64 0] 42)) := (Below.refl _ _).alloc (Nat.le_refl _) _
  have hl0 := lit_sl w0 [⟨3, 0⟩, ⟨1, 0⟩, ⟨5, 0⟩] 3 #[.int .i64 3, .int .i64 0, .int .i64 1, .int .i64 0, .int .i64 5, .int .i64 0] rfl rfl (by omega)
  have hco0 := of_any (some ⟨w0.heap.size, 0, none⟩) 3 [⟨3, 0⟩, ⟨1, 0⟩, ⟨5, 0⟩] (w0.alloc (.cells #[.int .i64 3, .int .i64 0, .int .i64 1, .int .i64 0, .int .i64 5, .int .i64 0] 42)) (w0.heap.size + 1) hl0 (by simp) (by simp)
  rw [HZ0.out] at hco0
  refine Calls.mono hco0 ?_
  clear hco0
  rintro e w1 ⟨g, R0, d0, hg, rfl, hr0, hbc0⟩
  obtain rfl := isOf_eq exF0 exG0 hg
  have hbb0 : Below w0.heap.size w0 w1 := hba0.trans (hbc0.mono (by simp))
  have hb0w1 : Below w0.heap.size w0 w1 := hb00.trans (hbb0.mono hb00.size)
  have p0w1 := (hb0w1.cell (p := ⟨w.heap.size, 0, none⟩) hzp).trans p0
  have p1w1 := (hb0w1.cell (p := ⟨w.heap.size, 1, none⟩) hzp).trans p1
  have q0w1 := (hb0w1.cell (p := ⟨w.heap.size + 1, 0, none⟩) hzq).trans q0
  have q1w1 := (hb0w1.cell (p := ⟨w.heap.size + 1, 1, none⟩) hzq).trans q1
  clear hba0 hl0 hbb0 hbc0
  go_wp2_with fail
  have hba1 : Below w1.heap.size w1 (w1.alloc (.cells #[.int .i64 3, .int .i64 0, .int .i64 3, .int .i64 0, .int .i64 4, .int .i64 0, .int .i64 6, .int .i64 0] 42)) := (Below.refl _ _).alloc (Nat.le_refl _) _
  have hl1 := lit_sl w1 [⟨3, 0⟩, ⟨3, 0⟩, ⟨4, 0⟩, ⟨6, 0⟩] 4 #[.int .i64 3, .int .i64 0, .int .i64 3, .int .i64 0, .int .i64 4, .int .i64 0, .int .i64 6, .int .i64 0] rfl rfl (by omega)
  have hco1 := of_any _ 4 [⟨3, 0⟩, ⟨3, 0⟩, ⟨4, 0⟩, ⟨6, 0⟩] _ _ hl1 (by simp) (by simp)
  refine Calls.mono hco1 ?_
  clear hco1
  rintro e w2 ⟨g, R1, d1, hg, rfl, hr1, hbc1⟩
  obtain rfl := isOf_eq exF1 exG1 hg
  have hbb1 : Below w1.heap.size w1 w2 := hba1.trans (hbc1.mono (by simp))
  have hb0w2 : Below w0.heap.size w0 w2 := hb0w1.trans (hbb1.mono hb0w1.size)
  have p0w2 := (hb0w2.cell (p := ⟨w.heap.size, 0, none⟩) hzp).trans p0
  have p1w2 := (hb0w2.cell (p := ⟨w.heap.size, 1, none⟩) hzp).trans p1
  have q0w2 := (hb0w2.cell (p := ⟨w.heap.size + 1, 0, none⟩) hzq).trans q0
  have q1w2 := (hb0w2.cell (p := ⟨w.heap.size + 1, 1, none⟩) hzq).trans q1
  replace hr0 := (hr0.below hbb1 (Nat.le_refl _)).up hbb1.size
  clear hba1 hl1 hbb1 hbc1
  go_wp2_with fail
  have hba2 : Below w2.heap.size w2 (w2.alloc (.cells #[.int .i64 3, .int .i64 0, .int .i64 8, .int .i64 0, .int .i64 3, .int .i64 1, .int .i64 8, .int .i64 0, .int .i64 5, .int .i64 0] 42)) := (Below.refl _ _).alloc (Nat.le_refl _) _
  have hl2 := lit_sl w2 [⟨3, 0⟩, ⟨8, 0⟩, ⟨3, 1⟩, ⟨8, 0⟩, ⟨5, 0⟩] 5 #[.int .i64 3, .int .i64 0, .int .i64 8, .int .i64 0, .int .i64 3, .int .i64 1, .int .i64 8, .int .i64 0, .int .i64 5, .int .i64 0] rfl rfl (by omega)
  have hco2 := once_any _ 5 [⟨3, 0⟩, ⟨8, 0⟩, ⟨3, 1⟩, ⟨8, 0⟩, ⟨5, 0⟩] _ _ hl2 (by simp) (by simp)
  refine Calls.mono hco2 ?_
  clear hco2
  rw [exF2]
  rintro e w3 ⟨v3, rfl, hown3, hbc2, _⟩
  obtain ⟨R2, d2, rfl, hr2⟩ := own_sl hown3
  have hbb2 : Below w2.heap.size w2 w3 := hba2.trans (hbc2.mono (by simp))
  have hb0w3 : Below w0.heap.size w0 w3 := hb0w2.trans (hbb2.mono hb0w2.size)
  have p0w3 := (hb0w3.cell (p := ⟨w.heap.size, 0, none⟩) hzp).trans p0
  have p1w3 := (hb0w3.cell (p := ⟨w.heap.size, 1, none⟩) hzp).trans p1
  have q0w3 := (hb0w3.cell (p := ⟨w.heap.size + 1, 0, none⟩) hzq).trans q0
  have q1w3 := (hb0w3.cell (p := ⟨w.heap.size + 1, 1, none⟩) hzq).trans q1
  replace hr0 := (hr0.below hbb2 (Nat.le_refl _)).up hbb2.size
  replace hr1 := (hr1.below hbb2 (Nat.le_refl _)).up hbb2.size
  clear hba2 hl2 hbb2 hbc2
  go_wp2_with fail
  have hba3 : Below w3.heap.size w3 (w3.alloc (.cells #[.int .i64 3, .int .i64 0, .int .i64 3, .int .i64 0, .int .i64 3, .int .i64 1, .int .i64 9, .int .i64 0, .int .i64 9, .int .i64 0] 42)) := (Below.refl _ _).alloc (Nat.le_refl _) _
  have hl3 := lit_sl w3 [⟨3, 0⟩, ⟨3, 0⟩, ⟨3, 1⟩, ⟨9, 0⟩, ⟨9, 0⟩] 5 #[.int .i64 3, .int .i64 0, .int .i64 3, .int .i64 0, .int .i64 3, .int .i64 1, .int .i64 9, .int .i64 0, .int .i64 9, .int .i64 0] rfl rfl (by omega)
  have hco3 := of_any _ 5 [⟨3, 0⟩, ⟨3, 0⟩, ⟨3, 1⟩, ⟨9, 0⟩, ⟨9, 0⟩] _ _ hl3 (by simp) (by simp)
  refine Calls.mono hco3 ?_
  clear hco3
  rintro e w4 ⟨g, R3, d3, hg, rfl, hr3, hbc3⟩
  obtain rfl := isOf_eq exF3 exG3 hg
  have hbb3 : Below w3.heap.size w3 w4 := hba3.trans (hbc3.mono (by simp))
  have hb0w4 : Below w0.heap.size w0 w4 := hb0w3.trans (hbb3.mono hb0w3.size)
  have p0w4 := (hb0w4.cell (p := ⟨w.heap.size, 0, none⟩) hzp).trans p0
  have p1w4 := (hb0w4.cell (p := ⟨w.heap.size, 1, none⟩) hzp).trans p1
  have q0w4 := (hb0w4.cell (p := ⟨w.heap.size + 1, 0, none⟩) hzq).trans q0
  have q1w4 := (hb0w4.cell (p := ⟨w.heap.size + 1, 1, none⟩) hzq).trans q1
  replace hr0 := (hr0.below hbb3 (Nat.le_refl _)).up hbb3.size
  replace hr1 := (hr1.below hbb3 (Nat.le_refl _)).up hbb3.size
  replace hr2 := (hr2.below hbb3 (Nat.le_refl _)).up hbb3.size
  clear hba3 hl3 hbb3 hbc3
  go_wp2_with fail
  have hba4 : Below w4.heap.size w4 (w4.alloc (.cells #[.int .i64 3, .int .i64 0] 42)) := (Below.refl _ _).alloc (Nat.le_refl _) _
  have hl4 := lit_sl w4 [⟨3, 0⟩] 1 #[.int .i64 3, .int .i64 0] rfl rfl (by omega)
  refine (equalNd_any _ _ _ _ _ _ [⟨3, 0⟩] [⟨3, 0⟩] _ _ _ (hr0.below hba4 (Nat.le_refl _)) hl4 rfl rfl (by simp)).mono ?_
  rw [show decide (([⟨3, 0⟩] : List Nd) = [⟨3, 0⟩]) = true by decide]
  rintro e _ ⟨rfl, n0, rfl⟩
  obtain ⟨w5, hw5⟩ : ∃ W, W = (w4.alloc (.cells #[.int .i64 3, .int .i64 0] 42)).drewN n0 := ⟨_, rfl⟩
  have hbb4 : Below w4.heap.size w4 w5 := by rw [hw5]; exact below_drewN hba4 _
  rw [← hw5]
  clear hw5 hl4 hba4
  have hb0w5 : Below w0.heap.size w0 w5 := hb0w4.trans (hbb4.mono hb0w4.size)
  have p0w5 := (hb0w5.cell (p := ⟨w.heap.size, 0, none⟩) hzp).trans p0
  have p1w5 := (hb0w5.cell (p := ⟨w.heap.size, 1, none⟩) hzp).trans p1
  have q0w5 := (hb0w5.cell (p := ⟨w.heap.size + 1, 0, none⟩) hzq).trans q0
  have q1w5 := (hb0w5.cell (p := ⟨w.heap.size + 1, 1, none⟩) hzq).trans q1
  replace hr0 := (hr0.below hbb4 (Nat.le_refl _)).up hbb4.size
  replace hr1 := (hr1.below hbb4 (Nat.le_refl _)).up hbb4.size
  replace hr2 := (hr2.below hbb4 (Nat.le_refl _)).up hbb4.size
  replace hr3 := (hr3.below hbb4 (Nat.le_refl _)).up hbb4.size
  go_wp2_with fail
  have hba5 : Below w5.heap.size w5 (w5.alloc (.cells #[.int .i64 1, .int .i64 0] 42)) := (Below.refl _ _).alloc (Nat.le_refl _) _
  have hl5 := lit_sl w5 [⟨1, 0⟩] 1 #[.int .i64 1, .int .i64 0] rfl rfl (by omega)
  refine (equalNd_any _ _ _ _ _ _ [⟨1, 0⟩] [⟨1, 0⟩] _ _ _ (hr1.below hba5 (Nat.le_refl _)) hl5 rfl rfl (by simp)).mono ?_
  rw [show decide (([⟨1, 0⟩] : List Nd) = [⟨1, 0⟩]) = true by decide]
  rintro e _ ⟨rfl, n1, rfl⟩
  obtain ⟨w6, hw6⟩ : ∃ W, W = (w5.alloc (.cells #[.int .i64 1, .int .i64 0] 42)).drewN n1 := ⟨_, rfl⟩
  have hbb5 : Below w5.heap.size w5 w6 := by rw [hw6]; exact below_drewN hba5 _
  rw [← hw6]
  clear hw6 hl5 hba5
  have hb0w6 : Below w0.heap.size w0 w6 := hb0w5.trans (hbb5.mono hb0w5.size)
  have p0w6 := (hb0w6.cell (p := ⟨w.heap.size, 0, none⟩) hzp).trans p0
  have p1w6 := (hb0w6.cell (p := ⟨w.heap.size, 1, none⟩) hzp).trans p1
  have q0w6 := (hb0w6.cell (p := ⟨w.heap.size + 1, 0, none⟩) hzq).trans q0
  have q1w6 := (hb0w6.cell (p := ⟨w.heap.size + 1, 1, none⟩) hzq).trans q1
  replace hr0 := (hr0.below hbb5 (Nat.le_refl _)).up hbb5.size
  replace hr1 := (hr1.below hbb5 (Nat.le_refl _)).up hbb5.size
  replace hr2 := (hr2.below hbb5 (Nat.le_refl _)).up hbb5.size
  replace hr3 := (hr3.below hbb5 (Nat.le_refl _)).up hbb5.size
  go_wp2_with fail
  have hba6 : Below w6.heap.size w6 (w6.alloc (.cells #[.int .i64 3, .int .i64 0, .int .i64 3, .int .i64 1, .int .i64 5, .int .i64 0, .int .i64 8, .int .i64 0] 42)) := (Below.refl _ _).alloc (Nat.le_refl _) _
  have hl6 := lit_sl w6 [⟨3, 0⟩, ⟨3, 1⟩, ⟨5, 0⟩, ⟨8, 0⟩] 4 #[.int .i64 3, .int .i64 0, .int .i64 3, .int .i64 1, .int .i64 5, .int .i64 0, .int .i64 8, .int .i64 0] rfl rfl (by omega)
  refine (equalNd_any _ _ _ _ _ _ [⟨3, 0⟩, ⟨3, 1⟩, ⟨5, 0⟩, ⟨8, 0⟩] [⟨3, 0⟩, ⟨3, 1⟩, ⟨5, 0⟩, ⟨8, 0⟩] _ _ _ (hr2.below hba6 (Nat.le_refl _)) hl6 rfl rfl (by simp)).mono ?_
  rw [show decide (([⟨3, 0⟩, ⟨3, 1⟩, ⟨5, 0⟩, ⟨8, 0⟩] : List Nd) = [⟨3, 0⟩, ⟨3, 1⟩, ⟨5, 0⟩, ⟨8, 0⟩]) = true by decide]
  rintro e _ ⟨rfl, n2, rfl⟩
  obtain ⟨w7, hw7⟩ : ∃ W, W = (w6.alloc (.cells #[.int .i64 3, .int .i64 0, .int .i64 3, .int .i64 1, .int .i64 5, .int .i64 0, .int .i64 8, .int .i64 0] 42)).drewN n2 := ⟨_, rfl⟩
  have hbb6 : Below w6.heap.size w6 w7 := by rw [hw7]; exact below_drewN hba6 _
  rw [← hw7]
  clear hw7 hl6 hba6
  have hb0w7 : Below w0.heap.size w0 w7 := hb0w6.trans (hbb6.mono hb0w6.size)
  have p0w7 := (hb0w7.cell (p := ⟨w.heap.size, 0, none⟩) hzp).trans p0
  have p1w7 := (hb0w7.cell (p := ⟨w.heap.size, 1, none⟩) hzp).trans p1
  have q0w7 := (hb0w7.cell (p := ⟨w.heap.size + 1, 0, none⟩) hzq).trans q0
  have q1w7 := (hb0w7.cell (p := ⟨w.heap.size + 1, 1, none⟩) hzq).trans q1
  replace hr0 := (hr0.below hbb6 (Nat.le_refl _)).up hbb6.size
  replace hr1 := (hr1.below hbb6 (Nat.le_refl _)).up hbb6.size
  replace hr2 := (hr2.below hbb6 (Nat.le_refl _)).up hbb6.size
  replace hr3 := (hr3.below hbb6 (Nat.le_refl _)).up hbb6.size
  go_wp2_with fail
  have hba7 : Below w7.heap.size w7 (w7.alloc (.cells #[.int .i64 3, .int .i64 0, .int .i64 3, .int .i64 1, .int .i64 9, .int .i64 0] 42)) := (Below.refl _ _).alloc (Nat.le_refl _) _
  have hl7 := lit_sl w7 [⟨3, 0⟩, ⟨3, 1⟩, ⟨9, 0⟩] 3 #[.int .i64 3, .int .i64 0, .int .i64 3, .int .i64 1, .int .i64 9, .int .i64 0] rfl rfl (by omega)
  refine (equalNd_any _ _ _ _ _ _ [⟨3, 0⟩, ⟨3, 1⟩, ⟨9, 0⟩] [⟨3, 0⟩, ⟨3, 1⟩, ⟨9, 0⟩] _ _ _ (hr3.below hba7 (Nat.le_refl _)) hl7 rfl rfl (by simp)).mono ?_
  rw [show decide (([⟨3, 0⟩, ⟨3, 1⟩, ⟨9, 0⟩] : List Nd) = [⟨3, 0⟩, ⟨3, 1⟩, ⟨9, 0⟩]) = true by decide]
  rintro e _ ⟨rfl, n3, rfl⟩
  obtain ⟨w8, hw8⟩ : ∃ W, W = (w7.alloc (.cells #[.int .i64 3, .int .i64 0, .int .i64 3, .int .i64 1, .int .i64 9, .int .i64 0] 42)).drewN n3 := ⟨_, rfl⟩
  have hbb7 : Below w7.heap.size w7 w8 := by rw [hw8]; exact below_drewN hba7 _
  rw [← hw8]
  clear hw8 hl7 hba7
  have hb0w8 : Below w0.heap.size w0 w8 := hb0w7.trans (hbb7.mono hb0w7.size)
  have p0w8 := (hb0w8.cell (p := ⟨w.heap.size, 0, none⟩) hzp).trans p0
  have p1w8 := (hb0w8.cell (p := ⟨w.heap.size, 1, none⟩) hzp).trans p1
  have q0w8 := (hb0w8.cell (p := ⟨w.heap.size + 1, 0, none⟩) hzq).trans q0
  have q1w8 := (hb0w8.cell (p := ⟨w.heap.size + 1, 1, none⟩) hzq).trans q1
  replace hr0 := (hr0.below hbb7 (Nat.le_refl _)).up hbb7.size
  replace hr1 := (hr1.below hbb7 (Nat.le_refl _)).up hbb7.size
  replace hr2 := (hr2.below hbb7 (Nat.le_refl _)).up hbb7.size
  replace hr3 := (hr3.below hbb7 (Nat.le_refl _)).up hbb7.size
  go_wp2
  go_ret
  exact ⟨rfl, hb0.trans (hb0w8.mono hb0.size)⟩
end Go.Proofs.Ytkikkplpalabhaa
