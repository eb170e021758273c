/- The walks of layer 27: the lasso's row and settle. -/
import Derived.Test.YtkikkplpalabhaaWk3
import Derived.Deep.OwnRows
import Derived.Deep.LoopGhost
namespace Go.Proofs.Ytkikkplpalabhaa
open Go.RowKit

theorem own_madeW {w : World} {base e n : Nat} {v : Value} (hb : base ≤ w.heap.size) (hn : n ≤ maxLen) : (w.alloc (.cells (madeCells #[v] n) e)).ownsRow base e 1 (.slice (some ⟨w.heap.size, 0, none⟩) n n) n (List.replicate n v) := by
  have hm : (madeCells #[v] n).toList = List.replicate n v := toList_madeCells_one _ _
  have hs : (madeCells #[v] n).size = n := by have := congrArg List.length hm; simpa using this
  refine ⟨by simp, .inr ⟨w.heap.size, n, _, rfl, hb, heap_alloc_new w _, Nat.le_refl _, hn, by rw [hs, Nat.mul_one], ?_⟩⟩
  rw [List.take_of_length_le (by rw [Array.length_toList, hs]; omega)]
  exact hm
theorem Fill.below {w wr w2 : World} {g n : Nat} {F : Nat → Bool} {k : Nat} (h : Fill w wr g n F k) (hb : Below wr.heap.size wr w2) : Fill w w2 g n F k := ⟨own_below h.own hb, h.bel.trans (hb.mono h.bel.size)⟩
/-- The lasso's box, and a new row behind it. -/
theorem lasso_box (w : World) (A1 A2 : Option Addr) (n1 c1 n2 c2 : Nat) : ∃ w0, w0 = w.alloc (.cells #[.slice A1 n1 c1, .slice A2 n2 c2, .int .i64 ((n1 + n2 : Nat) : Int), .int .i64 (n1 : Int)] 72) ∧ Below w.heap.size w w0 ∧ w0.heap.size = w.heap.size + 1 ∧
    w0.cell? ⟨w.heap.size, 0, none⟩ = some (.slice A1 n1 c1) ∧ w0.cell? ⟨w.heap.size, 1, none⟩ = some (.slice A2 n2 c2) ∧ w0.cell? ⟨w.heap.size, 2, none⟩ = some (.int .i64 ((n1 + n2 : Nat) : Int)) ∧ w0.cell? ⟨w.heap.size, 3, none⟩ = some (.int .i64 (n1 : Int)) :=
  ⟨_, rfl, (Below.refl _ _).alloc (Nat.le_refl _) _, by simp, by rw [cell_of_row _ _ _ _ _ (0, 0) (heap_alloc_new w _)]; rfl, by rw [cell_of_row _ _ _ _ _ (0, 0) (heap_alloc_new w _)]; rfl, by rw [cell_of_row _ _ _ _ _ (0, 0) (heap_alloc_new w _)]; rfl, by rw [cell_of_row _ _ _ _ _ (0, 0) (heap_alloc_new w _)]; rfl⟩
set_option maxHeartbeats 1000000 in
theorem rowT1_any (g : Nat → Bool) (A1 A2 : Option Addr) (n1 c1 n2 c2 : Nat) (w : World) (hl : n1 + n2 ≤ 60000)
    (hF : ∀ (k : Nat) (w' : World), k < n1 + n2 → Below w.heap.size w w' → Calls Try.prog 91 #[.int .i64 (k : Int)] w' (Tru w' (g k))) :
    Calls Try.prog 90 #[lassoV A1 A2 n1 c1 n2 c2, .func (.func 91) #[] #[]] w (NewRow w 4 1 (n1 + n2) (bcells ((List.range (n1 + n2)).map g)) False) := by
  unfold lassoV
  obtain ⟨w0, hw0, hb0, hz0, x0, x1, x2, x3⟩ := lasso_box w A1 A2 n1 c1 n2 c2
  have HW0 := Lib.hid hw0
  have HF := Lib.hid hF
  have hzw : w.heap.size < w0.heap.size := by omega
  have hzw0 : w.heap.size ≤ w0.heap.size := by omega
  generalize hN : n1 + n2 = N at *
  have hmk := run_make_row' (P := Try.prog) 50 4 (.bool false) 1 Try.underlying50 infoBool rfl .i64 .i64 N (by omega) (by omega)
  have h0 : Fill w (w0.alloc (.cells (madeCells #[.bool false] N) 4)) w0.heap.size N g 0 := by
    refine ⟨?_, hb0.alloc hzw0 _⟩
    have := own_madeW (w := w0) (base := w.heap.size) (e := 4) (n := N) (v := .bool false) hzw0 (by unfold maxLen; omega)
    rw [upto_zero, bcells, List.map_replicate]; exact this
  rw [hz0] at h0
  have H0 := Lib.hid h0
  clear hw0 hz0 hF hN h0
  go_enter Try.func90, Try.ntmps90
  go_wp2_with fail
  rw [← HW0.out]
  clear HW0
  go_wp2
  go_loopw [12] (fun i wr => ∃ k : Nat, k ≤ N ∧ i = .int .i64 k ∧ Fill w wr (w.heap.size + 1) N g k) (fun i _ => N - (intOf i).toNat)
  case atStart => exact ⟨0, by omega, rfl, H0.out⟩
  case round =>
    clear H0
    obtain ⟨k, hk, rfl, hfl⟩ := hrel
    by_cases hlt : k < N
    · have hcall := Lib.hid (HF.out k wr hlt hfl.bel)
      have HFL := Lib.hid hfl
      clear hfl
      go_wp2_with fail
      refine Calls.mono hcall.out ?_
      rintro e w2 ⟨rfl, hb2⟩
      have hf2 := HFL.out.below hb2
      obtain ⟨u, hcu, hfu⟩ := hf2.cell hlt
      have hput := Lib.hid (hf2.put (b := g k) rfl)
      clear hf2
      go_wp2
      go_roundw
      case rel => exact ⟨k + 1, by omega, by go_num, hput.out⟩
      case measure => simp [intOf]; omega
    · have hkn : k = N := by omega
      subst hkn
      have hown := hfl.own
      rw [upto_end] at hown
      have hbel := hfl.bel
      clear hfl
      go_wp2
      go_ret
      exact ⟨_, rfl, hown, hbel, by simp⟩
set_option maxHeartbeats 1000000 in
theorem rowT2_any (p q : Value) (g : Nat → Bool) (A1 A2 : Option Addr) (n1 c1 n2 c2 : Nat) (w : World) (hl : n1 + n2 ≤ 60000)
    (hF : ∀ (k : Nat) (w' : World), k < n1 + n2 → Below w.heap.size w w' → Calls Try.prog 92 #[.int .i64 (k : Int), p, q] w' (Tru w' (g k))) :
    Calls Try.prog 90 #[lassoV A1 A2 n1 c1 n2 c2, .func (.func 92) #[] #[p, q]] w (NewRow w 4 1 (n1 + n2) (bcells ((List.range (n1 + n2)).map g)) False) := by
  unfold lassoV
  obtain ⟨w0, hw0, hb0, hz0, x0, x1, x2, x3⟩ := lasso_box w A1 A2 n1 c1 n2 c2
  have HW0 := Lib.hid hw0
  have HF := Lib.hid hF
  have hzw : w.heap.size < w0.heap.size := by omega
  have hzw0 : w.heap.size ≤ w0.heap.size := by omega
  generalize hN : n1 + n2 = N at *
  have hmk := run_make_row' (P := Try.prog) 50 4 (.bool false) 1 Try.underlying50 infoBool rfl .i64 .i64 N (by omega) (by omega)
  have h0 : Fill w (w0.alloc (.cells (madeCells #[.bool false] N) 4)) w0.heap.size N g 0 := by
    refine ⟨?_, hb0.alloc hzw0 _⟩
    have := own_madeW (w := w0) (base := w.heap.size) (e := 4) (n := N) (v := .bool false) hzw0 (by unfold maxLen; omega)
    rw [upto_zero, bcells, List.map_replicate]; exact this
  rw [hz0] at h0
  have H0 := Lib.hid h0
  clear hw0 hz0 hF hN h0
  go_enter Try.func90, Try.ntmps90
  go_wp2_with fail
  rw [← HW0.out]
  clear HW0
  go_wp2
  go_loopw [12] (fun i wr => ∃ k : Nat, k ≤ N ∧ i = .int .i64 k ∧ Fill w wr (w.heap.size + 1) N g k) (fun i _ => N - (intOf i).toNat)
  case atStart => exact ⟨0, by omega, rfl, H0.out⟩
  case round =>
    clear H0
    obtain ⟨k, hk, rfl, hfl⟩ := hrel
    by_cases hlt : k < N
    · have hcall := Lib.hid (HF.out k wr hlt hfl.bel)
      have HFL := Lib.hid hfl
      clear hfl
      go_wp2_with fail
      refine Calls.mono hcall.out ?_
      rintro e w2 ⟨rfl, hb2⟩
      have hf2 := HFL.out.below hb2
      obtain ⟨u, hcu, hfu⟩ := hf2.cell hlt
      have hput := Lib.hid (hf2.put (b := g k) rfl)
      clear hf2
      go_wp2
      go_roundw
      case rel => exact ⟨k + 1, by omega, by go_num, hput.out⟩
      case measure => simp [intOf]; omega
    · have hkn : k = N := by omega
      subst hkn
      have hown := hfl.own
      rw [upto_end] at hown
      have hbel := hfl.bel
      clear hfl
      go_wp2
      go_ret
      exact ⟨_, rfl, hown, hbel, by simp⟩
set_option maxHeartbeats 1000000 in
theorem rowT3_any (p : Value) (g : Nat → Bool) (A1 A2 : Option Addr) (n1 c1 n2 c2 : Nat) (w : World) (hl : n1 + n2 ≤ 60000)
    (hF : ∀ (k : Nat) (w' : World), k < n1 + n2 → Below w.heap.size w w' → Calls Try.prog 93 #[.int .i64 (k : Int), p] w' (Tru w' (g k))) :
    Calls Try.prog 90 #[lassoV A1 A2 n1 c1 n2 c2, .func (.func 93) #[] #[p]] w (NewRow w 4 1 (n1 + n2) (bcells ((List.range (n1 + n2)).map g)) False) := by
  unfold lassoV
  obtain ⟨w0, hw0, hb0, hz0, x0, x1, x2, x3⟩ := lasso_box w A1 A2 n1 c1 n2 c2
  have HW0 := Lib.hid hw0
  have HF := Lib.hid hF
  have hzw : w.heap.size < w0.heap.size := by omega
  have hzw0 : w.heap.size ≤ w0.heap.size := by omega
  generalize hN : n1 + n2 = N at *
  have hmk := run_make_row' (P := Try.prog) 50 4 (.bool false) 1 Try.underlying50 infoBool rfl .i64 .i64 N (by omega) (by omega)
  have h0 : Fill w (w0.alloc (.cells (madeCells #[.bool false] N) 4)) w0.heap.size N g 0 := by
    refine ⟨?_, hb0.alloc hzw0 _⟩
    have := own_madeW (w := w0) (base := w.heap.size) (e := 4) (n := N) (v := .bool false) hzw0 (by unfold maxLen; omega)
    rw [upto_zero, bcells, List.map_replicate]; exact this
  rw [hz0] at h0
  have H0 := Lib.hid h0
  clear hw0 hz0 hF hN h0
  go_enter Try.func90, Try.ntmps90
  go_wp2_with fail
  rw [← HW0.out]
  clear HW0
  go_wp2
  go_loopw [12] (fun i wr => ∃ k : Nat, k ≤ N ∧ i = .int .i64 k ∧ Fill w wr (w.heap.size + 1) N g k) (fun i _ => N - (intOf i).toNat)
  case atStart => exact ⟨0, by omega, rfl, H0.out⟩
  case round =>
    clear H0
    obtain ⟨k, hk, rfl, hfl⟩ := hrel
    by_cases hlt : k < N
    · have hcall := Lib.hid (HF.out k wr hlt hfl.bel)
      have HFL := Lib.hid hfl
      clear hfl
      go_wp2_with fail
      refine Calls.mono hcall.out ?_
      rintro e w2 ⟨rfl, hb2⟩
      have hf2 := HFL.out.below hb2
      obtain ⟨u, hcu, hfu⟩ := hf2.cell hlt
      have hput := Lib.hid (hf2.put (b := g k) rfl)
      clear hf2
      go_wp2
      go_roundw
      case rel => exact ⟨k + 1, by omega, by go_num, hput.out⟩
      case measure => simp [intOf]; omega
    · have hkn : k = N := by omega
      subst hkn
      have hown := hfl.own
      rw [upto_end] at hown
      have hbel := hfl.bel
      clear hfl
      go_wp2
      go_ret
      exact ⟨_, rfl, hown, hbel, by simp⟩
set_option maxHeartbeats 1000000 in
theorem rowT4_any (p q : Value) (g : Nat → Bool) (A1 A2 : Option Addr) (n1 c1 n2 c2 : Nat) (w : World) (hl : n1 + n2 ≤ 60000)
    (hF : ∀ (k : Nat) (w' : World), k < n1 + n2 → Below w.heap.size w w' → Calls Try.prog 94 #[.int .i64 (k : Int), p, q] w' (Tru w' (g k))) :
    Calls Try.prog 90 #[lassoV A1 A2 n1 c1 n2 c2, .func (.func 94) #[] #[p, q]] w (NewRow w 4 1 (n1 + n2) (bcells ((List.range (n1 + n2)).map g)) False) := by
  unfold lassoV
  obtain ⟨w0, hw0, hb0, hz0, x0, x1, x2, x3⟩ := lasso_box w A1 A2 n1 c1 n2 c2
  have HW0 := Lib.hid hw0
  have HF := Lib.hid hF
  have hzw : w.heap.size < w0.heap.size := by omega
  have hzw0 : w.heap.size ≤ w0.heap.size := by omega
  generalize hN : n1 + n2 = N at *
  have hmk := run_make_row' (P := Try.prog) 50 4 (.bool false) 1 Try.underlying50 infoBool rfl .i64 .i64 N (by omega) (by omega)
  have h0 : Fill w (w0.alloc (.cells (madeCells #[.bool false] N) 4)) w0.heap.size N g 0 := by
    refine ⟨?_, hb0.alloc hzw0 _⟩
    have := own_madeW (w := w0) (base := w.heap.size) (e := 4) (n := N) (v := .bool false) hzw0 (by unfold maxLen; omega)
    rw [upto_zero, bcells, List.map_replicate]; exact this
  rw [hz0] at h0
  have H0 := Lib.hid h0
  clear hw0 hz0 hF hN h0
  go_enter Try.func90, Try.ntmps90
  go_wp2_with fail
  rw [← HW0.out]
  clear HW0
  go_wp2
  go_loopw [12] (fun i wr => ∃ k : Nat, k ≤ N ∧ i = .int .i64 k ∧ Fill w wr (w.heap.size + 1) N g k) (fun i _ => N - (intOf i).toNat)
  case atStart => exact ⟨0, by omega, rfl, H0.out⟩
  case round =>
    clear H0
    obtain ⟨k, hk, rfl, hfl⟩ := hrel
    by_cases hlt : k < N
    · have hcall := Lib.hid (HF.out k wr hlt hfl.bel)
      have HFL := Lib.hid hfl
      clear hfl
      go_wp2_with fail
      refine Calls.mono hcall.out ?_
      rintro e w2 ⟨rfl, hb2⟩
      have hf2 := HFL.out.below hb2
      obtain ⟨u, hcu, hfu⟩ := hf2.cell hlt
      have hput := Lib.hid (hf2.put (b := g k) rfl)
      clear hf2
      go_wp2
      go_roundw
      case rel => exact ⟨k + 1, by omega, by go_num, hput.out⟩
      case measure => simp [intOf]; omega
    · have hkn : k = N := by omega
      subst hkn
      have hown := hfl.own
      rw [upto_end] at hown
      have hbel := hfl.bel
      clear hfl
      go_wp2
      go_ret
      exact ⟨_, rfl, hown, hbel, by simp⟩
set_option maxHeartbeats 1000000 in
theorem rowT5_any (p q : Value) (g : Nat → Bool) (A1 A2 : Option Addr) (n1 c1 n2 c2 : Nat) (w : World) (hl : n1 + n2 ≤ 60000)
    (hF : ∀ (k : Nat) (w' : World), k < n1 + n2 → Below w.heap.size w w' → Calls Try.prog 95 #[.int .i64 (k : Int), p, q] w' (Tru w' (g k))) :
    Calls Try.prog 90 #[lassoV A1 A2 n1 c1 n2 c2, .func (.func 95) #[] #[p, q]] w (NewRow w 4 1 (n1 + n2) (bcells ((List.range (n1 + n2)).map g)) False) := by
  unfold lassoV
  obtain ⟨w0, hw0, hb0, hz0, x0, x1, x2, x3⟩ := lasso_box w A1 A2 n1 c1 n2 c2
  have HW0 := Lib.hid hw0
  have HF := Lib.hid hF
  have hzw : w.heap.size < w0.heap.size := by omega
  have hzw0 : w.heap.size ≤ w0.heap.size := by omega
  generalize hN : n1 + n2 = N at *
  have hmk := run_make_row' (P := Try.prog) 50 4 (.bool false) 1 Try.underlying50 infoBool rfl .i64 .i64 N (by omega) (by omega)
  have h0 : Fill w (w0.alloc (.cells (madeCells #[.bool false] N) 4)) w0.heap.size N g 0 := by
    refine ⟨?_, hb0.alloc hzw0 _⟩
    have := own_madeW (w := w0) (base := w.heap.size) (e := 4) (n := N) (v := .bool false) hzw0 (by unfold maxLen; omega)
    rw [upto_zero, bcells, List.map_replicate]; exact this
  rw [hz0] at h0
  have H0 := Lib.hid h0
  clear hw0 hz0 hF hN h0
  go_enter Try.func90, Try.ntmps90
  go_wp2_with fail
  rw [← HW0.out]
  clear HW0
  go_wp2
  go_loopw [12] (fun i wr => ∃ k : Nat, k ≤ N ∧ i = .int .i64 k ∧ Fill w wr (w.heap.size + 1) N g k) (fun i _ => N - (intOf i).toNat)
  case atStart => exact ⟨0, by omega, rfl, H0.out⟩
  case round =>
    clear H0
    obtain ⟨k, hk, rfl, hfl⟩ := hrel
    by_cases hlt : k < N
    · have hcall := Lib.hid (HF.out k wr hlt hfl.bel)
      have HFL := Lib.hid hfl
      clear hfl
      go_wp2_with fail
      refine Calls.mono hcall.out ?_
      rintro e w2 ⟨rfl, hb2⟩
      have hf2 := HFL.out.below hb2
      obtain ⟨u, hcu, hfu⟩ := hf2.cell hlt
      have hput := Lib.hid (hf2.put (b := g k) rfl)
      clear hf2
      go_wp2
      go_roundw
      case rel => exact ⟨k + 1, by omega, by go_num, hput.out⟩
      case measure => simp [intOf]; omega
    · have hkn : k = N := by omega
      subst hkn
      have hown := hfl.own
      rw [upto_end] at hown
      have hbel := hfl.bel
      clear hfl
      go_wp2
      go_ret
      exact ⟨_, rfl, hown, hbel, by simp⟩
set_option maxHeartbeats 1000000 in
theorem rowT6_any (p q : Value) (g : Nat → Bool) (A1 A2 : Option Addr) (n1 c1 n2 c2 : Nat) (w : World) (hl : n1 + n2 ≤ 60000)
    (hF : ∀ (k : Nat) (w' : World), k < n1 + n2 → Below w.heap.size w w' → Calls Try.prog 96 #[.int .i64 (k : Int), p, q] w' (Tru w' (g k))) :
    Calls Try.prog 90 #[lassoV A1 A2 n1 c1 n2 c2, .func (.func 96) #[] #[p, q]] w (NewRow w 4 1 (n1 + n2) (bcells ((List.range (n1 + n2)).map g)) False) := by
  unfold lassoV
  obtain ⟨w0, hw0, hb0, hz0, x0, x1, x2, x3⟩ := lasso_box w A1 A2 n1 c1 n2 c2
  have HW0 := Lib.hid hw0
  have HF := Lib.hid hF
  have hzw : w.heap.size < w0.heap.size := by omega
  have hzw0 : w.heap.size ≤ w0.heap.size := by omega
  generalize hN : n1 + n2 = N at *
  have hmk := run_make_row' (P := Try.prog) 50 4 (.bool false) 1 Try.underlying50 infoBool rfl .i64 .i64 N (by omega) (by omega)
  have h0 : Fill w (w0.alloc (.cells (madeCells #[.bool false] N) 4)) w0.heap.size N g 0 := by
    refine ⟨?_, hb0.alloc hzw0 _⟩
    have := own_madeW (w := w0) (base := w.heap.size) (e := 4) (n := N) (v := .bool false) hzw0 (by unfold maxLen; omega)
    rw [upto_zero, bcells, List.map_replicate]; exact this
  rw [hz0] at h0
  have H0 := Lib.hid h0
  clear hw0 hz0 hF hN h0
  go_enter Try.func90, Try.ntmps90
  go_wp2_with fail
  rw [← HW0.out]
  clear HW0
  go_wp2
  go_loopw [12] (fun i wr => ∃ k : Nat, k ≤ N ∧ i = .int .i64 k ∧ Fill w wr (w.heap.size + 1) N g k) (fun i _ => N - (intOf i).toNat)
  case atStart => exact ⟨0, by omega, rfl, H0.out⟩
  case round =>
    clear H0
    obtain ⟨k, hk, rfl, hfl⟩ := hrel
    by_cases hlt : k < N
    · have hcall := Lib.hid (HF.out k wr hlt hfl.bel)
      have HFL := Lib.hid hfl
      clear hfl
      go_wp2_with fail
      refine Calls.mono hcall.out ?_
      rintro e w2 ⟨rfl, hb2⟩
      have hf2 := HFL.out.below hb2
      obtain ⟨u, hcu, hfu⟩ := hf2.cell hlt
      have hput := Lib.hid (hf2.put (b := g k) rfl)
      clear hf2
      go_wp2
      go_roundw
      case rel => exact ⟨k + 1, by omega, by go_num, hput.out⟩
      case measure => simp [intOf]; omega
    · have hkn : k = N := by omega
      subst hkn
      have hown := hfl.own
      rw [upto_end] at hown
      have hbel := hfl.bel
      clear hfl
      go_wp2
      go_ret
      exact ⟨_, rfl, hown, hbel, by simp⟩
set_option maxHeartbeats 1000000 in
theorem rowT7_any (p q : Value) (g : Nat → Bool) (A1 A2 : Option Addr) (n1 c1 n2 c2 : Nat) (w : World) (hl : n1 + n2 ≤ 60000)
    (hF : ∀ (k : Nat) (w' : World), k < n1 + n2 → Below w.heap.size w w' → Calls Try.prog 97 #[.int .i64 (k : Int), p, q] w' (Tru w' (g k))) :
    Calls Try.prog 90 #[lassoV A1 A2 n1 c1 n2 c2, .func (.func 97) #[] #[p, q]] w (NewRow w 4 1 (n1 + n2) (bcells ((List.range (n1 + n2)).map g)) False) := by
  unfold lassoV
  obtain ⟨w0, hw0, hb0, hz0, x0, x1, x2, x3⟩ := lasso_box w A1 A2 n1 c1 n2 c2
  have HW0 := Lib.hid hw0
  have HF := Lib.hid hF
  have hzw : w.heap.size < w0.heap.size := by omega
  have hzw0 : w.heap.size ≤ w0.heap.size := by omega
  generalize hN : n1 + n2 = N at *
  have hmk := run_make_row' (P := Try.prog) 50 4 (.bool false) 1 Try.underlying50 infoBool rfl .i64 .i64 N (by omega) (by omega)
  have h0 : Fill w (w0.alloc (.cells (madeCells #[.bool false] N) 4)) w0.heap.size N g 0 := by
    refine ⟨?_, hb0.alloc hzw0 _⟩
    have := own_madeW (w := w0) (base := w.heap.size) (e := 4) (n := N) (v := .bool false) hzw0 (by unfold maxLen; omega)
    rw [upto_zero, bcells, List.map_replicate]; exact this
  rw [hz0] at h0
  have H0 := Lib.hid h0
  clear hw0 hz0 hF hN h0
  go_enter Try.func90, Try.ntmps90
  go_wp2_with fail
  rw [← HW0.out]
  clear HW0
  go_wp2
  go_loopw [12] (fun i wr => ∃ k : Nat, k ≤ N ∧ i = .int .i64 k ∧ Fill w wr (w.heap.size + 1) N g k) (fun i _ => N - (intOf i).toNat)
  case atStart => exact ⟨0, by omega, rfl, H0.out⟩
  case round =>
    clear H0
    obtain ⟨k, hk, rfl, hfl⟩ := hrel
    by_cases hlt : k < N
    · have hcall := Lib.hid (HF.out k wr hlt hfl.bel)
      have HFL := Lib.hid hfl
      clear hfl
      go_wp2_with fail
      refine Calls.mono hcall.out ?_
      rintro e w2 ⟨rfl, hb2⟩
      have hf2 := HFL.out.below hb2
      obtain ⟨u, hcu, hfu⟩ := hf2.cell hlt
      have hput := Lib.hid (hf2.put (b := g k) rfl)
      clear hf2
      go_wp2
      go_roundw
      case rel => exact ⟨k + 1, by omega, by go_num, hput.out⟩
      case measure => simp [intOf]; omega
    · have hkn : k = N := by omega
      subst hkn
      have hown := hfl.own
      rw [upto_end] at hown
      have hbel := hfl.bel
      clear hfl
      go_wp2
      go_ret
      exact ⟨_, rfl, hown, hbel, by simp⟩
end Go.Proofs.Ytkikkplpalabhaa
