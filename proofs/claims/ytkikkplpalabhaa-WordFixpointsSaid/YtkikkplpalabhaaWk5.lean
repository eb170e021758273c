/- The walks of layer 27: the lasso's settle, for each of its closures. -/
import Derived.Test.YtkikkplpalabhaaWk4
namespace Go.Proofs.Ytkikkplpalabhaa
open Go.RowKit

/-- A row of bools under way, of a block of its own. -/
structure Bow (w wr : World) (g n : Nat) (l : List Bool) : Prop where
  own : wr.ownsRow w.heap.size 4 1 (.slice (some ⟨g, 0, none⟩) n n) n (bcells l)
  bel : Below w.heap.size w wr
section
variable {w wr w2 : World} {g n : Nat} {l : List Bool}
theorem Bow.len (h : Bow w wr g n l) : l.length = n := by have := h.own.1; rw [bcells_len] at this; omega
theorem Bow.lt (h : Bow w wr g n l) : w.heap.size ≤ g ∧ g < wr.heap.size := h.own.lt g rfl
theorem Bow.below (h : Bow w wr g n l) (hb : Below wr.heap.size wr w2) : Bow w w2 g n l := ⟨own_below h.own hb, h.bel.trans (hb.mono h.bel.size)⟩
theorem Bow.cell (h : Bow w wr g n l) {k : Nat} (hk : k < n) : wr.cell? ⟨g, k, none⟩ = some (.bool (l.getD k false)) ∧ wr.frozen? ⟨g, k, none⟩ = false := by
  refine ⟨?_, h.own.frozenAt k⟩
  rw [h.own.cellAt k (by omega)]
  exact bcells_at (by rw [h.len]; exact hk)
theorem Bow.put (h : Bow w wr g n l) (k : Nat) (b : Bool) : Bow w (wr.setCell ⟨g, k, none⟩ (.bool b)) g n (l.set k b) := by
  refine ⟨?_, ?_⟩
  · have := (h.own.stored k (.bool b)).1
    rw [show bcells (l.set k b) = (bcells l).set k (.bool b) by simp [bcells, List.map_set]]; exact this
  · exact h.bel.trans ((Tch.of_grown (h.own.stored k (.bool b)).2).below h.bel.size (fun j hj e => by cases e; have := h.lt; omega))
end
/-- A row of one bool, under way. -/
def fillC (n : Nat) (c : Bool) (k : Nat) : List Bool := (List.range n).map fun i => if i < k then c else false
theorem fillC_zero (n : Nat) (c : Bool) : fillC n c 0 = List.replicate n false := by apply List.ext_getElem <;> simp [fillC]
theorem fillC_step {n k : Nat} {c : Bool} (_hk : k < n) : (fillC n c k).set k c = fillC n c (k + 1) := by
  apply List.ext_getElem (by simp [fillC])
  intro i h1 h2
  simp [fillC] at h1
  simp only [fillC, List.getElem_set, List.getElem_map, List.getElem_range]
  by_cases e : k = i
  · subst e; simp
  · rw [if_neg e]
    by_cases h : i < k
    · rw [if_pos h, if_pos (by omega)]
    · rw [if_neg h, if_neg (by omega)]
theorem fillC_end (n : Nat) (c : Bool) : fillC n c n = List.replicate n c := by
  apply List.ext_getElem (by simp [fillC])
  intro i h1 h2
  simp [fillC] at h1
  simp [fillC, h1]
set_option maxHeartbeats 4000000 in
theorem settleT8_any (p q : Value) (of : Nat → Bool → Bool) (A1 A2 : Option Addr) (n1 c1 n2 c2 : Nat) (w : World) (hl : n1 + n2 ≤ 60000) (h2 : 0 < n2)
    (hF : ∀ (k : Nat) (c : Bool) (w' : World), k < n1 + n2 → Below w.heap.size w w' → Calls Try.prog 100 #[.int .i64 (k : Int), .bool c, p, q] w' (Tru w' (of k c))) :
    Calls Try.prog 99 #[lassoV A1 A2 n1 c1 n2 c2, .bool false, .func (.func 100) #[] #[p, q]] w (NewRow w 4 1 (n1 + n2) (bcells (settleL of (n1 + n2) n1 false)) False) := by
  unfold lassoV
  obtain ⟨w0, hw0, hb0, hz0, x0, x1, x2, x3⟩ := lasso_box w A1 A2 n1 c1 n2 c2
  have HW0 := Lib.hid hw0
  have HF := Lib.hid hF
  have HX := Lib.hid (And.intro x0 (And.intro x1 (And.intro x2 x3)))
  have hzw : w.heap.size < w0.heap.size := by omega
  have hzw0 : w.heap.size ≤ w0.heap.size := by omega
  have HNX := Lib.hid (fun (k : Nat) (w' : World) (hk : k < n1 + n2) => pnext_any A1 A2 n1 c1 n2 c2 k w' hl hk)
  unfold lassoV at HNX
  have hlp : n1 < n1 + n2 := by omega
  generalize hN : n1 + n2 = N at *
  have hmk := run_make_row' (P := Try.prog) 50 4 (.bool false) 1 Try.underlying50 infoBool rfl .i64 .i64 N (by omega) (by omega)
  have h0 : Bow w0 (w0.alloc (.cells (madeCells #[.bool false] N) 4)) w0.heap.size N (fillC N false 0) := by
    refine ⟨?_, (Below.refl _ _).alloc (Nat.le_refl _) _⟩
    have := own_madeW (w := w0) (base := w0.heap.size) (e := 4) (n := N) (v := .bool false) (Nat.le_refl _) (by unfold maxLen; omega)
    rw [fillC_zero, bcells, List.map_replicate]; exact this
  rw [hz0] at h0
  have H0 := Lib.hid h0
  clear hw0 hz0 hF hN h0
  go_enter Try.func99, Try.ntmps99
  go_wp2_with fail
  rw [← HW0.out]
  clear HW0
  go_wp2
  go_loopw [15] (fun i wr => ∃ k : Nat, k ≤ N ∧ i = .int .i64 k ∧ Bow w0 wr (w.heap.size + 1) N (fillC N false k)) (fun i _ => N - (intOf i).toNat)
  case atStart => exact ⟨0, by omega, rfl, H0.out⟩
  case round =>
    clear H0
    obtain ⟨k, hk, rfl, hB⟩ := hrel
    by_cases hlt : k < N
    · obtain ⟨hc, hf⟩ := hB.cell hlt
      have hput := hB.put k false
      rw [fillC_step hlt] at hput
      have HP := Lib.hid hput
      clear hput hB
      generalize (fillC N false k).getD k false = u at *
      go_wp2
      go_roundw
      case rel => exact ⟨k + 1, by omega, by go_num, HP.out⟩
      case measure => simp [intOf]; omega
    · have hkn : k = N := by omega
      subst hkn
      rw [fillC_end] at hB
      have HB0 := Lib.hid hB
      clear hB
      go_wp2
      go_loopw [23] (fun i wr => ∃ t : Nat, t ≤ 2 ∧ i = .int .i64 t ∧ Bow w0 wr (w.heap.size + 1) k (if t = 0 then List.replicate k false else if t = 1 then sweepL of k n1 (List.replicate k false) else settleL of k n1 false)) (fun i _ => 2 - (intOf i).toNat)
      case atStart => exact ⟨0, by omega, rfl, HB0.out⟩
      case round =>
        clear HB0
        obtain ⟨t, ht, rfl, hB⟩ := hrel
        by_cases hlt2 : t < 2
        · have HB := Lib.hid hB
          clear hB
          obtain ⟨old, hold⟩ : ∃ old, old = (if t = 0 then List.replicate k false else if t = 1 then sweepL of k n1 (List.replicate k false) else settleL of k n1 false) := ⟨_, rfl⟩
          rw [← hold] at HB
          have holdl : old.length = k := HB.out.len
          have hnew : sweepL of k n1 old = (if t + 1 = 0 then List.replicate k false else if t + 1 = 1 then sweepL of k n1 (List.replicate k false) else settleL of k n1 false) := by
            rw [hold]
            rcases (show t = 0 ∨ t = 1 by omega) with rfl | rfl
            · simp
            · simp [settleL]
          have HNW := Lib.hid hnew
          have HOL := Lib.hid holdl
          have hxr := Lib.hid (HB.out.bel.cell (p := ⟨w.heap.size, 2, none⟩) hzw)
          have hx2 := hxr.out.trans HX.out.2.2.1
          have dt2 : decide ((t : Int) < 2) = true := by simp; omega
          clear hnew hold holdl hxr
          go_wp2
          go_loopw [9] (fun i wr2 => ∃ j : Nat, j ≤ k ∧ i = .int .i64 ((j : Int) - 1) ∧ Bow w0 wr2 (w.heap.size + 1) k (swK of k n1 old j)) (fun i _ => (intOf i + 1).toNat)
          case atStart => exact ⟨k, by omega, rfl, by rw [swK_start HOL.out]; exact HB.out⟩
          case round =>
            clear hx2 HB
            obtain ⟨j, hj, rfl, hB⟩ := hrel
            by_cases hj0 : j = 0
            · subst hj0
              have HB := Lib.hid hB
              clear hB
              go_wp2
              go_roundw
              case rel => exact ⟨t + 1, by omega, by go_num, by rw [← HNW.out]; exact HB.out⟩
              case measure => simp [intOf]; omega
            · obtain ⟨i, rfl⟩ : ∃ i, j = i + 1 := ⟨j - 1, by omega⟩
              have ei : (((i + 1 : Nat) : Int) - 1) = (i : Int) := by omega
              rw [ei]
              clear ei hj0
              have hik : i < k := by omega
              have hy0 := (hB.bel.cell (p := ⟨w.heap.size, 0, none⟩) hzw).trans HX.out.1
              have hy1 := (hB.bel.cell (p := ⟨w.heap.size, 1, none⟩) hzw).trans HX.out.2.1
              have hy2 := (hB.bel.cell (p := ⟨w.heap.size, 2, none⟩) hzw).trans HX.out.2.2.1
              have hy3 := (hB.bel.cell (p := ⟨w.heap.size, 3, none⟩) hzw).trans HX.out.2.2.2
              have hnxl := nx_lt (lp := n1) (n := k) (i := i) hlp
              have hstep := swK_step (of := of) (old := old) hik hlp
              have HSTP := Lib.hid hstep
              have hbw := hb0.trans (hB.bel.mono hzw0)
              have HNXC := Lib.hid (HNX.out i wr hik)
              have HB := Lib.hid hB
              clear hB hstep
              generalize hm : nx n1 k i = m at *
              go_wp2_with fail
              refine Calls.mono HNXC.out ?_
              rintro e w5 ⟨rfl, hb5⟩
              have hB5 := HB.out.below hb5
              obtain ⟨hc5, hf5⟩ := hB5.cell hnxl
              have HCC := Lib.hid (HF.out i ((swK of k n1 old (i + 1)).getD m false) w5 hik (hbw.trans (hb5.mono hbw.size)))
              generalize hv : (swK of k n1 old (i + 1)).getD m false = v at *
              have HB5 := Lib.hid hB5
              clear hB5 hm hv
              go_wp2_with fail
              refine Calls.mono HCC.out ?_
              rintro e w6 ⟨rfl, hb6⟩
              have hB6 := HB5.out.below hb6
              obtain ⟨hc6, hf6⟩ := hB6.cell hik
              have hput := hB6.put i (of i v)
              rw [HSTP.out] at hput
              have HP := Lib.hid hput
              generalize (swK of k n1 old (i + 1)).getD i false = u at *
              clear hB6 hput
              go_wp2
              go_roundw
              case rel => first | exact ⟨i, by omega, rfl, HP.out⟩ | ((repeat apply Exists.intro); exact ⟨⟨i, by omega, rfl, HP.out⟩, rfl⟩)
              case measure => simp [intOf] <;> omega
        · have ht2 : t = 2 := by omega
          subst ht2
          simp only [show ¬ ((2 : Nat) = 0) by decide, show ¬ ((2 : Nat) = 1) by decide, if_false] at hB
          have HB := Lib.hid hB
          clear hB
          go_wp2
          go_ret
          exact ⟨_, rfl, own_base HB.out.own hzw0, hb0.trans (HB.out.bel.mono hzw0), by simp⟩
set_option maxHeartbeats 4000000 in
theorem settleT9_any (p q : Value) (of : Nat → Bool → Bool) (A1 A2 : Option Addr) (n1 c1 n2 c2 : Nat) (w : World) (hl : n1 + n2 ≤ 60000) (h2 : 0 < n2)
    (hF : ∀ (k : Nat) (c : Bool) (w' : World), k < n1 + n2 → Below w.heap.size w w' → Calls Try.prog 101 #[.int .i64 (k : Int), .bool c, p, q] w' (Tru w' (of k c))) :
    Calls Try.prog 99 #[lassoV A1 A2 n1 c1 n2 c2, .bool true, .func (.func 101) #[] #[p, q]] w (NewRow w 4 1 (n1 + n2) (bcells (settleL of (n1 + n2) n1 true)) False) := by
  unfold lassoV
  obtain ⟨w0, hw0, hb0, hz0, x0, x1, x2, x3⟩ := lasso_box w A1 A2 n1 c1 n2 c2
  have HW0 := Lib.hid hw0
  have HF := Lib.hid hF
  have HX := Lib.hid (And.intro x0 (And.intro x1 (And.intro x2 x3)))
  have hzw : w.heap.size < w0.heap.size := by omega
  have hzw0 : w.heap.size ≤ w0.heap.size := by omega
  have HNX := Lib.hid (fun (k : Nat) (w' : World) (hk : k < n1 + n2) => pnext_any A1 A2 n1 c1 n2 c2 k w' hl hk)
  unfold lassoV at HNX
  have hlp : n1 < n1 + n2 := by omega
  generalize hN : n1 + n2 = N at *
  have hmk := run_make_row' (P := Try.prog) 50 4 (.bool false) 1 Try.underlying50 infoBool rfl .i64 .i64 N (by omega) (by omega)
  have h0 : Bow w0 (w0.alloc (.cells (madeCells #[.bool false] N) 4)) w0.heap.size N (fillC N true 0) := by
    refine ⟨?_, (Below.refl _ _).alloc (Nat.le_refl _) _⟩
    have := own_madeW (w := w0) (base := w0.heap.size) (e := 4) (n := N) (v := .bool false) (Nat.le_refl _) (by unfold maxLen; omega)
    rw [fillC_zero, bcells, List.map_replicate]; exact this
  rw [hz0] at h0
  have H0 := Lib.hid h0
  clear hw0 hz0 hF hN h0
  go_enter Try.func99, Try.ntmps99
  go_wp2_with fail
  rw [← HW0.out]
  clear HW0
  go_wp2
  go_loopw [15] (fun i wr => ∃ k : Nat, k ≤ N ∧ i = .int .i64 k ∧ Bow w0 wr (w.heap.size + 1) N (fillC N true k)) (fun i _ => N - (intOf i).toNat)
  case atStart => exact ⟨0, by omega, rfl, H0.out⟩
  case round =>
    clear H0
    obtain ⟨k, hk, rfl, hB⟩ := hrel
    by_cases hlt : k < N
    · obtain ⟨hc, hf⟩ := hB.cell hlt
      have hput := hB.put k true
      rw [fillC_step hlt] at hput
      have HP := Lib.hid hput
      clear hput hB
      generalize (fillC N true k).getD k false = u at *
      go_wp2
      go_roundw
      case rel => exact ⟨k + 1, by omega, by go_num, HP.out⟩
      case measure => simp [intOf]; omega
    · have hkn : k = N := by omega
      subst hkn
      rw [fillC_end] at hB
      have HB0 := Lib.hid hB
      clear hB
      go_wp2
      go_loopw [23] (fun i wr => ∃ t : Nat, t ≤ 2 ∧ i = .int .i64 t ∧ Bow w0 wr (w.heap.size + 1) k (if t = 0 then List.replicate k true else if t = 1 then sweepL of k n1 (List.replicate k true) else settleL of k n1 true)) (fun i _ => 2 - (intOf i).toNat)
      case atStart => exact ⟨0, by omega, rfl, HB0.out⟩
      case round =>
        clear HB0
        obtain ⟨t, ht, rfl, hB⟩ := hrel
        by_cases hlt2 : t < 2
        · have HB := Lib.hid hB
          clear hB
          obtain ⟨old, hold⟩ : ∃ old, old = (if t = 0 then List.replicate k true else if t = 1 then sweepL of k n1 (List.replicate k true) else settleL of k n1 true) := ⟨_, rfl⟩
          rw [← hold] at HB
          have holdl : old.length = k := HB.out.len
          have hnew : sweepL of k n1 old = (if t + 1 = 0 then List.replicate k true else if t + 1 = 1 then sweepL of k n1 (List.replicate k true) else settleL of k n1 true) := by
            rw [hold]
            rcases (show t = 0 ∨ t = 1 by omega) with rfl | rfl
            · simp
            · simp [settleL]
          have HNW := Lib.hid hnew
          have HOL := Lib.hid holdl
          have hxr := Lib.hid (HB.out.bel.cell (p := ⟨w.heap.size, 2, none⟩) hzw)
          have hx2 := hxr.out.trans HX.out.2.2.1
          have dt2 : decide ((t : Int) < 2) = true := by simp; omega
          clear hnew hold holdl hxr
          go_wp2
          go_loopw [9] (fun i wr2 => ∃ j : Nat, j ≤ k ∧ i = .int .i64 ((j : Int) - 1) ∧ Bow w0 wr2 (w.heap.size + 1) k (swK of k n1 old j)) (fun i _ => (intOf i + 1).toNat)
          case atStart => exact ⟨k, by omega, rfl, by rw [swK_start HOL.out]; exact HB.out⟩
          case round =>
            clear hx2 HB
            obtain ⟨j, hj, rfl, hB⟩ := hrel
            by_cases hj0 : j = 0
            · subst hj0
              have HB := Lib.hid hB
              clear hB
              go_wp2
              go_roundw
              case rel => exact ⟨t + 1, by omega, by go_num, by rw [← HNW.out]; exact HB.out⟩
              case measure => simp [intOf]; omega
            · obtain ⟨i, rfl⟩ : ∃ i, j = i + 1 := ⟨j - 1, by omega⟩
              have ei : (((i + 1 : Nat) : Int) - 1) = (i : Int) := by omega
              rw [ei]
              clear ei hj0
              have hik : i < k := by omega
              have hy0 := (hB.bel.cell (p := ⟨w.heap.size, 0, none⟩) hzw).trans HX.out.1
              have hy1 := (hB.bel.cell (p := ⟨w.heap.size, 1, none⟩) hzw).trans HX.out.2.1
              have hy2 := (hB.bel.cell (p := ⟨w.heap.size, 2, none⟩) hzw).trans HX.out.2.2.1
              have hy3 := (hB.bel.cell (p := ⟨w.heap.size, 3, none⟩) hzw).trans HX.out.2.2.2
              have hnxl := nx_lt (lp := n1) (n := k) (i := i) hlp
              have hstep := swK_step (of := of) (old := old) hik hlp
              have HSTP := Lib.hid hstep
              have hbw := hb0.trans (hB.bel.mono hzw0)
              have HNXC := Lib.hid (HNX.out i wr hik)
              have HB := Lib.hid hB
              clear hB hstep
              generalize hm : nx n1 k i = m at *
              go_wp2_with fail
              refine Calls.mono HNXC.out ?_
              rintro e w5 ⟨rfl, hb5⟩
              have hB5 := HB.out.below hb5
              obtain ⟨hc5, hf5⟩ := hB5.cell hnxl
              have HCC := Lib.hid (HF.out i ((swK of k n1 old (i + 1)).getD m false) w5 hik (hbw.trans (hb5.mono hbw.size)))
              generalize hv : (swK of k n1 old (i + 1)).getD m false = v at *
              have HB5 := Lib.hid hB5
              clear hB5 hm hv
              go_wp2_with fail
              refine Calls.mono HCC.out ?_
              rintro e w6 ⟨rfl, hb6⟩
              have hB6 := HB5.out.below hb6
              obtain ⟨hc6, hf6⟩ := hB6.cell hik
              have hput := hB6.put i (of i v)
              rw [HSTP.out] at hput
              have HP := Lib.hid hput
              generalize (swK of k n1 old (i + 1)).getD i false = u at *
              clear hB6 hput
              go_wp2
              go_roundw
              case rel => first | exact ⟨i, by omega, rfl, HP.out⟩ | ((repeat apply Exists.intro); exact ⟨⟨i, by omega, rfl, HP.out⟩, rfl⟩)
              case measure => simp [intOf] <;> omega
        · have ht2 : t = 2 := by omega
          subst ht2
          simp only [show ¬ ((2 : Nat) = 0) by decide, show ¬ ((2 : Nat) = 1) by decide, if_false] at hB
          have HB := Lib.hid hB
          clear hB
          go_wp2
          go_ret
          exact ⟨_, rfl, own_base HB.out.own hzw0, hb0.trans (HB.out.bel.mono hzw0), by simp⟩
set_option maxHeartbeats 4000000 in
theorem settleT10_any (p : Value) (of : Nat → Bool → Bool) (A1 A2 : Option Addr) (n1 c1 n2 c2 : Nat) (w : World) (hl : n1 + n2 ≤ 60000) (h2 : 0 < n2)
    (hF : ∀ (k : Nat) (c : Bool) (w' : World), k < n1 + n2 → Below w.heap.size w w' → Calls Try.prog 102 #[.int .i64 (k : Int), .bool c, p] w' (Tru w' (of k c))) :
    Calls Try.prog 99 #[lassoV A1 A2 n1 c1 n2 c2, .bool false, .func (.func 102) #[] #[p]] w (NewRow w 4 1 (n1 + n2) (bcells (settleL of (n1 + n2) n1 false)) False) := by
  unfold lassoV
  obtain ⟨w0, hw0, hb0, hz0, x0, x1, x2, x3⟩ := lasso_box w A1 A2 n1 c1 n2 c2
  have HW0 := Lib.hid hw0
  have HF := Lib.hid hF
  have HX := Lib.hid (And.intro x0 (And.intro x1 (And.intro x2 x3)))
  have hzw : w.heap.size < w0.heap.size := by omega
  have hzw0 : w.heap.size ≤ w0.heap.size := by omega
  have HNX := Lib.hid (fun (k : Nat) (w' : World) (hk : k < n1 + n2) => pnext_any A1 A2 n1 c1 n2 c2 k w' hl hk)
  unfold lassoV at HNX
  have hlp : n1 < n1 + n2 := by omega
  generalize hN : n1 + n2 = N at *
  have hmk := run_make_row' (P := Try.prog) 50 4 (.bool false) 1 Try.underlying50 infoBool rfl .i64 .i64 N (by omega) (by omega)
  have h0 : Bow w0 (w0.alloc (.cells (madeCells #[.bool false] N) 4)) w0.heap.size N (fillC N false 0) := by
    refine ⟨?_, (Below.refl _ _).alloc (Nat.le_refl _) _⟩
    have := own_madeW (w := w0) (base := w0.heap.size) (e := 4) (n := N) (v := .bool false) (Nat.le_refl _) (by unfold maxLen; omega)
    rw [fillC_zero, bcells, List.map_replicate]; exact this
  rw [hz0] at h0
  have H0 := Lib.hid h0
  clear hw0 hz0 hF hN h0
  go_enter Try.func99, Try.ntmps99
  go_wp2_with fail
  rw [← HW0.out]
  clear HW0
  go_wp2
  go_loopw [15] (fun i wr => ∃ k : Nat, k ≤ N ∧ i = .int .i64 k ∧ Bow w0 wr (w.heap.size + 1) N (fillC N false k)) (fun i _ => N - (intOf i).toNat)
  case atStart => exact ⟨0, by omega, rfl, H0.out⟩
  case round =>
    clear H0
    obtain ⟨k, hk, rfl, hB⟩ := hrel
    by_cases hlt : k < N
    · obtain ⟨hc, hf⟩ := hB.cell hlt
      have hput := hB.put k false
      rw [fillC_step hlt] at hput
      have HP := Lib.hid hput
      clear hput hB
      generalize (fillC N false k).getD k false = u at *
      go_wp2
      go_roundw
      case rel => exact ⟨k + 1, by omega, by go_num, HP.out⟩
      case measure => simp [intOf]; omega
    · have hkn : k = N := by omega
      subst hkn
      rw [fillC_end] at hB
      have HB0 := Lib.hid hB
      clear hB
      go_wp2
      go_loopw [23] (fun i wr => ∃ t : Nat, t ≤ 2 ∧ i = .int .i64 t ∧ Bow w0 wr (w.heap.size + 1) k (if t = 0 then List.replicate k false else if t = 1 then sweepL of k n1 (List.replicate k false) else settleL of k n1 false)) (fun i _ => 2 - (intOf i).toNat)
      case atStart => exact ⟨0, by omega, rfl, HB0.out⟩
      case round =>
        clear HB0
        obtain ⟨t, ht, rfl, hB⟩ := hrel
        by_cases hlt2 : t < 2
        · have HB := Lib.hid hB
          clear hB
          obtain ⟨old, hold⟩ : ∃ old, old = (if t = 0 then List.replicate k false else if t = 1 then sweepL of k n1 (List.replicate k false) else settleL of k n1 false) := ⟨_, rfl⟩
          rw [← hold] at HB
          have holdl : old.length = k := HB.out.len
          have hnew : sweepL of k n1 old = (if t + 1 = 0 then List.replicate k false else if t + 1 = 1 then sweepL of k n1 (List.replicate k false) else settleL of k n1 false) := by
            rw [hold]
            rcases (show t = 0 ∨ t = 1 by omega) with rfl | rfl
            · simp
            · simp [settleL]
          have HNW := Lib.hid hnew
          have HOL := Lib.hid holdl
          have hxr := Lib.hid (HB.out.bel.cell (p := ⟨w.heap.size, 2, none⟩) hzw)
          have hx2 := hxr.out.trans HX.out.2.2.1
          have dt2 : decide ((t : Int) < 2) = true := by simp; omega
          clear hnew hold holdl hxr
          go_wp2
          go_loopw [9] (fun i wr2 => ∃ j : Nat, j ≤ k ∧ i = .int .i64 ((j : Int) - 1) ∧ Bow w0 wr2 (w.heap.size + 1) k (swK of k n1 old j)) (fun i _ => (intOf i + 1).toNat)
          case atStart => exact ⟨k, by omega, rfl, by rw [swK_start HOL.out]; exact HB.out⟩
          case round =>
            clear hx2 HB
            obtain ⟨j, hj, rfl, hB⟩ := hrel
            by_cases hj0 : j = 0
            · subst hj0
              have HB := Lib.hid hB
              clear hB
              go_wp2
              go_roundw
              case rel => exact ⟨t + 1, by omega, by go_num, by rw [← HNW.out]; exact HB.out⟩
              case measure => simp [intOf]; omega
            · obtain ⟨i, rfl⟩ : ∃ i, j = i + 1 := ⟨j - 1, by omega⟩
              have ei : (((i + 1 : Nat) : Int) - 1) = (i : Int) := by omega
              rw [ei]
              clear ei hj0
              have hik : i < k := by omega
              have hy0 := (hB.bel.cell (p := ⟨w.heap.size, 0, none⟩) hzw).trans HX.out.1
              have hy1 := (hB.bel.cell (p := ⟨w.heap.size, 1, none⟩) hzw).trans HX.out.2.1
              have hy2 := (hB.bel.cell (p := ⟨w.heap.size, 2, none⟩) hzw).trans HX.out.2.2.1
              have hy3 := (hB.bel.cell (p := ⟨w.heap.size, 3, none⟩) hzw).trans HX.out.2.2.2
              have hnxl := nx_lt (lp := n1) (n := k) (i := i) hlp
              have hstep := swK_step (of := of) (old := old) hik hlp
              have HSTP := Lib.hid hstep
              have hbw := hb0.trans (hB.bel.mono hzw0)
              have HNXC := Lib.hid (HNX.out i wr hik)
              have HB := Lib.hid hB
              clear hB hstep
              generalize hm : nx n1 k i = m at *
              go_wp2_with fail
              refine Calls.mono HNXC.out ?_
              rintro e w5 ⟨rfl, hb5⟩
              have hB5 := HB.out.below hb5
              obtain ⟨hc5, hf5⟩ := hB5.cell hnxl
              have HCC := Lib.hid (HF.out i ((swK of k n1 old (i + 1)).getD m false) w5 hik (hbw.trans (hb5.mono hbw.size)))
              generalize hv : (swK of k n1 old (i + 1)).getD m false = v at *
              have HB5 := Lib.hid hB5
              clear hB5 hm hv
              go_wp2_with fail
              refine Calls.mono HCC.out ?_
              rintro e w6 ⟨rfl, hb6⟩
              have hB6 := HB5.out.below hb6
              obtain ⟨hc6, hf6⟩ := hB6.cell hik
              have hput := hB6.put i (of i v)
              rw [HSTP.out] at hput
              have HP := Lib.hid hput
              generalize (swK of k n1 old (i + 1)).getD i false = u at *
              clear hB6 hput
              go_wp2
              go_roundw
              case rel => first | exact ⟨i, by omega, rfl, HP.out⟩ | ((repeat apply Exists.intro); exact ⟨⟨i, by omega, rfl, HP.out⟩, rfl⟩)
              case measure => simp [intOf] <;> omega
        · have ht2 : t = 2 := by omega
          subst ht2
          simp only [show ¬ ((2 : Nat) = 0) by decide, show ¬ ((2 : Nat) = 1) by decide, if_false] at hB
          have HB := Lib.hid hB
          clear hB
          go_wp2
          go_ret
          exact ⟨_, rfl, own_base HB.out.own hzw0, hb0.trans (HB.out.bel.mono hzw0), by simp⟩
set_option maxHeartbeats 4000000 in
theorem settleT11_any (p : Value) (of : Nat → Bool → Bool) (A1 A2 : Option Addr) (n1 c1 n2 c2 : Nat) (w : World) (hl : n1 + n2 ≤ 60000) (h2 : 0 < n2)
    (hF : ∀ (k : Nat) (c : Bool) (w' : World), k < n1 + n2 → Below w.heap.size w w' → Calls Try.prog 103 #[.int .i64 (k : Int), .bool c, p] w' (Tru w' (of k c))) :
    Calls Try.prog 99 #[lassoV A1 A2 n1 c1 n2 c2, .bool true, .func (.func 103) #[] #[p]] w (NewRow w 4 1 (n1 + n2) (bcells (settleL of (n1 + n2) n1 true)) False) := by
  unfold lassoV
  obtain ⟨w0, hw0, hb0, hz0, x0, x1, x2, x3⟩ := lasso_box w A1 A2 n1 c1 n2 c2
  have HW0 := Lib.hid hw0
  have HF := Lib.hid hF
  have HX := Lib.hid (And.intro x0 (And.intro x1 (And.intro x2 x3)))
  have hzw : w.heap.size < w0.heap.size := by omega
  have hzw0 : w.heap.size ≤ w0.heap.size := by omega
  have HNX := Lib.hid (fun (k : Nat) (w' : World) (hk : k < n1 + n2) => pnext_any A1 A2 n1 c1 n2 c2 k w' hl hk)
  unfold lassoV at HNX
  have hlp : n1 < n1 + n2 := by omega
  generalize hN : n1 + n2 = N at *
  have hmk := run_make_row' (P := Try.prog) 50 4 (.bool false) 1 Try.underlying50 infoBool rfl .i64 .i64 N (by omega) (by omega)
  have h0 : Bow w0 (w0.alloc (.cells (madeCells #[.bool false] N) 4)) w0.heap.size N (fillC N true 0) := by
    refine ⟨?_, (Below.refl _ _).alloc (Nat.le_refl _) _⟩
    have := own_madeW (w := w0) (base := w0.heap.size) (e := 4) (n := N) (v := .bool false) (Nat.le_refl _) (by unfold maxLen; omega)
    rw [fillC_zero, bcells, List.map_replicate]; exact this
  rw [hz0] at h0
  have H0 := Lib.hid h0
  clear hw0 hz0 hF hN h0
  go_enter Try.func99, Try.ntmps99
  go_wp2_with fail
  rw [← HW0.out]
  clear HW0
  go_wp2
  go_loopw [15] (fun i wr => ∃ k : Nat, k ≤ N ∧ i = .int .i64 k ∧ Bow w0 wr (w.heap.size + 1) N (fillC N true k)) (fun i _ => N - (intOf i).toNat)
  case atStart => exact ⟨0, by omega, rfl, H0.out⟩
  case round =>
    clear H0
    obtain ⟨k, hk, rfl, hB⟩ := hrel
    by_cases hlt : k < N
    · obtain ⟨hc, hf⟩ := hB.cell hlt
      have hput := hB.put k true
      rw [fillC_step hlt] at hput
      have HP := Lib.hid hput
      clear hput hB
      generalize (fillC N true k).getD k false = u at *
      go_wp2
      go_roundw
      case rel => exact ⟨k + 1, by omega, by go_num, HP.out⟩
      case measure => simp [intOf]; omega
    · have hkn : k = N := by omega
      subst hkn
      rw [fillC_end] at hB
      have HB0 := Lib.hid hB
      clear hB
      go_wp2
      go_loopw [23] (fun i wr => ∃ t : Nat, t ≤ 2 ∧ i = .int .i64 t ∧ Bow w0 wr (w.heap.size + 1) k (if t = 0 then List.replicate k true else if t = 1 then sweepL of k n1 (List.replicate k true) else settleL of k n1 true)) (fun i _ => 2 - (intOf i).toNat)
      case atStart => exact ⟨0, by omega, rfl, HB0.out⟩
      case round =>
        clear HB0
        obtain ⟨t, ht, rfl, hB⟩ := hrel
        by_cases hlt2 : t < 2
        · have HB := Lib.hid hB
          clear hB
          obtain ⟨old, hold⟩ : ∃ old, old = (if t = 0 then List.replicate k true else if t = 1 then sweepL of k n1 (List.replicate k true) else settleL of k n1 true) := ⟨_, rfl⟩
          rw [← hold] at HB
          have holdl : old.length = k := HB.out.len
          have hnew : sweepL of k n1 old = (if t + 1 = 0 then List.replicate k true else if t + 1 = 1 then sweepL of k n1 (List.replicate k true) else settleL of k n1 true) := by
            rw [hold]
            rcases (show t = 0 ∨ t = 1 by omega) with rfl | rfl
            · simp
            · simp [settleL]
          have HNW := Lib.hid hnew
          have HOL := Lib.hid holdl
          have hxr := Lib.hid (HB.out.bel.cell (p := ⟨w.heap.size, 2, none⟩) hzw)
          have hx2 := hxr.out.trans HX.out.2.2.1
          have dt2 : decide ((t : Int) < 2) = true := by simp; omega
          clear hnew hold holdl hxr
          go_wp2
          go_loopw [9] (fun i wr2 => ∃ j : Nat, j ≤ k ∧ i = .int .i64 ((j : Int) - 1) ∧ Bow w0 wr2 (w.heap.size + 1) k (swK of k n1 old j)) (fun i _ => (intOf i + 1).toNat)
          case atStart => exact ⟨k, by omega, rfl, by rw [swK_start HOL.out]; exact HB.out⟩
          case round =>
            clear hx2 HB
            obtain ⟨j, hj, rfl, hB⟩ := hrel
            by_cases hj0 : j = 0
            · subst hj0
              have HB := Lib.hid hB
              clear hB
              go_wp2
              go_roundw
              case rel => exact ⟨t + 1, by omega, by go_num, by rw [← HNW.out]; exact HB.out⟩
              case measure => simp [intOf]; omega
            · obtain ⟨i, rfl⟩ : ∃ i, j = i + 1 := ⟨j - 1, by omega⟩
              have ei : (((i + 1 : Nat) : Int) - 1) = (i : Int) := by omega
              rw [ei]
              clear ei hj0
              have hik : i < k := by omega
              have hy0 := (hB.bel.cell (p := ⟨w.heap.size, 0, none⟩) hzw).trans HX.out.1
              have hy1 := (hB.bel.cell (p := ⟨w.heap.size, 1, none⟩) hzw).trans HX.out.2.1
              have hy2 := (hB.bel.cell (p := ⟨w.heap.size, 2, none⟩) hzw).trans HX.out.2.2.1
              have hy3 := (hB.bel.cell (p := ⟨w.heap.size, 3, none⟩) hzw).trans HX.out.2.2.2
              have hnxl := nx_lt (lp := n1) (n := k) (i := i) hlp
              have hstep := swK_step (of := of) (old := old) hik hlp
              have HSTP := Lib.hid hstep
              have hbw := hb0.trans (hB.bel.mono hzw0)
              have HNXC := Lib.hid (HNX.out i wr hik)
              have HB := Lib.hid hB
              clear hB hstep
              generalize hm : nx n1 k i = m at *
              go_wp2_with fail
              refine Calls.mono HNXC.out ?_
              rintro e w5 ⟨rfl, hb5⟩
              have hB5 := HB.out.below hb5
              obtain ⟨hc5, hf5⟩ := hB5.cell hnxl
              have HCC := Lib.hid (HF.out i ((swK of k n1 old (i + 1)).getD m false) w5 hik (hbw.trans (hb5.mono hbw.size)))
              generalize hv : (swK of k n1 old (i + 1)).getD m false = v at *
              have HB5 := Lib.hid hB5
              clear hB5 hm hv
              go_wp2_with fail
              refine Calls.mono HCC.out ?_
              rintro e w6 ⟨rfl, hb6⟩
              have hB6 := HB5.out.below hb6
              obtain ⟨hc6, hf6⟩ := hB6.cell hik
              have hput := hB6.put i (of i v)
              rw [HSTP.out] at hput
              have HP := Lib.hid hput
              generalize (swK of k n1 old (i + 1)).getD i false = u at *
              clear hB6 hput
              go_wp2
              go_roundw
              case rel => first | exact ⟨i, by omega, rfl, HP.out⟩ | ((repeat apply Exists.intro); exact ⟨⟨i, by omega, rfl, HP.out⟩, rfl⟩)
              case measure => simp [intOf] <;> omega
        · have ht2 : t = 2 := by omega
          subst ht2
          simp only [show ¬ ((2 : Nat) = 0) by decide, show ¬ ((2 : Nat) = 1) by decide, if_false] at hB
          have HB := Lib.hid hB
          clear hB
          go_wp2
          go_ret
          exact ⟨_, rfl, own_base HB.out.own hzw0, hb0.trans (HB.out.bel.mono hzw0), by simp⟩
end Go.Proofs.Ytkikkplpalabhaa
