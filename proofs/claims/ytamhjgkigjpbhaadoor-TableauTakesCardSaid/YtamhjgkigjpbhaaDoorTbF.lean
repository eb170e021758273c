/- The walk of strconv.FormatUint at base 16, for numbers below 256 (layer 29). -/
import Derived.Test.YtamhjgkigjpbhaaDoorCv5
import Derived.Shelf.Spec.TrailingZeros
import Derived.Lib.ItoaMem
namespace Go.Proofs.YtamhjgkigjpbhaaDoor
open Go.RowKit Go.Shelf

/-- The world that the table is in. -/
abbrev TzTab (w : World) : Prop := TabAt 2 Lib.deBruijn64tab w
theorem tz_lt {w : World} (hT : TzTab w) : 2 < w.heap.size := by
  have h := hT 0 (by decide)
  rcases Nat.lt_or_ge 2 w.heap.size with h1 | h1
  · exact h1
  · unfold World.cell? at h
    dsimp only at h
    rw [Array.getElem?_eq_none h1] at h
    cases h
theorem tz_below {w w' : World} (hT : TzTab w) (hb : Below w.heap.size w w') : TzTab w' := fun j hj => (hb.cell (p := ⟨2, j, none⟩) (tz_lt hT)).trans (hT j hj)
set_option maxHeartbeats 1000000 in
theorem tz16_any (w : World) (hT : TzTab w) : Calls Tryd.prog 108 #[.int .u64 16] w fun e w' => e = .returned (.int .i64 4) ∧ w' = w := by
  have hcell : w.cell? ⟨2, 15, none⟩ = some (.int .u8 4) := hT 15 (by decide)
  have key : IntKind.u64.wrap (bits BinOp.and IntKind.u64 16 (IntKind.u64.wrap (-16)) * 285870213051353865) / 288230376151711744 = 15 := by decide
  go_enter Tryd.func108, Tryd.ntmps108
  go_wp2_with (simp only [key])
  go_ret
  exact ⟨rfl, rfl⟩
set_option maxHeartbeats 1000000 in
theorem tzu16_any (w : World) (hT : TzTab w) : Calls Tryd.prog 106 #[.int .u64 16] w fun e w' => e = .returned (.int .i64 4) ∧ w' = w := by
  have H := Lib.hid (tz16_any w hT)
  go_enter Tryd.func106, Tryd.ntmps106
  go_wp2_with fail
  refine Calls.mono H.out ?_
  rintro e w' ⟨rfl, rfl⟩
  go_wp2_with fail
  go_ret
  exact ⟨rfl, rfl⟩

/-- The letter of a digit. -/
def digS : List Int := [48, 49, 50, 51, 52, 53, 54, 55, 56, 57, 97, 98, 99, 100, 101, 102]
def hexL (u : Nat) : List Int := if u < 16 then [digS.getD u 0] else [digS.getD (u / 16) 0, digS.getD (u % 16) 0]
theorem dig_at : ∀ m : Nat, (h : m < 16) → ((({ data := #[48, 49, 50, 51, 52, 53, 54, 55, 56, 57, 97, 98, 99, 100, 101, 102, 103, 104, 105, 106, 107, 108, 109, 110, 111, 112, 113, 114, 115, 116, 117, 118, 119, 120, 121, 122] } : ByteArray)[m]'(Nat.lt_trans h (by decide))).toNat : Int) = digS.getD m 0 := by
  have h : ∀ m : Fin 16, ((({ data := #[48, 49, 50, 51, 52, 53, 54, 55, 56, 57, 97, 98, 99, 100, 101, 102, 103, 104, 105, 106, 107, 108, 109, 110, 111, 112, 113, 114, 115, 116, 117, 118, 119, 120, 121, 122] } : ByteArray)[m.val]'(Nat.lt_trans m.isLt (by decide))).toNat : Int) = digS.getD m.val 0 := by decide +kernel
  exact fun m hm => h ⟨m, hm⟩
set_option maxHeartbeats 1000000 in
theorem pow16_any (w : World) : Calls Tryd.prog 105 #[.int .i64 16] w fun e w' => e = .returned (.bool true) ∧ w' = w := by
  have hand : bits .and .i64 16 15 = 0 := by decide
  go_enter Tryd.func105, Tryd.ntmps105
  go_wp2_with fail
  go_ret
  exact ⟨rfl, rfl⟩
set_option maxHeartbeats 4000000 in
set_option maxRecDepth 100000 in
theorem fmtBits_any (u : Nat) (hu : u < 256) (w : World) (hT : TzTab w) :
    Calls Tryd.prog 100 #[.slice none 0 0, .int .u64 (u : Int), .int .i64 16, .bool false, .bool false] w fun e w' => e = .returned (.tuple #[.slice none 0 0, .string (strOfNums (hexL u))]) ∧ Below w.heap.size w w' := by
  have hb0 : Below w.heap.size w (w.alloc (.cells Tryd.zeroCells158 158)) := (Below.refl _ _).alloc (Nat.le_refl _) _
  have hx0 := heap_alloc_new w (.cells Tryd.zeroCells158 158)
  have hz65 : Tryd.zeroCells158.size = 65 := by kernel_rfl
  obtain ⟨W0, hW0⟩ : ∃ W0, w.alloc (.cells Tryd.zeroCells158 158) = W0 := ⟨_, rfl⟩
  rw [hW0] at hb0 hx0
  have HW0 := Lib.hid hW0
  have hT0 : TzTab W0 := by
    rw [← hW0]; exact tz_below hT ((Below.refl _ _).alloc (Nat.le_refl _) _)
  have HT0 := Lib.hid (tzu16_any W0 hT0)
  clear hW0
  go_enter Tryd.func100, Tryd.ntmps100
  go_wp2_with fail
  rw [HW0.out]
  refine Calls.mono (pow16_any W0) ?_
  rintro e w' ⟨rfl, rfl⟩
  go_wp2_with fail
  refine Calls.mono HT0.out ?_
  rintro e w' ⟨rfl, rfl⟩
  go_wp2_with fail
  go_loopw [1, 13] (fun v i wr => ∃ cs : Array Value, wr.heap[w.heap.size]? = some (.cells cs 158 (0, 0)) ∧ cs.size = 65 ∧ Below w.heap.size w wr ∧ ((v = .int .u64 (u : Int) ∧ i = .int .i64 65) ∨ (16 ≤ u ∧ v = .int .u64 ((u : Int) / 16) ∧ i = .int .i64 64 ∧ cs[64]? = some (.int .u8 (digS.getD (u % 16) 0))))) (fun v _ _ => (intOf v).toNat)
  case atStart => exact ⟨_, hx0, hz65, hb0, .inl ⟨rfl, rfl⟩⟩
  case round =>
    obtain ⟨cs, hbk, hcs, hbr, ⟨rfl, rfl⟩ | ⟨h16, rfl, rfl, hc64⟩⟩ := hrel
    · obtain ⟨v64, hv64⟩ : ∃ v, cs[64]? = some v := ⟨cs[64], by simp [hcs]⟩
      have hc0 : wr.cell? ⟨w.heap.size, 64, none⟩ = some v64 := by rw [cell_of_row _ _ _ _ _ (0, 0) hbk]; exact hv64
      have hf0 := frozen_of_row wr w.heap.size 64 _ _ hbk
      by_cases h16 : 16 ≤ u
      · have d16 : decide (16 ≤ u) = true := by simpa using h16
        have hand : bits .and .u64 (u : Int) 15 = ((u % 16 : Nat) : Int) := by
          have h := and_u64' (x := u) (y := 15) (by omega) (by omega)
          rw [show ((15 : Nat) : Int) = 15 from rfl] at h
          rw [h, show (15 : Nat) = 2 ^ 4 - 1 from rfl, Nat.and_two_pow_sub_one_eq_mod]
        obtain ⟨m, hm⟩ : ∃ m, u % 16 = m := ⟨_, rfl⟩
        have hm16 : m < 16 := by omega
        have hm36 : m < 36 := by omega
        have hdg := dig_at m hm16
        obtain ⟨D, hD⟩ : ∃ D, digS.getD m 0 = D := ⟨_, rfl⟩
        have HD : Hid (digS.getD (u % 16) 0 = D) := Lib.hid (by rw [hm]; exact hD)
        rw [hD] at hdg
        rw [hm] at hand
        clear hm hD
        go_wp2_with fail
        go_roundw
        case rel =>
          refine ⟨_, heap_setCell_same wr w.heap.size 64 _ _ (.int .u8 D) hbk, by simp [hcs], hbr.setCell (p := ⟨w.heap.size, 64, none⟩) (Nat.le_refl _) _, .inr ⟨h16, rfl, rfl, ?_⟩⟩
          rw [HD.out]; simp [hcs]
        case measure => simp [intOf]; omega
      · have d16 : decide (16 ≤ u) = false := by simpa using h16
        have hu16 : u < 16 := by omega
        have hu36 : u < 36 := by omega
        have hdg := dig_at u hu16
        have hL : Hid (hexL u = [digS.getD u 0]) := Lib.hid (by unfold hexL; rw [if_pos hu16])
        obtain ⟨D, hD⟩ : ∃ D, digS.getD u 0 = D := ⟨_, rfl⟩
        rw [hD] at hdg hL
        obtain ⟨W1, hW1⟩ : ∃ W1, wr.setCell ⟨w.heap.size, 64, none⟩ (.int .u8 D) = W1 := ⟨_, rfl⟩
        have h1 : W1.heap[w.heap.size]? = some (.cells (cs.setIfInBounds 64 (.int .u8 D)) 158 (0, 0)) := by rw [← hW1]; exact heap_setCell_same wr w.heap.size 64 _ _ (.int .u8 D) hbk
        have hc1 : W1.cell? ⟨w.heap.size, 64, none⟩ = some (.int .u8 D) := by rw [cell_of_row _ _ _ _ _ (0, 0) h1]; simp [hcs]
        have hcv := run_convert_bytes_arg (P := Tryd.prog) W1 128 5 Tryd.underlying128 Tryd.underlying5 w.heap.size 64 1 1 [D] rfl (fun i hi => by
          have : i = 0 := by omega
          subst this; exact hc1) 9 Tryd.underlying9
        have HB : Hid (Below w.heap.size w W1) := Lib.hid (by rw [← hW1]; exact hbr.setCell (p := ⟨w.heap.size, 64, none⟩) (Nat.le_refl _) _)
        clear hD
        go_wp2_with fail
        go_ret2
        exact ⟨by rw [hL.out]; rfl, HB.out⟩
    · obtain ⟨v63, hv63⟩ : ∃ v, cs[63]? = some v := ⟨cs[63], by simp [hcs]⟩
      have hc0 : wr.cell? ⟨w.heap.size, 63, none⟩ = some v63 := by rw [cell_of_row _ _ _ _ _ (0, 0) hbk]; exact hv63
      have hf0 := frozen_of_row wr w.heap.size 63 _ _ hbk
      have hc64' : wr.cell? ⟨w.heap.size, 64, none⟩ = some (.int .u8 (digS.getD (u % 16) 0)) := by rw [cell_of_row _ _ _ _ _ (0, 0) hbk]; exact hc64
      obtain ⟨m, hm⟩ : ∃ m, u / 16 = m := ⟨_, rfl⟩
      have hmi : (u : Int) / 16 = (m : Int) := by omega
      have hu16 : m < 16 := by omega
      have hu36 : m < 36 := by omega
      have d16 : decide (16 ≤ m) = false := by simp; omega
      have hdg := dig_at m hu16
      have hL : Hid (hexL u = [digS.getD m 0, digS.getD (u % 16) 0]) := Lib.hid (by unfold hexL; rw [if_neg (by omega), hm])
      obtain ⟨D, hD⟩ : ∃ D, digS.getD m 0 = D := ⟨_, rfl⟩
      obtain ⟨E, hE⟩ : ∃ E, digS.getD (u % 16) 0 = E := ⟨_, rfl⟩
      rw [hD] at hdg hL
      rw [hE] at hc64' hL
      obtain ⟨W1, hW1⟩ : ∃ W1, wr.setCell ⟨w.heap.size, 63, none⟩ (.int .u8 D) = W1 := ⟨_, rfl⟩
      have h1 : W1.heap[w.heap.size]? = some (.cells (cs.setIfInBounds 63 (.int .u8 D)) 158 (0, 0)) := by rw [← hW1]; exact heap_setCell_same wr w.heap.size 63 _ _ (.int .u8 D) hbk
      have hc1 : W1.cell? ⟨w.heap.size, 63, none⟩ = some (.int .u8 D) := by rw [cell_of_row _ _ _ _ _ (0, 0) h1]; simp [hcs]
      have hc2 : W1.cell? ⟨w.heap.size, 64, none⟩ = some (.int .u8 E) := by
        rw [cell_of_row _ _ _ _ _ (0, 0) h1, Array.getElem?_setIfInBounds_ne (by decide), hc64, hE]
      have hcv := run_convert_bytes_arg (P := Tryd.prog) W1 128 5 Tryd.underlying128 Tryd.underlying5 w.heap.size 63 2 2 [D, E] rfl (fun i hi => by
        have : i = 0 ∨ i = 1 := by omega
        rcases this with rfl | rfl
        · exact hc1
        · exact hc2) 9 Tryd.underlying9
      have HB : Hid (Below w.heap.size w W1) := Lib.hid (by rw [← hW1]; exact hbr.setCell (p := ⟨w.heap.size, 63, none⟩) (Nat.le_refl _) _)
      rw [hmi]
      clear hD hE hm hmi hc64 hc64' h16
      go_wp2_with fail
      go_ret2
      exact ⟨by rw [hL.out]; rfl, HB.out⟩
set_option maxHeartbeats 1000000 in
theorem fmtIn_any (u : Nat) (hu : u < 256) (w : World) (hT : TzTab w) :
    Calls Tryd.prog 92 #[.int .u64 (u : Int), .int .i64 16] w fun e w' => e = .returned (.string (strOfNums (hexL u))) ∧ Below w.heap.size w w' := by
  have H := Lib.hid (fmtBits_any u hu w hT)
  go_enter Tryd.func92, Tryd.ntmps92
  go_wp2_with fail
  refine Calls.mono H.out ?_
  rintro e w' ⟨rfl, hb⟩
  go_wp2_with fail
  go_ret
  exact ⟨rfl, hb⟩
set_option maxHeartbeats 1000000 in
theorem fmt16_any (u : Nat) (hu : u < 256) (w : World) (hT : TzTab w) :
    Calls Tryd.prog 81 #[.int .u64 (u : Int), .int .i64 16] w fun e w' => e = .returned (.string (strOfNums (hexL u))) ∧ Below w.heap.size w w' := by
  have H := Lib.hid (fmtIn_any u hu w hT)
  go_enter Tryd.func81, Tryd.ntmps81
  go_wp2_with fail
  refine Calls.mono H.out ?_
  rintro e w' ⟨rfl, hb⟩
  go_wp2_with fail
  go_ret
  exact ⟨rfl, hb⟩
/-- A number below 100, in letters. -/
def decL (n : Nat) : List Int := if n < 10 then [48 + (n : Int)] else [48 + (n / 10 : Nat), 48 + (n % 10 : Nat)]
theorem dig10 : ∀ n : Nat, n < 10 → ({ data := #[48, 49, 50, 51, 52, 53, 54, 55, 56, 57, 97, 98, 99, 100, 101, 102, 103, 104, 105, 106, 107, 108, 109, 110, 111, 112, 113, 114, 115, 116, 117, 118, 119, 120, 121, 122] } : ByteArray).extract n (n + 1) = strOfNums (decL n) := by
  have h : ∀ n : Fin 10, (({ data := #[48, 49, 50, 51, 52, 53, 54, 55, 56, 57, 97, 98, 99, 100, 101, 102, 103, 104, 105, 106, 107, 108, 109, 110, 111, 112, 113, 114, 115, 116, 117, 118, 119, 120, 121, 122] } : ByteArray).extract n.val (n.val + 1)).data = (strOfNums (decL n.val)).data := by decide +kernel
  intro n hn
  exact ByteArray.ext (h ⟨n, hn⟩)
def smallB : ByteArray := { data := #[48, 48, 48, 49, 48, 50, 48, 51, 48, 52, 48, 53, 48, 54, 48, 55, 48, 56, 48, 57, 49, 48, 49, 49, 49, 50, 49, 51, 49, 52, 49, 53, 49, 54, 49, 55, 49, 56, 49, 57, 50, 48, 50, 49, 50, 50, 50, 51, 50, 52, 50, 53, 50, 54, 50, 55, 50, 56, 50, 57, 51, 48, 51, 49, 51, 50, 51, 51, 51, 52, 51, 53, 51, 54, 51, 55, 51, 56, 51, 57, 52, 48, 52, 49, 52, 50, 52, 51, 52, 52, 52, 53, 52, 54, 52, 55, 52, 56, 52, 57, 53, 48, 53, 49, 53, 50, 53, 51, 53, 52, 53, 53, 53, 54, 53, 55, 53, 56, 53, 57, 54, 48, 54, 49, 54, 50, 54, 51, 54, 52, 54, 53, 54, 54, 54, 55, 54, 56, 54, 57, 55, 48, 55, 49, 55, 50, 55, 51, 55, 52, 55, 53, 55, 54, 55, 55, 55, 56, 55, 57, 56, 48, 56, 49, 56, 50, 56, 51, 56, 52, 56, 53, 56, 54, 56, 55, 56, 56, 56, 57, 57, 48, 57, 49, 57, 50, 57, 51, 57, 52, 57, 53, 57, 54, 57, 55, 57, 56, 57, 57] }
set_option maxRecDepth 100000 in
theorem dig100 : ∀ n : Nat, 10 ≤ n → n < 100 → smallB.extract (n * 2) (n * 2 + 2) = strOfNums (decL n) := by
  have h : ∀ n : Fin 90, (smallB.extract ((n.val + 10) * 2) ((n.val + 10) * 2 + 2)).data = (strOfNums (decL (n.val + 10))).data := by decide +kernel
  intro n h1 hn
  have := h ⟨n - 10, by omega⟩
  dsimp only at this
  rw [show n - 10 + 10 = n by omega] at this
  exact ByteArray.ext this
set_option maxHeartbeats 4000000 in
set_option maxRecDepth 100000 in
theorem small_any (n : Nat) (hn : n < 100) (w : World) : Calls Tryd.prog 97 #[.int .i64 (n : Int)] w fun e w' => e = .returned (.string (strOfNums (decL n))) ∧ w' = w := by
  by_cases h10 : n < 10
  · have d10 : decide (n < 10) = true := by simpa using h10
    go_enter Tryd.func97, Tryd.ntmps97
    have hdg := dig10 n h10
    go_wp2_with fail
    go_ret
    exact ⟨by first | rfl | (rw [hdg]; rfl), rfl⟩
  · have d10 : decide (n < 10) = false := by simpa using h10
    go_enter Tryd.func97, Tryd.ntmps97
    have hdg := dig100 n (by omega) hn
    have HDG := Lib.hid hdg
    clear hdg
    go_wp2_with fail
    go_ret
    exact ⟨congrArg (fun s => Ending.returned (.string s)) HDG.out, rfl⟩
set_option maxHeartbeats 1000000 in
theorem fmtInt_any (n : Nat) (hn : n < 100) (w : World) : Calls Tryd.prog 101 #[.int .i64 (n : Int), .int .i64 10] w fun e w' => e = .returned (.string (strOfNums (decL n))) ∧ w' = w := by
  have H := Lib.hid (small_any n hn w)
  have d0 : decide (0 ≤ (n : Int)) = true := by simp
  have d1 : decide (n < 100) = true := by simpa using hn
  go_enter Tryd.func101, Tryd.ntmps101
  go_wp2_with fail
  refine Calls.mono H.out ?_
  rintro e w' ⟨rfl, rfl⟩
  go_wp2_with fail
  go_ret
  exact ⟨rfl, rfl⟩
set_option maxHeartbeats 1000000 in
theorem itoaIn_any (n : Nat) (hn : n < 100) (w : World) : Calls Tryd.prog 93 #[.int .i64 (n : Int)] w fun e w' => e = .returned (.string (strOfNums (decL n))) ∧ w' = w := by
  have H := Lib.hid (fmtInt_any n hn w)
  go_enter Tryd.func93, Tryd.ntmps93
  go_wp2_with fail
  refine Calls.mono H.out ?_
  rintro e w' ⟨rfl, rfl⟩
  go_wp2_with fail
  go_ret
  exact ⟨rfl, rfl⟩
set_option maxHeartbeats 1000000 in
theorem itoa_any (n : Nat) (hn : n < 100) (w : World) : Calls Tryd.prog 82 #[.int .i64 (n : Int)] w fun e w' => e = .returned (.string (strOfNums (decL n))) ∧ w' = w := by
  have H := Lib.hid (itoaIn_any n hn w)
  go_enter Tryd.func82, Tryd.ntmps82
  go_wp2_with fail
  refine Calls.mono H.out ?_
  rintro e w' ⟨rfl, rfl⟩
  go_wp2_with fail
  go_ret
  exact ⟨rfl, rfl⟩
end Go.Proofs.YtamhjgkigjpbhaaDoor
