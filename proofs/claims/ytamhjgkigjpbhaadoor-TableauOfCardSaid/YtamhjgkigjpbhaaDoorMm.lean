/- Texts of one kind, in one file. -/
import Derived.Test.YtamhjgkigjpbhaaDoorCv5
import Derived.Shelf.Spec.TrailingZeros
import Derived.Lib.ItoaMem
import Derived.Test.YtamhjgkigjpbhaaDoorMe
import Derived.Shelf.Strings.Builder1
import Derived.Shelf.RegionOpen
import Derived.Test.YtamhjgkigjpbhaaDoorMh

/- (XTbF) The walk of strconv.FormatUint at base 16, for numbers below 256 (layer 29). -/
namespace Go.Proofs.YtamhjgkigjpbhaaDoor
open Go.RowKit Go.Shelf

/-- The world that the table is in. -/
abbrev TzTab (w : World) : Prop := TabAt 2 Lib.deBruijn64tab w
theorem tz_lt {w : World} (hT : TzTab w) : 2 < w.heap.size := by
  have h := hT 0 (by decide)
  rcases Nat.lt_or_ge 2 w.heap.size with h1 | h1
  · exact h1
  · unfold World.cell? at h
    dsimp only at h
    rw [Array.getElem?_eq_none h1] at h
    cases h
theorem tz_below {w w' : World} (hT : TzTab w) (hb : Below w.heap.size w w') : TzTab w' := fun j hj => (hb.cell (p := ⟨2, j, none⟩) (tz_lt hT)).trans (hT j hj)
set_option maxHeartbeats 1000000 in
theorem tz16_any (w : World) (hT : TzTab w) : Calls Tryd.prog 108 #[.int .u64 16] w fun e w' => e = .returned (.int .i64 4) ∧ w' = w := by
  have hcell : w.cell? ⟨2, 15, none⟩ = some (.int .u8 4) := hT 15 (by decide)
  have key : IntKind.u64.wrap (bits BinOp.and IntKind.u64 16 (IntKind.u64.wrap (-16)) * 285870213051353865) / 288230376151711744 = 15 := by decide
  go_enter Tryd.func108, Tryd.ntmps108
  go_wp2_with (simp only [key])
  go_ret
  exact ⟨rfl, rfl⟩
set_option maxHeartbeats 1000000 in
theorem tzu16_any (w : World) (hT : TzTab w) : Calls Tryd.prog 106 #[.int .u64 16] w fun e w' => e = .returned (.int .i64 4) ∧ w' = w := by
  have H := Lib.hid (tz16_any w hT)
  go_enter Tryd.func106, Tryd.ntmps106
  go_wp2_with fail
  refine Calls.mono H.out ?_
  rintro e w' ⟨rfl, rfl⟩
  go_wp2_with fail
  go_ret
  exact ⟨rfl, rfl⟩

/-- The letter of a digit. -/
def digS : List Int := [48, 49, 50, 51, 52, 53, 54, 55, 56, 57, 97, 98, 99, 100, 101, 102]
def hexL (u : Nat) : List Int := if u < 16 then [digS.getD u 0] else [digS.getD (u / 16) 0, digS.getD (u % 16) 0]
theorem dig_at : ∀ m : Nat, (h : m < 16) → ((({ data := #[48, 49, 50, 51, 52, 53, 54, 55, 56, 57, 97, 98, 99, 100, 101, 102, 103, 104, 105, 106, 107, 108, 109, 110, 111, 112, 113, 114, 115, 116, 117, 118, 119, 120, 121, 122] } : ByteArray)[m]'(Nat.lt_trans h (by decide))).toNat : Int) = digS.getD m 0 := by
  have h : ∀ m : Fin 16, ((({ data := #[48, 49, 50, 51, 52, 53, 54, 55, 56, 57, 97, 98, 99, 100, 101, 102, 103, 104, 105, 106, 107, 108, 109, 110, 111, 112, 113, 114, 115, 116, 117, 118, 119, 120, 121, 122] } : ByteArray)[m.val]'(Nat.lt_trans m.isLt (by decide))).toNat : Int) = digS.getD m.val 0 := by decide +kernel
  exact fun m hm => h ⟨m, hm⟩
theorem dig_rng : ∀ m : Nat, m < 16 → 0 ≤ digS.getD m 0 ∧ digS.getD m 0 ≤ 255 := by
  have h : ∀ m : Fin 16, 0 ≤ digS.getD m.val 0 ∧ digS.getD m.val 0 ≤ 255 := by decide
  exact fun m hm => h ⟨m, hm⟩
set_option maxHeartbeats 1000000 in
theorem pow16_any (w : World) : Calls Tryd.prog 105 #[.int .i64 16] w fun e w' => e = .returned (.bool true) ∧ w' = w := by
  have hand : bits .and .i64 16 15 = 0 := by decide
  go_enter Tryd.func105, Tryd.ntmps105
  go_wp2_with fail
  go_ret
  exact ⟨rfl, rfl⟩
set_option maxHeartbeats 4000000 in
set_option maxRecDepth 100000 in
theorem fmtBits_any (u : Nat) (hu : u < 256) (w : World) (hT : TzTab w) :
    Calls Tryd.prog 100 #[.slice none 0 0, .int .u64 (u : Int), .int .i64 16, .bool false, .bool false] w fun e w' => e = .returned (.tuple #[.slice none 0 0, .string (strOfNums (hexL u))]) ∧ Below w.heap.size w w' := by
  have hb0 : Below w.heap.size w (w.alloc (.cells Tryd.zeroCells158 158)) := (Below.refl _ _).alloc (Nat.le_refl _) _
  have hx0 := heap_alloc_new w (.cells Tryd.zeroCells158 158)
  have hz65 : Tryd.zeroCells158.size = 65 := by kernel_rfl
  obtain ⟨W0, hW0⟩ : ∃ W0, w.alloc (.cells Tryd.zeroCells158 158) = W0 := ⟨_, rfl⟩
  rw [hW0] at hb0 hx0
  have HW0 := Lib.hid hW0
  have hT0 : TzTab W0 := by
    rw [← hW0]; exact tz_below hT ((Below.refl _ _).alloc (Nat.le_refl _) _)
  have HT0 := Lib.hid (tzu16_any W0 hT0)
  clear hW0
  go_enter Tryd.func100, Tryd.ntmps100
  go_wp2_with fail
  rw [HW0.out]
  refine Calls.mono (pow16_any W0) ?_
  rintro e w' ⟨rfl, rfl⟩
  go_wp2_with fail
  refine Calls.mono HT0.out ?_
  rintro e w' ⟨rfl, rfl⟩
  go_wp2_with fail
  go_loopw [1, 13] (fun v i wr => ∃ cs : Array Value, wr.heap[w.heap.size]? = some (.cells cs 158 (0, 0)) ∧ cs.size = 65 ∧ Below w.heap.size w wr ∧ ((v = .int .u64 (u : Int) ∧ i = .int .i64 65) ∨ (16 ≤ u ∧ v = .int .u64 ((u : Int) / 16) ∧ i = .int .i64 64 ∧ cs[64]? = some (.int .u8 (digS.getD (u % 16) 0))))) (fun v _ _ => (intOf v).toNat)
  case atStart => exact ⟨_, hx0, hz65, hb0, .inl ⟨rfl, rfl⟩⟩
  case round =>
    obtain ⟨cs, hbk, hcs, hbr, ⟨rfl, rfl⟩ | ⟨h16, rfl, rfl, hc64⟩⟩ := hrel
    · obtain ⟨v64, hv64⟩ : ∃ v, cs[64]? = some v := ⟨cs[64], by simp [hcs]⟩
      have hc0 : wr.cell? ⟨w.heap.size, 64, none⟩ = some v64 := by rw [cell_of_row _ _ _ _ _ (0, 0) hbk]; exact hv64
      have hf0 := frozen_of_row wr w.heap.size 64 _ _ hbk
      by_cases h16 : 16 ≤ u
      · have d16 : decide (16 ≤ u) = true := by simpa using h16
        have hand : bits .and .u64 (u : Int) 15 = ((u % 16 : Nat) : Int) := by
          have h := and_u64' (x := u) (y := 15) (by omega) (by omega)
          rw [show ((15 : Nat) : Int) = 15 from rfl] at h
          rw [h, show (15 : Nat) = 2 ^ 4 - 1 from rfl, Nat.and_two_pow_sub_one_eq_mod]
        obtain ⟨m, hm⟩ : ∃ m, u % 16 = m := ⟨_, rfl⟩
        have hm16 : m < 16 := by omega
        have hm36 : m < 36 := by omega
        have hdg := dig_at m hm16
        obtain ⟨D, hD⟩ : ∃ D, digS.getD m 0 = D := ⟨_, rfl⟩
        have HD : Hid (digS.getD (u % 16) 0 = D) := Lib.hid (by rw [hm]; exact hD)
        rw [hD] at hdg
        rw [hm] at hand
        clear hm hD
        go_wp2_with fail
        go_roundw
        case rel =>
          refine ⟨_, heap_setCell_same wr w.heap.size 64 _ _ (.int .u8 D) hbk, by simp [hcs], hbr.setCell (p := ⟨w.heap.size, 64, none⟩) (Nat.le_refl _) _, .inr ⟨h16, rfl, rfl, ?_⟩⟩
          rw [HD.out]; simp [hcs]
        case measure => simp [intOf]; omega
      · have d16 : decide (16 ≤ u) = false := by simpa using h16
        have hu16 : u < 16 := by omega
        have hu36 : u < 36 := by omega
        have hdg := dig_at u hu16
        have hL : Hid (hexL u = [digS.getD u 0]) := Lib.hid (by unfold hexL; rw [if_pos hu16])
        obtain ⟨D, hD⟩ : ∃ D, digS.getD u 0 = D := ⟨_, rfl⟩
        rw [hD] at hdg hL
        obtain ⟨W1, hW1⟩ : ∃ W1, wr.setCell ⟨w.heap.size, 64, none⟩ (.int .u8 D) = W1 := ⟨_, rfl⟩
        have h1 : W1.heap[w.heap.size]? = some (.cells (cs.setIfInBounds 64 (.int .u8 D)) 158 (0, 0)) := by rw [← hW1]; exact heap_setCell_same wr w.heap.size 64 _ _ (.int .u8 D) hbk
        have hc1 : W1.cell? ⟨w.heap.size, 64, none⟩ = some (.int .u8 D) := by rw [cell_of_row _ _ _ _ _ (0, 0) h1]; simp [hcs]
        have hcv := run_convert_bytes_arg (P := Tryd.prog) W1 128 5 Tryd.underlying128 Tryd.underlying5 w.heap.size 64 1 1 [D] rfl (fun i hi => by
          have : i = 0 := by omega
          subst this; exact hc1) 9 Tryd.underlying9
        have HB : Hid (Below w.heap.size w W1) := Lib.hid (by rw [← hW1]; exact hbr.setCell (p := ⟨w.heap.size, 64, none⟩) (Nat.le_refl _) _)
        clear hD
        go_wp2_with fail
        go_ret2
        exact ⟨by rw [hL.out]; rfl, HB.out⟩
    · obtain ⟨v63, hv63⟩ : ∃ v, cs[63]? = some v := ⟨cs[63], by simp [hcs]⟩
      have hc0 : wr.cell? ⟨w.heap.size, 63, none⟩ = some v63 := by rw [cell_of_row _ _ _ _ _ (0, 0) hbk]; exact hv63
      have hf0 := frozen_of_row wr w.heap.size 63 _ _ hbk
      have hc64' : wr.cell? ⟨w.heap.size, 64, none⟩ = some (.int .u8 (digS.getD (u % 16) 0)) := by rw [cell_of_row _ _ _ _ _ (0, 0) hbk]; exact hc64
      obtain ⟨m, hm⟩ : ∃ m, u / 16 = m := ⟨_, rfl⟩
      have hmi : (u : Int) / 16 = (m : Int) := by omega
      have hu16 : m < 16 := by omega
      have hu36 : m < 36 := by omega
      have d16 : decide (16 ≤ m) = false := by simp; omega
      have hdg := dig_at m hu16
      have hL : Hid (hexL u = [digS.getD m 0, digS.getD (u % 16) 0]) := Lib.hid (by unfold hexL; rw [if_neg (by omega), hm])
      obtain ⟨D, hD⟩ : ∃ D, digS.getD m 0 = D := ⟨_, rfl⟩
      obtain ⟨E, hE⟩ : ∃ E, digS.getD (u % 16) 0 = E := ⟨_, rfl⟩
      rw [hD] at hdg hL
      rw [hE] at hc64' hL
      obtain ⟨W1, hW1⟩ : ∃ W1, wr.setCell ⟨w.heap.size, 63, none⟩ (.int .u8 D) = W1 := ⟨_, rfl⟩
      have h1 : W1.heap[w.heap.size]? = some (.cells (cs.setIfInBounds 63 (.int .u8 D)) 158 (0, 0)) := by rw [← hW1]; exact heap_setCell_same wr w.heap.size 63 _ _ (.int .u8 D) hbk
      have hc1 : W1.cell? ⟨w.heap.size, 63, none⟩ = some (.int .u8 D) := by rw [cell_of_row _ _ _ _ _ (0, 0) h1]; simp [hcs]
      have hc2 : W1.cell? ⟨w.heap.size, 64, none⟩ = some (.int .u8 E) := by
        rw [cell_of_row _ _ _ _ _ (0, 0) h1, Array.getElem?_setIfInBounds_ne (by decide), hc64, hE]
      have hcv := run_convert_bytes_arg (P := Tryd.prog) W1 128 5 Tryd.underlying128 Tryd.underlying5 w.heap.size 63 2 2 [D, E] rfl (fun i hi => by
        have : i = 0 ∨ i = 1 := by omega
        rcases this with rfl | rfl
        · exact hc1
        · exact hc2) 9 Tryd.underlying9
      have HB : Hid (Below w.heap.size w W1) := Lib.hid (by rw [← hW1]; exact hbr.setCell (p := ⟨w.heap.size, 63, none⟩) (Nat.le_refl _) _)
      rw [hmi]
      clear hD hE hm hmi hc64 hc64' h16
      go_wp2_with fail
      go_ret2
      exact ⟨by rw [hL.out]; rfl, HB.out⟩
set_option maxHeartbeats 1000000 in
theorem fmtIn_any (u : Nat) (hu : u < 256) (w : World) (hT : TzTab w) :
    Calls Tryd.prog 92 #[.int .u64 (u : Int), .int .i64 16] w fun e w' => e = .returned (.string (strOfNums (hexL u))) ∧ Below w.heap.size w w' := by
  have H := Lib.hid (fmtBits_any u hu w hT)
  go_enter Tryd.func92, Tryd.ntmps92
  go_wp2_with fail
  refine Calls.mono H.out ?_
  rintro e w' ⟨rfl, hb⟩
  go_wp2_with fail
  go_ret
  exact ⟨rfl, hb⟩
set_option maxHeartbeats 1000000 in
theorem fmt16_any (u : Nat) (hu : u < 256) (w : World) (hT : TzTab w) :
    Calls Tryd.prog 81 #[.int .u64 (u : Int), .int .i64 16] w fun e w' => e = .returned (.string (strOfNums (hexL u))) ∧ Below w.heap.size w w' := by
  have H := Lib.hid (fmtIn_any u hu w hT)
  go_enter Tryd.func81, Tryd.ntmps81
  go_wp2_with fail
  refine Calls.mono H.out ?_
  rintro e w' ⟨rfl, hb⟩
  go_wp2_with fail
  go_ret
  exact ⟨rfl, hb⟩
/-- A number below 100, in letters. -/
def decL (n : Nat) : List Int := if n < 10 then [48 + (n : Int)] else [48 + (n / 10 : Nat), 48 + (n % 10 : Nat)]
theorem dig10 : ∀ n : Nat, n < 10 → ({ data := #[48, 49, 50, 51, 52, 53, 54, 55, 56, 57, 97, 98, 99, 100, 101, 102, 103, 104, 105, 106, 107, 108, 109, 110, 111, 112, 113, 114, 115, 116, 117, 118, 119, 120, 121, 122] } : ByteArray).extract n (n + 1) = strOfNums (decL n) := by
  have h : ∀ n : Fin 10, (({ data := #[48, 49, 50, 51, 52, 53, 54, 55, 56, 57, 97, 98, 99, 100, 101, 102, 103, 104, 105, 106, 107, 108, 109, 110, 111, 112, 113, 114, 115, 116, 117, 118, 119, 120, 121, 122] } : ByteArray).extract n.val (n.val + 1)).data = (strOfNums (decL n.val)).data := by decide +kernel
  intro n hn
  exact ByteArray.ext (h ⟨n, hn⟩)
def smallB : ByteArray := { data := #[48, 48, 48, 49, 48, 50, 48, 51, 48, 52, 48, 53, 48, 54, 48, 55, 48, 56, 48, 57, 49, 48, 49, 49, 49, 50, 49, 51, 49, 52, 49, 53, 49, 54, 49, 55, 49, 56, 49, 57, 50, 48, 50, 49, 50, 50, 50, 51, 50, 52, 50, 53, 50, 54, 50, 55, 50, 56, 50, 57, 51, 48, 51, 49, 51, 50, 51, 51, 51, 52, 51, 53, 51, 54, 51, 55, 51, 56, 51, 57, 52, 48, 52, 49, 52, 50, 52, 51, 52, 52, 52, 53, 52, 54, 52, 55, 52, 56, 52, 57, 53, 48, 53, 49, 53, 50, 53, 51, 53, 52, 53, 53, 53, 54, 53, 55, 53, 56, 53, 57, 54, 48, 54, 49, 54, 50, 54, 51, 54, 52, 54, 53, 54, 54, 54, 55, 54, 56, 54, 57, 55, 48, 55, 49, 55, 50, 55, 51, 55, 52, 55, 53, 55, 54, 55, 55, 55, 56, 55, 57, 56, 48, 56, 49, 56, 50, 56, 51, 56, 52, 56, 53, 56, 54, 56, 55, 56, 56, 56, 57, 57, 48, 57, 49, 57, 50, 57, 51, 57, 52, 57, 53, 57, 54, 57, 55, 57, 56, 57, 57] }
set_option maxRecDepth 100000 in
theorem dig100 : ∀ n : Nat, 10 ≤ n → n < 100 → smallB.extract (n * 2) (n * 2 + 2) = strOfNums (decL n) := by
  have h : ∀ n : Fin 90, (smallB.extract ((n.val + 10) * 2) ((n.val + 10) * 2 + 2)).data = (strOfNums (decL (n.val + 10))).data := by decide +kernel
  intro n h1 hn
  have := h ⟨n - 10, by omega⟩
  dsimp only at this
  rw [show n - 10 + 10 = n by omega] at this
  exact ByteArray.ext this
set_option maxHeartbeats 4000000 in
set_option maxRecDepth 100000 in
theorem small_any (n : Nat) (hn : n < 100) (w : World) : Calls Tryd.prog 97 #[.int .i64 (n : Int)] w fun e w' => e = .returned (.string (strOfNums (decL n))) ∧ w' = w := by
  by_cases h10 : n < 10
  · have d10 : decide (n < 10) = true := by simpa using h10
    go_enter Tryd.func97, Tryd.ntmps97
    have hdg := dig10 n h10
    go_wp2_with fail
    go_ret
    exact ⟨by first | rfl | (rw [hdg]; rfl), rfl⟩
  · have d10 : decide (n < 10) = false := by simpa using h10
    go_enter Tryd.func97, Tryd.ntmps97
    have hdg := dig100 n (by omega) hn
    have HDG := Lib.hid hdg
    clear hdg
    go_wp2_with fail
    go_ret
    exact ⟨congrArg (fun s => Ending.returned (.string s)) HDG.out, rfl⟩
set_option maxHeartbeats 1000000 in
theorem fmtInt_any (n : Nat) (hn : n < 100) (w : World) : Calls Tryd.prog 101 #[.int .i64 (n : Int), .int .i64 10] w fun e w' => e = .returned (.string (strOfNums (decL n))) ∧ w' = w := by
  have H := Lib.hid (small_any n hn w)
  have d0 : decide (0 ≤ (n : Int)) = true := by simp
  have d1 : decide (n < 100) = true := by simpa using hn
  go_enter Tryd.func101, Tryd.ntmps101
  go_wp2_with fail
  refine Calls.mono H.out ?_
  rintro e w' ⟨rfl, rfl⟩
  go_wp2_with fail
  go_ret
  exact ⟨rfl, rfl⟩
set_option maxHeartbeats 1000000 in
theorem itoaIn_any (n : Nat) (hn : n < 100) (w : World) : Calls Tryd.prog 93 #[.int .i64 (n : Int)] w fun e w' => e = .returned (.string (strOfNums (decL n))) ∧ w' = w := by
  have H := Lib.hid (fmtInt_any n hn w)
  go_enter Tryd.func93, Tryd.ntmps93
  go_wp2_with fail
  refine Calls.mono H.out ?_
  rintro e w' ⟨rfl, rfl⟩
  go_wp2_with fail
  go_ret
  exact ⟨rfl, rfl⟩
set_option maxHeartbeats 1000000 in
theorem itoa_any (n : Nat) (hn : n < 100) (w : World) : Calls Tryd.prog 82 #[.int .i64 (n : Int)] w fun e w' => e = .returned (.string (strOfNums (decL n))) ∧ w' = w := by
  have H := Lib.hid (itoaIn_any n hn w)
  go_enter Tryd.func82, Tryd.ntmps82
  go_wp2_with fail
  refine Calls.mono H.out ?_
  rintro e w' ⟨rfl, rfl⟩
  go_wp2_with fail
  go_ret
  exact ⟨rfl, rfl⟩
end Go.Proofs.YtamhjgkigjpbhaaDoor

/- (XTbB) strings.Builder's methods (layer 29): a new builder that is written to, and told. -/
namespace Go.Proofs.YtamhjgkigjpbhaaDoor
open Go.RowKit Go.Shelf

set_option maxHeartbeats 2000000 in
set_option maxRecDepth 100000 in
theorem bCheck_fresh (b : Nat) (w : World) (h0 : w.cell? ⟨b, 0, none⟩ = some (.pointer none)) (hsh : w.shape? b = some (131, 2)) (hfz : w.frozen? ⟨b, 0, none⟩ = false) :
    Calls Tryd.prog 91 #[.pointer (some ⟨b, 0, none⟩)] w fun e w' => e = .returned (.tuple #[]) ∧ w' = w.setCell ⟨b, 0, none⟩ (.pointer (some ⟨b, 0, none⟩)) := by
  go_enter Tryd.func91, Tryd.ntmps91
  obtain ⟨j, hj, hjs⟩ := Option.map_eq_some_iff.1 (show (Tryd.prog.info? 131).map (·.size) = some 2 by kernel_rfl)
  go_wp2
  rw [Lib.run_to_unsafe w ⟨b, 0, none⟩ Tryd.underlying129 Tryd.underlying147 hj (by rw [hjs]; decide) hsh (Nat.zero_lt_succ 1)]
  simp only [Result.andThen]
  rw [Oper.upon_value]
  go_wp2
  rw [run_callFunc_extern Tryd.func96 (by kernel_rfl) (by kernel_rfl) (by kernel_rfl) (e := Extern.AbiNoEscape.same) (by kernel_rfl)]
  rw [Lib.run_noEscape]
  simp only [Result.andThen]
  rw [Oper.upon_value]
  go_wp2
  rw [Lib.run_from_unsafe w ⟨b, 0, none⟩ Tryd.underlying147 Tryd.underlying129 hj hsh (by kernel_rfl)]
  simp only [Result.andThen]
  rw [Oper.upon_value]
  go_wp2
  go_end0
  exact ⟨rfl, rfl⟩
/-- A builder: its block b, its bytes bs in a row of its own. -/
abbrev Bld (B b : Nat) (bs : List Value) (w : World) : Prop := Lib.IsBuilder 131 5 B b bs w
set_option maxHeartbeats 2000000 in
set_option maxRecDepth 100000 in
theorem bCheck_used (b : Nat) (w : World) (h0 : w.cell? ⟨b, 0, none⟩ = some (.pointer (some ⟨b, 0, none⟩))) :
    Calls Tryd.prog 91 #[.pointer (some ⟨b, 0, none⟩)] w fun e w' => e = .returned (.tuple #[]) ∧ w' = w := by
  go_enter Tryd.func91, Tryd.ntmps91
  obtain ⟨j, hj, _⟩ := Option.map_eq_some_iff.1 (show (Tryd.prog.info? 131).map (·.size) = some 2 by kernel_rfl)
  go_wp2
  rw [Lib.run_neq_ptr_same w _ Tryd.underlying129 hj]
  go_wp2
  go_end0
  exact ⟨rfl, rfl⟩
theorem bCheck_any (B b : Nat) (bs : List Value) (w : World) (h : Bld B b bs w) :
    Calls Tryd.prog 91 #[.pointer (some ⟨b, 0, none⟩)] w fun e w' => e = .returned (.tuple #[]) ∧ (Lib.BuilderAt 131 5 B b (.pointer (some ⟨b, 0, none⟩)) bs w' ∧ Below B w w') := by
  rcases h with h | h
  · refine (bCheck_fresh b w h.cell0 h.shape h.frozen0).mono ?_
    rintro e w' ⟨rfl, rfl⟩
    exact ⟨rfl, h.used _, (Below.refl B w).setCell (p := ⟨b, 0, none⟩) h.1 _⟩
  · refine (bCheck_used b w h.cell0).mono ?_
    rintro e w' ⟨rfl, rfl⟩
    exact ⟨rfl, h, Below.refl B _⟩
theorem infoByte : ∃ i, Tryd.prog.info? 5 = some i ∧ i.zero = some (.int .u8 0) ∧ i.size = 1 ∧ i.bytes = 1 := by
  obtain ⟨i, h1, h2⟩ := Option.map_eq_some_iff.1 (show (Tryd.prog.info? 5).map (fun i => (i.zero, i.size, i.bytes)) = some (some (.int .u8 0), 1, 1) by kernel_rfl)
  simp only [Prod.mk.injEq] at h2
  exact ⟨i, h1, h2.1, h2.2.1, h2.2.2⟩
set_option maxHeartbeats 2000000 in
set_option maxRecDepth 100000 in
theorem bWriteS_any (B b : Nat) (bs : List Value) (s : ByteArray) (w : World) (h : Bld B b bs w) (hlen : bs.length + s.size ≤ 140737488355328) (hBw : B ≤ w.heap.size) :
    Calls Tryd.prog 80 #[.pointer (some ⟨b, 0, none⟩), .string s] w fun e w' => e = .returned (.tuple #[.int .i64 s.size, .nilIface]) ∧ (Lib.BuilderAt 131 5 B b (.pointer (some ⟨b, 0, none⟩)) (bs ++ Lib.strCells s) w' ∧ Below B w w') := by
  obtain ⟨i0, hi, hz0, hz1, hz2⟩ := infoByte
  have HC := Lib.hid (bCheck_any B b bs w h)
  go_enter Tryd.func80, Tryd.ntmps80
  go_wp2_with fail
  refine Calls.mono HC.out ?_
  rintro e w1 ⟨rfl, h1, hb1⟩
  obtain ⟨hB, v, hbk, hown, hne⟩ := h1
  have c0 : w1.cell? ⟨b, 0, none⟩ = some (.pointer (some ⟨b, 0, none⟩)) := by rw [Lib.cell_of_heap hbk]; rfl
  have c1 : w1.cell? ⟨b, 1, none⟩ = some v := by rw [Lib.cell_of_heap hbk]; rfl
  go_wp2_with (at_builtin; refine Lib.wpList_append_own_string _ rfl _ _ 128 9 rfl B 5 i0 Tryd.underlying128 Tryd.underlying9 hi hz0 hz1 hz2 _ _ _ rfl hown s rfl ?c3 ?c4 ?c5 ?_)
  case c3 => unfold maxLen; omega
  case c4 => omega
  case c5 => have := hb1.size; omega
  intro v' w2 hown' hgrow _
  have hlt : b < w1.heap.size := heap_lt hbk
  have hb2 : w2.heap[b]? = some (.cells #[.pointer (some ⟨b, 0, none⟩), v] 131 (0, 0)) := by
    rw [hgrow.block b hlt (fun e => hne e.symm)]
    exact hbk
  have d0 : w2.cell? ⟨b, 0, none⟩ = some (.pointer (some ⟨b, 0, none⟩)) := by rw [Lib.cell_of_heap hb2]; rfl
  have d1 : w2.cell? ⟨b, 1, none⟩ = some v := by rw [Lib.cell_of_heap hb2]; rfl
  have f1 : w2.frozen? ⟨b, 1, none⟩ = false := Lib.frozen_of_heap hb2 1
  obtain ⟨ao, n', cap, rfl⟩ : ∃ ao n' cap, v' = .slice ao n' cap := by
    rcases hown'.2 with ⟨hv, _⟩ | ⟨g, cap, cur, hv, _⟩
    · exact ⟨_, _, _, hv⟩
    · exact ⟨_, _, _, hv⟩
  go_wp2
  go_ret2
  refine ⟨rfl, ?_, ?_⟩
  · exact Lib.BuilderAt.put (T := 131) (e := 5) hB hb2 (bs' := bs ++ Lib.strCells s) (by simpa [Lib.strCells_length] using hown') (by decide)
  · exact (hb1.grown hgrow (by have := hb1.size; omega) (fun k hk => (hown.lt k hk).1)).setCell (p := ⟨b, 1, none⟩) hB _
set_option maxHeartbeats 2000000 in
set_option maxRecDepth 100000 in
theorem bWriteB_any (B b : Nat) (bs : List Value) (c : Int) (w : World) (h : Bld B b bs w) (hlen : bs.length + 1 ≤ 140737488355328) (hBw : B ≤ w.heap.size) :
    Calls Tryd.prog 83 #[.pointer (some ⟨b, 0, none⟩), .int .u8 c] w fun e w' => e = .returned .nilIface ∧ (Lib.BuilderAt 131 5 B b (.pointer (some ⟨b, 0, none⟩)) (bs ++ [.int .u8 c]) w' ∧ Below B w w') := by
  obtain ⟨i0, hi, hz0, hz1, hz2⟩ := infoByte
  have HC := Lib.hid (bCheck_any B b bs w h)
  go_enter Tryd.func83, Tryd.ntmps83
  go_wp2_with fail
  refine Calls.mono HC.out ?_
  rintro e w1 ⟨rfl, h1, hb1⟩
  obtain ⟨hB, v, hbk, hown, hne⟩ := h1
  have c0 : w1.cell? ⟨b, 0, none⟩ = some (.pointer (some ⟨b, 0, none⟩)) := by rw [Lib.cell_of_heap hbk]; rfl
  have c1 : w1.cell? ⟨b, 1, none⟩ = some v := by rw [Lib.cell_of_heap hbk]; rfl
  go_wp2_with (at_builtin; refine wpList_append_own _ rfl _ _ 128 rfl B 5 i0 (.int .u8 0) 1 1 Tryd.underlying128 hi hz0 hz1 hz2 rfl (by decide) _ _ _ rfl (hown.alloc _) ⟨w1.heap.size, 0, none⟩ 1 1 [.int .u8 c] rfl rfl ?c1 ?c2 ?c3 ?c4 ?c5 ?_)
  case c1 =>
    intro j u hj
    match j, hj with
    | 0, hj => simp at hj; subst hj; simp [Addr.add]
  case c2 => intro u hu; simp at hu; subst hu; rfl
  case c3 => unfold maxLen; omega
  case c4 => omega
  case c5 => have := hb1.size; simp; omega
  intro v' w2 hown' hgrow _
  have hlt : b < w1.heap.size := heap_lt hbk
  have hb2 : w2.heap[b]? = some (.cells #[.pointer (some ⟨b, 0, none⟩), v] 131 (0, 0)) := by
    rw [hgrow.block b (by simp; omega) (fun e => hne e.symm), Lib.alloc_old w1 _ b hlt]
    exact hbk
  have d0 : w2.cell? ⟨b, 0, none⟩ = some (.pointer (some ⟨b, 0, none⟩)) := by rw [Lib.cell_of_heap hb2]; rfl
  have d1 : w2.cell? ⟨b, 1, none⟩ = some v := by rw [Lib.cell_of_heap hb2]; rfl
  have f1 : w2.frozen? ⟨b, 1, none⟩ = false := Lib.frozen_of_heap hb2 1
  obtain ⟨g, cap, rfl⟩ : ∃ g cap, v' = .slice (some ⟨g, 0, none⟩) (bs.length + 1) cap := by
    rcases hown'.2 with ⟨_, h0⟩ | ⟨g, cap, cur, hv, _⟩
    · omega
    · exact ⟨g, cap, hv⟩
  go_wp2
  go_ret
  refine ⟨rfl, ?_, ?_⟩
  · exact Lib.BuilderAt.put (T := 131) (e := 5) hB hb2 (bs' := bs ++ [.int .u8 c]) (by simpa using hown') (by decide)
  · exact ((hb1.alloc (by have := hb1.size; omega) _).grown hgrow (by have := hb1.size; simp; omega) (fun k hk => (hown.lt k hk).1)).setCell (p := ⟨b, 1, none⟩) hB _
set_option maxHeartbeats 4000000 in
set_option maxRecDepth 100000 in
theorem bString_any (B b : Nat) (l : List UInt8) (w : World) (h : Bld B b (Lib.byteCells l) w) (h0 : l ≠ []) :
    Calls Tryd.prog 84 #[.pointer (some ⟨b, 0, none⟩)] w fun e w' => e = .returned (.string ⟨l.toArray⟩) ∧ Below B w w' := by
  obtain ⟨p, hB, v, hbk, hown, hne⟩ : ∃ p, Lib.BuilderAt 131 5 B b p (Lib.byteCells l) w := by
    rcases h with h | h
    · exact ⟨_, h⟩
    · exact ⟨_, h⟩
  have hl0 : l.length ≠ 0 := by simpa using h0
  rw [Lib.byteCells_length] at hown
  obtain ⟨g, cap, cur, rfl, hbg, hg, hnc, hcm, hcs, htake⟩ : ∃ g cap cur, v = .slice (some ⟨g, 0, none⟩) l.length cap ∧ B ≤ g ∧ w.heap[g]? = some (.cells cur 5 (0, 0)) ∧ l.length ≤ cap ∧ cap ≤ maxLen ∧ cur.size = cap * 1 ∧ cur.toList.take (l.length * 1) = Lib.byteCells l := by
    rcases hown.2 with ⟨_, hz⟩ | ⟨g, cap, cur, hv, r⟩
    · exact absurd hz hl0
    · exact ⟨g, cap, cur, hv, r⟩
  have c1 : w.drew.cell? ⟨b, 1, none⟩ = some (.slice (some ⟨g, 0, none⟩) l.length cap) := by
    have : w.drew.heap[b]? = some (.cells #[p, .slice (some ⟨g, 0, none⟩) l.length cap] 131 (0, 0)) := hbk
    rw [Lib.cell_of_heap this]; rfl
  have hSD : (Builtin.unsafeSliceData_ #[128] 144 #[.slice (some ⟨g, 0, none⟩) l.length cap]).run Tryd.prog w.drew = .ok (.pointer (some ⟨g, 0, none⟩)) w.drew :=
    Lib.run_unsafeSliceData_row _ _ _ _ _ _ (by omega)
  have hUS : (Builtin.unsafeString_ #[144, 3] 9 #[.pointer (some ⟨g, 0, none⟩), .int .i64 l.length]).run Tryd.prog w.drew = .ok (.string ⟨l.toArray⟩) (w.drew.freeze ⟨g, 0, none⟩ l.length) := by
    refine Lib.run_unsafeString_row w.drew 144 3 9 5 Tryd.underlying144 (by kernel_rfl) g cur.size (by have hg' : w.drew.heap[g]? = some (.cells cur 5 (0, 0)) := hg; simp [World.shape?, hg']) l h0 (by omega) (by unfold maxLen at hcm; omega) ?_
    intro j x hx
    have := hown.cells (g := g) rfl j (.int .u8 x.toNat) (by simp [Lib.byteCells, hx])
    exact this
  go_enter Tryd.func84, Tryd.ntmps84
  have c0 : w.cell? ⟨b, 1, none⟩ = some (.slice (some ⟨g, 0, none⟩) l.length cap) := by rw [Lib.cell_of_heap hbk]; rfl
  go_wp2
  have cfr : (w.drew.freeze ⟨g, 0, none⟩ l.length).cell? ⟨b, 1, none⟩ = some (.slice (some ⟨g, 0, none⟩) l.length cap) := by
    have hb : (w.drew.freeze ⟨g, 0, none⟩ l.length).heap[b]? = w.drew.heap[b]? := by
      unfold World.freeze
      rw [if_neg hl0]
      simp only [Array.getElem?_modify]
      rw [if_neg (fun e => hne (by rw [← e]; rfl))]
    rw [cell_of_blk hb]; exact c1
  refine wp_region_held_drew (S := fun w' => w'.cell? ⟨b, 1, none⟩ = some (.slice (some ⟨g, 0, none⟩) l.length cap)) (by kernel_rfl) c0 (fun hS => ?_)
  refine wpAnyH_takeD (i := 0) (v := ?_) rfl (by kernel_rfl) (by kernel_rfl) (by kernel_rfl) (fun _ _ _ h => h) (Or.inl ⟨by kernel_rfl, ?_⟩) hS ?_
  rotate_left 1
  · (intro w' hSw; (try dsimp only at hSw); go_simp; try (with_reducible rfl))
  try simp only [Act.put, List.setIfInBounds_toArray, List.set_cons_zero, List.set_cons_succ]
  refine wpAnyH_takeD (i := 1) (v := ?_) rfl (by kernel_rfl) (by kernel_rfl) (by kernel_rfl) (fun _ _ _ h => h) (Or.inl ⟨by kernel_rfl, ?_⟩) hS ?_
  rotate_left 1
  · (intro w' hSw; (try dsimp only at hSw); go_simp; try (with_reducible rfl))
  try simp only [Act.put, List.setIfInBounds_toArray, List.set_cons_zero, List.set_cons_succ]
  refine wpAnyH_takeD (i := 2) (v := ?_) rfl (by kernel_rfl) (by kernel_rfl) (by kernel_rfl) (fun _ _ _ h => h) (Or.inl ⟨by kernel_rfl, ?_⟩) hS ?_
  rotate_left 1
  · (intro w' hSw; (try dsimp only at hSw); go_simp; try (with_reducible rfl))
  try simp only [Act.put, List.setIfInBounds_toArray, List.set_cons_zero, List.set_cons_succ]
  refine wpAnyH_takeD (i := 3) (v := ?_) rfl (by kernel_rfl) (by kernel_rfl) (by kernel_rfl) (fun _ _ _ h => h) (Or.inl ⟨by kernel_rfl, ?_⟩) hS ?_
  rotate_left 1
  · (intro w' hSw; (try dsimp only at hSw); go_simp; try (with_reducible rfl))
  try simp only [Act.put, List.setIfInBounds_toArray, List.set_cons_zero, List.set_cons_succ]
  refine wpAnyH_takeD (i := 5) (v := ?_) rfl (by kernel_rfl) (by kernel_rfl) (by kernel_rfl) (fun _ _ _ h => h) (Or.inl ⟨by kernel_rfl, ?_⟩) hS ?_
  rotate_left 1
  · (intro w' hSw; (try dsimp only at hSw); go_simp; try (with_reducible rfl))
  try simp only [Act.put, List.setIfInBounds_toArray, List.set_cons_zero, List.set_cons_succ]
  refine wpAnyH_takeD (i := 6) (v := ?_) rfl (by kernel_rfl) (by kernel_rfl) (by kernel_rfl) (fun _ _ _ h => h) (Or.inl ⟨by kernel_rfl, ?_⟩) hS ?_
  rotate_left 1
  · (intro w' hSw; (try dsimp only at hSw); go_simp; try (with_reducible rfl))
  try simp only [Act.put, List.setIfInBounds_toArray, List.set_cons_zero, List.set_cons_succ]
  refine wpAnyH_takeD (i := 7) (v := ?_) rfl (by kernel_rfl) (by kernel_rfl) (by kernel_rfl) (fun _ _ _ h => h) (Or.inl ⟨by kernel_rfl, ?_⟩) hS ?_
  rotate_left 1
  · (intro w' hSw; (try dsimp only at hSw); go_simp; try (with_reducible rfl))
  try simp only [Act.put, List.setIfInBounds_toArray, List.set_cons_zero, List.set_cons_succ]
  refine wpAnyH_takeD (i := 8) (v := ?_) rfl (by kernel_rfl) (by kernel_rfl) (by kernel_rfl) (fun _ _ _ h => h) (Or.inl ⟨by kernel_rfl, ?_⟩) hS ?_
  rotate_left 1
  · (intro w' hSw; (try dsimp only at hSw); go_simp; try (with_reducible rfl))
  try simp only [Act.put, List.setIfInBounds_toArray, List.set_cons_zero, List.set_cons_succ]
  refine wpAnyH_takeD (i := 9) (v := ?_) rfl (by kernel_rfl) (by kernel_rfl) (by kernel_rfl) (fun _ _ _ h => h) (Or.inl ⟨by kernel_rfl, ?_⟩) hS ?_
  rotate_left 1
  · (intro w' hSw; (try dsimp only at hSw); go_simp; try (with_reducible rfl))
  try simp only [Act.put, List.setIfInBounds_toArray, List.set_cons_zero, List.set_cons_succ]
  refine wpAnyH_oneD (i := 4) rfl (by kernel_rfl) (fun K hK => ?_)
  go_simp
  refine hK.out _ _ c1 (fun hS => ?_)
  clear hK
  try simp only [Act.put, List.setIfInBounds_toArray, List.set_cons_zero, List.set_cons_succ]
  refine wpAnyH_oneD (i := 10) rfl (by kernel_rfl) (fun K hK => ?_)
  go_simp
  refine hK.out _ _ cfr (fun hS => ?_)
  clear hK
  try simp only [Act.put, List.setIfInBounds_toArray, List.set_cons_zero, List.set_cons_succ]
  refine wpAnyH_takeD (i := 11) (v := ?_) rfl (by kernel_rfl) (by kernel_rfl) (by kernel_rfl) (fun _ _ _ h => h) (Or.inl ⟨by kernel_rfl, ?_⟩) hS ?_
  rotate_left 1
  · (intro w' hSw; (try dsimp only at hSw); go_simp; try (with_reducible rfl))
  try simp only [Act.put, List.setIfInBounds_toArray, List.set_cons_zero, List.set_cons_succ]
  refine wpAnyH_done (by kernel_rfl) ?_ _
  go_wp2
  go_ret
  exact ⟨rfl, Lib.below_freeze (Below.drew (Below.refl B w)) (p := ⟨g, 0, none⟩) hbg _⟩
end Go.Proofs.YtamhjgkigjpbhaaDoor

/- (XTbN) What a cover says as a text tells it (layer 29); plain. -/
namespace Go.Proofs.YtamhjgkigjpbhaaDoor

theorem sep_inj {s : Int} : ∀ {a b x y : List Int}, s ∉ a → s ∉ b → a ++ s :: x = b ++ s :: y → a = b ∧ x = y
  | [], [], x, y, _, _, h => by simpa using h
  | [], c :: b, x, y, _, hb, h => by
    simp only [List.nil_append, List.cons_append, List.cons.injEq] at h
    exact absurd (List.mem_cons.2 (.inl h.1)) hb
  | c :: a, [], x, y, ha, _, h => by
    simp only [List.nil_append, List.cons_append, List.cons.injEq] at h
    exact absurd (List.mem_cons.2 (.inl h.1.symm)) ha
  | c :: a, d :: b, x, y, ha, hb, h => by
    simp only [List.cons_append, List.cons.injEq] at h
    obtain ⟨h1, h2⟩ := sep_inj (a := a) (b := b) (fun h => ha (List.mem_cons_of_mem _ h)) (fun h => hb (List.mem_cons_of_mem _ h)) h.2
    exact ⟨by rw [h.1, h1], h2⟩
theorem dig_inj : ∀ m n : Nat, m < 16 → n < 16 → digS.getD m 0 = digS.getD n 0 → m = n := by
  have h : ∀ m n : Fin 16, digS.getD m.val 0 = digS.getD n.val 0 → m = n := by decide +kernel
  intro m n hm hn e
  have := h ⟨m, hm⟩ ⟨n, hn⟩ e
  exact congrArg Fin.val this
theorem dig_big : ∀ m : Nat, m < 16 → 48 ≤ digS.getD m 0 ∧ digS.getD m 0 ≠ 59 ∧ digS.getD m 0 ≤ 102 := by
  have h : ∀ m : Fin 16, 48 ≤ digS.getD m.val 0 ∧ digS.getD m.val 0 ≠ 59 ∧ digS.getD m.val 0 ≤ 102 := by decide +kernel
  exact fun m hm => h ⟨m, hm⟩
theorem hex_inj {u v : Nat} (hu : u < 256) (hv : v < 256) (h : hexL u = hexL v) : u = v := by
  unfold hexL at h
  split at h <;> split at h
  · rename_i h1 h2
    injection h with h
    exact dig_inj u v h1 h2 h
  · injection h with _ h; cases h
  · injection h with _ h; cases h
  · injection h with h1 h2
    injection h2 with h2
    have e1 := dig_inj _ _ (by omega) (by omega) h1
    have e2 := dig_inj _ _ (by omega) (by omega) h2
    omega
theorem hex_no {u : Nat} (hu : u < 256) : (32 : Int) ∉ hexL u ∧ (59 : Int) ∉ hexL u ∧ ∀ x ∈ hexL u, 0 ≤ x ∧ x ≤ 255 := by
  have hall : ∀ x ∈ hexL u, 48 ≤ x ∧ x ≠ 59 ∧ x ≤ 102 := by
    intro x hx
    unfold hexL at hx
    split at hx
    · rw [List.mem_singleton] at hx; subst hx; exact dig_big u (by omega)
    · simp only [List.mem_cons, List.not_mem_nil, or_false] at hx
      rcases hx with rfl | rfl
      · exact dig_big _ (by omega)
      · exact dig_big _ (by omega)
  exact ⟨fun h => by have := (hall _ h).1; omega, fun h => (hall _ h).2.1 rfl, fun x hx => by have := hall x hx; omega⟩
theorem dec_inj {u v : Nat} (_hu : u < 100) (_hv : v < 100) (h : decL u = decL v) : u = v := by
  unfold decL at h
  split at h <;> split at h
  · injection h with h; omega
  · injection h with _ h; cases h
  · injection h with _ h; cases h
  · injection h with h1 h2
    injection h2 with h2
    omega
theorem dec_no {u : Nat} (hu : u < 100) : (32 : Int) ∉ decL u ∧ (59 : Int) ∉ decL u ∧ ∀ x ∈ decL u, 0 ≤ x ∧ x ≤ 255 := by
  have hall : ∀ x ∈ decL u, 48 ≤ x ∧ x ≤ 57 := by
    intro x hx
    unfold decL at hx
    split at hx
    · rw [List.mem_singleton] at hx; subst hx; omega
    · simp only [List.mem_cons, List.not_mem_nil, or_false] at hx
      rcases hx with rfl | rfl <;> omega
  exact ⟨fun h => by have := (hall _ h).1; omega, fun h => by have := (hall _ h).2; omega, fun x hx => by have := hall x hx; omega⟩
/-- Numbers, each with a blank behind it. -/
def numsS (l : List Nat) : List Int := l.flatMap (fun n => decL n ++ [32])
theorem nums_inj : ∀ {l m : List Nat}, (∀ x ∈ l, x < 100) → (∀ x ∈ m, x < 100) → numsS l = numsS m → l = m
  | [], [], _, _, _ => rfl
  | [], y :: m, _, _, h => by
    have := congrArg List.length h
    simp [numsS, List.flatMap_cons] at this
  | x :: l, [], _, _, h => by
    have := congrArg List.length h
    simp [numsS, List.flatMap_cons] at this
  | x :: l, y :: m, hl, hm, h => by
    simp only [numsS, List.flatMap_cons, List.append_assoc, List.cons_append, List.nil_append] at h
    obtain ⟨h1, h2⟩ := sep_inj (dec_no (hl x (by simp))).1 (dec_no (hm y (by simp))).1 h
    rw [dec_inj (hl x (by simp)) (hm y (by simp)) h1, nums_inj (fun z hz => hl z (by simp [hz])) (fun z hz => hm z (by simp [hz])) h2]
theorem nums_no {l : List Nat} (h : ∀ x ∈ l, x < 100) : (59 : Int) ∉ numsS l ∧ ∀ x ∈ numsS l, 0 ≤ x ∧ x ≤ 255 := by
  constructor
  · intro h9
    obtain ⟨n, hn, hx⟩ := List.mem_flatMap.1 h9
    rcases List.mem_append.1 hx with hx | hx
    · exact (dec_no (h n hn)).2.1 hx
    · simp at hx
  · intro x hx
    obtain ⟨n, hn, hx⟩ := List.mem_flatMap.1 hx
    rcases List.mem_append.1 hx with hx | hx
    · exact (dec_no (h n hn)).2.2 x hx
    · simp at hx; omega
/-- What a cover says. -/
def saidS (c : Cov) : List Int := hexL c.1 ++ 32 :: (hexL c.2.1 ++ 59 :: (numsS (onL c.2.2.1) ++ 59 :: numsS (onL c.2.2.2)))
structure CovTxt (c : Cov) : Prop where
  need : c.1 < 256
  ban : c.2.1 < 256
  next : ∀ x ∈ onL c.2.2.1, x < 100
  now : ∀ x ∈ onL c.2.2.2, x < 100
theorem said_parts {c d : Cov} (hc : CovTxt c) (hd : CovTxt d) (h : saidS c = saidS d) : c.1 = d.1 ∧ c.2.1 = d.2.1 ∧ onL c.2.2.1 = onL d.2.2.1 ∧ onL c.2.2.2 = onL d.2.2.2 := by
  obtain ⟨h1, h⟩ := sep_inj (hex_no hc.need).1 (hex_no hd.need).1 h
  obtain ⟨h2, h⟩ := sep_inj (hex_no hc.ban).2.1 (hex_no hd.ban).2.1 h
  obtain ⟨h3, h⟩ := sep_inj (nums_no hc.next).1 (nums_no hd.next).1 h
  exact ⟨hex_inj hc.need hd.need h1, hex_inj hc.ban hd.ban h2, nums_inj hc.next hd.next h3, nums_inj hc.now hd.now h⟩
end Go.Proofs.YtamhjgkigjpbhaaDoor

/- (XTbS) The walk of tableau.said (layer 29). -/
namespace Go.Proofs.YtamhjgkigjpbhaaDoor
open Go.RowKit Go.Shelf

def bytesI (l : List Int) : List UInt8 := l.map (fun n => UInt8.ofNat n.toNat)
theorem strOf_bytes (l : List Int) : strOfNums l = ⟨(bytesI l).toArray⟩ := rfl
theorem strOf_append (l m : List Int) : strOfNums l ++ strOfNums m = strOfNums (l ++ m) := by
  apply ByteArray.ext
  rw [ByteArray.data_append]
  simp [strOf_bytes, bytesI]
theorem hex_size (u : Nat) : (strOfNums (hexL u)).size ≤ 2 := by
  rw [strOfNums_size]; unfold hexL; split <;> simp
/-- A builder that has been written to: its letters. -/
def BldS (B b : Nat) (l : List Int) (w : World) : Prop := Bld B b (Lib.byteCells (bytesI l)) w
theorem bld_put {B b : Nat} {l m : List Int} {w : World} (h : Lib.BuilderAt 131 5 B b (.pointer (some ⟨b, 0, none⟩)) (Lib.byteCells (bytesI l) ++ Lib.strCells (strOfNums m)) w) : BldS B b (l ++ m) w := by
  refine .inr ?_
  have e : Lib.byteCells (bytesI (l ++ m)) = Lib.byteCells (bytesI l) ++ Lib.strCells (strOfNums m) := by
    rw [Lib.strCells_eq, strOf_bytes]; simp [bytesI, Lib.byteCells]
  rw [e]; exact h
theorem bld_write {B b : Nat} {l m : List Int} {w : World} (h : BldS B b l w) (hBw : B ≤ w.heap.size) (hlen : l.length + m.length ≤ 1000000) :
    Calls Tryd.prog 80 #[.pointer (some ⟨b, 0, none⟩), .string (strOfNums m)] w fun e w' => (∃ n : Int, e = .returned (.tuple #[.int .i64 n, .nilIface])) ∧ BldS B b (l ++ m) w' ∧ Below B w w' := by
  refine (bWriteS_any B b _ (strOfNums m) w h (by rw [Lib.byteCells_length, bytesI, List.length_map, strOfNums_size]; omega) hBw).mono ?_
  rintro e w' ⟨rfl, h1, h2⟩
  exact ⟨⟨_, rfl⟩, bld_put h1, h2⟩
theorem bld_byte {B b : Nat} {l : List Int} {w : World} (h : BldS B b l w) (hBw : B ≤ w.heap.size) (hlen : l.length ≤ 1000000) :
    Calls Tryd.prog 83 #[.pointer (some ⟨b, 0, none⟩), .int .u8 59] w fun e w' => e = .returned .nilIface ∧ BldS B b (l ++ [59]) w' ∧ Below B w w' := by
  refine (bWriteB_any B b _ 59 w h (by rw [Lib.byteCells_length, bytesI, List.length_map]; omega) hBw).mono ?_
  rintro e w' ⟨rfl, h1, h2⟩
  exact ⟨rfl, bld_put (m := [59]) h1, h2⟩
theorem bld_string {B b : Nat} {l : List Int} {w : World} (h : BldS B b l w) (h0 : l ≠ []) :
    Calls Tryd.prog 84 #[.pointer (some ⟨b, 0, none⟩)] w fun e w' => e = .returned (.string (strOfNums l)) ∧ Below B w w' :=
  bString_any B b (bytesI l) w h (by simpa [bytesI] using h0)
theorem nums_len : ∀ l : List Nat, (numsS l).length ≤ 3 * l.length
  | [] => by simp [numsS]
  | x :: l => by
    have h := nums_len l
    have h2 : (decL x).length ≤ 2 := by unfold decL; split <;> simp
    simp only [numsS, List.flatMap_cons, List.length_append, List.length_cons, List.length_nil] at h ⊢
    omega
theorem nums_snoc (l : List Nat) (k : Nat) (hk : k < l.length) : numsS (l.take (k + 1)) = numsS (l.take k) ++ (decL l[k] ++ [32]) := by
  unfold numsS
  rw [take_snoc l k hk, List.flatMap_append]
  simp only [List.flatMap_cons, List.flatMap_nil, List.append_nil]
set_option maxHeartbeats 4000000 in
set_option maxRecDepth 100000 in
theorem said_any (need ban : Nat) (hn : need < 256) (hb : ban < 256) (E1 : Option Addr) (e1 : Nat) (E2 : Option Addr) (e2 : Nat) (l1 l2 : List Nat) (w : World) (hT : TzTab w) (h1 : Sl w w.heap.size 1 E1 l1.length e1 (icells (natI l1))) (h2 : Sl w w.heap.size 1 E2 l2.length e2 (icells (natI l2)))
    (hl1 : ∀ x ∈ l1, x < 100) (hl2 : ∀ x ∈ l2, x < 100) (hk1 : l1.length ≤ 1000) (hk2 : l2.length ≤ 1000) :
    Calls Tryd.prog 58 #[.agg #[.int .u64 (need : Int), .int .u64 (ban : Int), .slice E1 l1.length e1, .slice E2 l2.length e2]] w fun e w' => e = .returned (.string (strOfNums (hexL need ++ 32 :: (hexL ban ++ 59 :: (numsS l1 ++ 59 :: numsS l2))))) ∧ Below w.heap.size w w' := by
  obtain ⟨hb0, p0, q0, z0⟩ := box5 w (.cells #[.int .u64 (need : Int), .int .u64 (ban : Int), .slice E1 l1.length e1, .slice E2 l2.length e2] 57) (.cells #[.pointer none, .slice none 0 0] 131)
  obtain ⟨W0, hW0⟩ : ∃ W0, (w.alloc (.cells #[.int .u64 (need : Int), .int .u64 (ban : Int), .slice E1 l1.length e1, .slice E2 l2.length e2] 57)).alloc (.cells #[.pointer none, .slice none 0 0] 131) = W0 := ⟨_, rfl⟩
  rw [hW0] at hb0 p0 q0 z0
  have HW0 := Lib.hid hW0
  have hT0 : TzTab W0 := tz_below hT hb0
  have K3 : Hid (W0.cell? ⟨w.heap.size, 3, none⟩ = some (.slice E2 l2.length e2)) := Lib.hid (by rw [cell_of_row _ _ _ _ _ _ p0]; rfl)
  have k0 : W0.cell? ⟨w.heap.size, 0, none⟩ = some (.int .u64 (need : Int)) := by rw [cell_of_row _ _ _ _ _ _ p0]; rfl
  have k1 : W0.cell? ⟨w.heap.size, 1, none⟩ = some (.int .u64 (ban : Int)) := by rw [cell_of_row _ _ _ _ _ _ p0]; rfl
  have k2 : W0.cell? ⟨w.heap.size, 2, none⟩ = some (.slice E1 l1.length e1) := by rw [cell_of_row _ _ _ _ _ _ p0]; rfl
  have k3 : W0.cell? ⟨w.heap.size, 3, none⟩ = some (.slice E2 l2.length e2) := by rw [cell_of_row _ _ _ _ _ _ p0]; rfl
  have hgl : w.heap.size < W0.heap.size := by omega
  have hbd : Below W0.heap.size W0 W0.drew := Below.drew (Below.refl _ _)
  obtain ⟨wd, hwd⟩ : ∃ wd, W0.drew = wd := ⟨_, rfl⟩
  rw [hwd] at hbd
  have HWD := Lib.hid hwd
  have hTd : TzTab wd := tz_below hT0 hbd
  have HF1 := Lib.hid (fun (w' : World) (h : TzTab w') => fmt16_any need hn w' h)
  have HF2 := Lib.hid (fun (w' : World) (h : TzTab w') => fmt16_any ban hb w' h)
  have sA := hex_size need
  have sB := hex_size ban
  obtain ⟨SA, hSA⟩ : ∃ SA, strOfNums (hexL need) = SA := ⟨_, rfl⟩
  obtain ⟨SB, hSB⟩ : ∃ SB, strOfNums (hexL ban) = SB := ⟨_, rfl⟩
  rw [hSA] at HF1 sA
  rw [hSB] at HF2 sB
  have HSAB : Hid (SA ++ ({ data := #[32] } : ByteArray) ++ SB ++ { data := #[59] } = strOfNums (hexL need ++ 32 :: (hexL ban ++ [59]))) := Lib.hid (by
    rw [← hSA, ← hSB, show ({ data := #[32] } : ByteArray) = strOfNums [32] from rfl, show ({ data := #[59] } : ByteArray) = strOfNums [59] from rfl, strOf_append, strOf_append, strOf_append]
    simp)
  have hs1 : ¬ 9223372036854775807 < SA.size + 1 := by omega
  have hs2 : ¬ 9223372036854775807 < SA.size + 1 + SB.size := by omega
  have hs2' : ¬ 9223372036854775807 < (SA ++ ({ data := #[32] } : ByteArray)).size + SB.size := by rw [ByteArray.size_append]; show ¬ 9223372036854775807 < SA.size + 1 + SB.size; omega
  have hs3 : ¬ 9223372036854775807 < SA.size + 1 + SB.size + 1 := by omega
  have hs3' : ¬ 9223372036854775807 < (SA ++ ({ data := #[32] } : ByteArray) ++ SB).size + 1 := by rw [ByteArray.size_append, ByteArray.size_append]; show ¬ 9223372036854775807 < SA.size + 1 + SB.size + 1; omega
  clear hW0 hwd
  go_enter Tryd.func58, Tryd.ntmps58
  go_wp2_with fail
  rw [HW0.out]
  have hbl0 : BldS (w.heap.size + 1) (w.heap.size + 1) [] W0 := .inl ⟨Nat.le_refl _, _, q0, World.ownsRow_nil _ _ _ _, by simp [Value.ownBlock]⟩
  have hB0 : w.heap.size + 1 ≤ W0.heap.size := by omega
  have hpl : (hexL need ++ 32 :: (hexL ban ++ [59])).length ≤ 6 := by
    have h1 : (hexL need).length ≤ 2 := by unfold hexL; split <;> simp
    have h2 : (hexL ban).length ≤ 2 := by unfold hexL; split <;> simp
    simp only [List.length_append, List.length_cons, List.length_nil]; omega
  refine wp_region_held_drew (S := fun w' => w'.cell? ⟨w.heap.size, 0, none⟩ = some (.int .u64 (need : Int)) ∧ w'.cell? ⟨w.heap.size, 1, none⟩ = some (.int .u64 (ban : Int))) (by kernel_rfl) ⟨k0, k1⟩ (fun hS => ?_)
  refine wpAnyH_takeD (i := 0) (v := ?_) rfl (by kernel_rfl) (by kernel_rfl) (by kernel_rfl) (fun _ _ _ h => h) (Or.inl ⟨by kernel_rfl, ?_⟩) hS ?_
  rotate_left 1
  · (intro w' hSw; (try dsimp only at hSw); go_simp; try (with_reducible rfl))
  try simp only [Act.put, List.setIfInBounds_toArray, List.set_cons_zero, List.set_cons_succ]
  refine wpAnyH_takeD (i := 1) (v := ?_) rfl (by kernel_rfl) (by kernel_rfl) (by kernel_rfl) (fun _ _ _ h => h) (Or.inl ⟨by kernel_rfl, ?_⟩) hS ?_
  rotate_left 1
  · (intro w' hSw; (try dsimp only at hSw); go_simp; try (with_reducible rfl))
  try simp only [Act.put, List.setIfInBounds_toArray, List.set_cons_zero, List.set_cons_succ]
  refine wpAnyH_takeD (i := 4) (v := ?_) rfl (by kernel_rfl) (by kernel_rfl) (by kernel_rfl) (fun _ _ _ h => h) (Or.inl ⟨by kernel_rfl, ?_⟩) hS ?_
  rotate_left 1
  · (intro w' hSw; (try dsimp only at hSw); go_simp; try (with_reducible rfl))
  try simp only [Act.put, List.setIfInBounds_toArray, List.set_cons_zero, List.set_cons_succ]
  refine wpAnyH_takeD (i := 5) (v := ?_) rfl (by kernel_rfl) (by kernel_rfl) (by kernel_rfl) (fun _ _ _ h => h) (Or.inl ⟨by kernel_rfl, ?_⟩) hS ?_
  rotate_left 1
  · (intro w' hSw; (try dsimp only at hSw); go_simp; try (with_reducible rfl))
  try simp only [Act.put, List.setIfInBounds_toArray, List.set_cons_zero, List.set_cons_succ]
  refine wpAnyH_oneD (i := 2) rfl (by kernel_rfl) (fun K hK => ?_)
  go_simp
  rw [HWD.out]
  refine Calls.mono (HF1.out wd hTd) ?_
  rintro e w1 ⟨rfl, hb1'⟩
  have hb1 : Below W0.heap.size W0 w1 := hbd.trans (hb1'.mono hbd.size)
  clear hb1'
  dsimp only
  refine hK.out _ _ ⟨(hb1.cell (p := ⟨w.heap.size, 0, none⟩) hgl).trans k0, (hb1.cell (p := ⟨w.heap.size, 1, none⟩) hgl).trans k1⟩ (fun hS => ?_)
  clear hK
  try simp only [Act.put, List.setIfInBounds_toArray, List.set_cons_zero, List.set_cons_succ]
  refine wpAnyH_takeD (i := 3) (v := ?_) rfl (by kernel_rfl) (by kernel_rfl) (by kernel_rfl) (fun _ _ _ h => h) (Or.inl ⟨by kernel_rfl, ?_⟩) hS ?_
  rotate_left 1
  · (intro w' hSw; (try dsimp only at hSw); go_simp; try (with_reducible rfl))
  try simp only [Act.put, List.setIfInBounds_toArray, List.set_cons_zero, List.set_cons_succ]
  refine wpAnyH_oneD (i := 6) rfl (by kernel_rfl) (fun K hK => ?_)
  go_simp
  refine Calls.mono (HF2.out w1 (tz_below hT0 hb1)) ?_
  rintro e w2 ⟨rfl, hb2'⟩
  have hb2 : Below W0.heap.size W0 w2 := hb1.trans (hb2'.mono hb1.size)
  clear hb2'
  dsimp only
  refine hK.out _ _ ⟨(hb2.cell (p := ⟨w.heap.size, 0, none⟩) hgl).trans k0, (hb2.cell (p := ⟨w.heap.size, 1, none⟩) hgl).trans k1⟩ (fun hS => ?_)
  clear hK
  try simp only [Act.put, List.setIfInBounds_toArray, List.set_cons_zero, List.set_cons_succ]
  refine wpAnyH_takeD (i := 7) (v := ?_) rfl (by kernel_rfl) (by kernel_rfl) (by kernel_rfl) (fun _ _ _ h => h) (Or.inl ⟨by kernel_rfl, ?_⟩) hS ?_
  rotate_left 1
  · (intro w' hSw; (try dsimp only at hSw); go_simp; try (with_reducible rfl))
  try simp only [Act.put, List.setIfInBounds_toArray, List.set_cons_zero, List.set_cons_succ]
  refine wpAnyH_takeD (i := 8) (v := ?_) rfl (by kernel_rfl) (by kernel_rfl) (by kernel_rfl) (fun _ _ _ h => h) (Or.inl ⟨by kernel_rfl, ?_⟩) hS ?_
  rotate_left 1
  · (intro w' hSw; (try dsimp only at hSw); go_simp; try (with_reducible rfl))
  try simp only [Act.put, List.setIfInBounds_toArray, List.set_cons_zero, List.set_cons_succ]
  refine wpAnyH_oneD (i := 9) rfl (by kernel_rfl) (fun K hK => ?_)
  go_simp
  rw [HSAB.out]
  refine Calls.mono (bld_write (l := []) (.inl ⟨Nat.le_refl _, _, (hb2.block _ (heap_lt q0)).trans q0, World.ownsRow_nil _ _ _ _, by simp [Value.ownBlock]⟩) (Nat.le_trans hB0 hb2.size) (by simp only [List.length_nil]; omega)) ?_
  rintro e w3 ⟨⟨n3, rfl⟩, hbl3, hb3'⟩
  have hb3 : Below (w.heap.size + 1) W0 w3 := (hb2.mono hB0).trans hb3'
  clear hb3'
  dsimp only
  refine hK.out _ _ ⟨(hb3.cell (p := ⟨w.heap.size, 0, none⟩) (show w.heap.size < w.heap.size + 1 by omega)).trans k0, (hb3.cell (p := ⟨w.heap.size, 1, none⟩) (show w.heap.size < w.heap.size + 1 by omega)).trans k1⟩ (fun hS => ?_)
  clear hK
  try simp only [Act.put, List.setIfInBounds_toArray, List.set_cons_zero, List.set_cons_succ]
  refine wpAnyH_done (by kernel_rfl) ?_ _
  clear hs1 hs2 hs2' hs3 hs3' HF1 HF2
  have hbw3 : Below w.heap.size w w3 := hb0.trans ((hb3.mono (by omega)))
  have HPRE := Lib.hid hpl
  obtain ⟨PRE, hPRE⟩ : ∃ PRE, hexL need ++ 32 :: (hexL ban ++ [59]) = PRE := ⟨_, rfl⟩
  rw [hPRE] at HPRE
  have HPREE := Lib.hid hPRE
  rw [List.nil_append, hPRE] at hbl3
  have k2' := (hb3.cell (p := ⟨w.heap.size, 2, none⟩) (show w.heap.size < w.heap.size + 1 by omega)).trans k2
  have k3' := (hb3.cell (p := ⟨w.heap.size, 3, none⟩) (show w.heap.size < w.heap.size + 1 by omega)).trans k3
  have hblz := hbl3
  have hbz := hb3
  have HLEN1 := HPRE
  clear k0 k1 k2 k3 hPRE hbl3 hb3 hbw3 hpl
  go_wp2_with fail
  have HL1 := Lib.hid hl1
  have hsz1 : BldS (w.heap.size + 1) (w.heap.size + 1) (PRE ++ numsS (l1.take 0)) w3 := by simpa [numsS] using hblz
  clear hblz
  go_loopw [21] (fun i wr => ∃ k : Nat, k ≤ l1.length ∧ i = .int .i64 k ∧ BldS (w.heap.size + 1) (w.heap.size + 1) (PRE ++ numsS (l1.take k)) wr ∧ Below (w.heap.size + 1) W0 wr) (fun i _ => l1.length - (intOf i).toNat)
  case atStart => exact ⟨0, by omega, rfl, hsz1, hbz⟩
  case round =>
    clear hsz1 hbz
    obtain ⟨k, hk, rfl, hbl, hbr⟩ := hrel
    by_cases hlt : k < l1.length
    · have hbw : Below w.heap.size w wr := hb0.trans (hbr.mono (by omega))
      obtain ⟨b, o, rfl, _, hc⟩ := (h1.below hbw (Nat.le_refl _)).rd.at_ (j := k) (u := .int .i64 (l1[k] : Int)) (by simp [icells, natI, hlt])
      have hx : l1[k] < 100 := HL1.out _ (List.getElem_mem hlt)
      have hsn := nums_snoc l1 k hlt
      have hnl := nums_len (l1.take k)
      have hdl : (decL l1[k]).length ≤ 2 := by unfold decL; split <;> simp
      generalize l1[k] = x at *
      have hsd : ¬ 9223372036854775807 < (strOfNums (decL x)).size + 1 := by rw [strOfNums_size]; omega
      have HDB : Hid (strOfNums (decL x) ++ ({ data := #[32] } : ByteArray) = strOfNums (decL x ++ [32])) := Lib.hid (by rw [show ({ data := #[32] } : ByteArray) = strOfNums [32] from rfl, strOf_append])
      have HSN := Lib.hid hsn
      have h0 : (0 : Int) ≤ (k : Int) := by omega
      have h1' : (k : Int) < (l1.length : Int) := by omega
      have wi : IntKind.i64.wrap ((k : Int) + 1) = k + 1 := by rw [IntKind.wrap_i64]; omega
      have hlen : (PRE ++ numsS (l1.take k)).length + (decL x ++ [32]).length ≤ 1000000 := by
        have hP := HLEN1.out
        rw [List.length_take] at hnl
        simp only [List.length_append, List.length_cons, List.length_nil] at hP ⊢
        omega
      have HI := Lib.hid (itoa_any x hx)
      clear hsn hnl hdl hx
      go_wp2_with fail
      refine Calls.mono (HI.out wr) ?_
      rintro e w' ⟨rfl, rfl⟩
      go_wp2_with fail
      rw [HDB.out]
      refine Calls.mono (bld_write hbl (Nat.le_trans hB0 hbr.size) hlen) ?_
      rintro e w2' ⟨⟨n2, rfl⟩, hbl', hb'⟩
      go_wp2
      go_roundw
      case rel => exact ⟨k + 1, by omega, by go_num, by rw [HSN.out, ← List.append_assoc]; exact hbl', hbr.trans (hb'.mono (Nat.le_refl _))⟩
      case measure => simp [intOf]; omega
    · have hkn : k = l1.length := by omega
      subst hkn
      rw [List.take_length] at hbl
      have hk3w := (hbr.cell (p := ⟨w.heap.size, 3, none⟩) (show w.heap.size < w.heap.size + 1 by omega)).trans K3.out
      have hl7 : (PRE ++ numsS l1).length ≤ 3006 := by
        have h := nums_len l1
        have hP := HPRE.out
        rw [List.length_append]; omega
      go_wp2_with fail
      refine Calls.mono (bld_byte hbl (Nat.le_trans hB0 hbr.size) (by omega)) ?_
      rintro e w5 ⟨rfl, hblz, hb5'⟩
      have hbz : Below (w.heap.size + 1) W0 w5 := hbr.trans (hb5'.mono (Nat.le_refl _))
      have k3'' := (hbz.cell (p := ⟨w.heap.size, 3, none⟩) (show w.heap.size < w.heap.size + 1 by omega)).trans K3.out
      clear hb5' hbr hbl hk3w
      have HLEN2 : Hid ((PRE ++ numsS l1 ++ [59]).length ≤ 3007) := Lib.hid (by rw [List.length_append, List.length_singleton]; omega)
      clear hl7
      go_wp2_with fail
      have HL2 := Lib.hid hl2
      have hsz2 : BldS (w.heap.size + 1) (w.heap.size + 1) (PRE ++ numsS l1 ++ [59] ++ numsS (l2.take 0)) w5 := by simpa [numsS] using hblz
      clear hblz
      go_loopw [34] (fun i wr => ∃ k : Nat, k ≤ l2.length ∧ i = .int .i64 k ∧ BldS (w.heap.size + 1) (w.heap.size + 1) (PRE ++ numsS l1 ++ [59] ++ numsS (l2.take k)) wr ∧ Below (w.heap.size + 1) W0 wr) (fun i _ => l2.length - (intOf i).toNat)
      case atStart => exact ⟨0, by omega, rfl, hsz2, hbz⟩
      case round =>
        clear hsz2 hbz
        obtain ⟨k, hk, rfl, hbl, hbr⟩ := hrel
        by_cases hlt : k < l2.length
        · have hbw : Below w.heap.size w wr := hb0.trans (hbr.mono (by omega))
          obtain ⟨b, o, rfl, _, hc⟩ := (h2.below hbw (Nat.le_refl _)).rd.at_ (j := k) (u := .int .i64 (l2[k] : Int)) (by simp [icells, natI, hlt])
          have hx : l2[k] < 100 := HL2.out _ (List.getElem_mem hlt)
          have hsn := nums_snoc l2 k hlt
          have hnl := nums_len (l2.take k)
          have hdl : (decL l2[k]).length ≤ 2 := by unfold decL; split <;> simp
          generalize l2[k] = x at *
          have hsd : ¬ 9223372036854775807 < (strOfNums (decL x)).size + 1 := by rw [strOfNums_size]; omega
          have HDB : Hid (strOfNums (decL x) ++ ({ data := #[32] } : ByteArray) = strOfNums (decL x ++ [32])) := Lib.hid (by rw [show ({ data := #[32] } : ByteArray) = strOfNums [32] from rfl, strOf_append])
          have HSN := Lib.hid hsn
          have h0 : (0 : Int) ≤ (k : Int) := by omega
          have h1' : (k : Int) < (l2.length : Int) := by omega
          have wi : IntKind.i64.wrap ((k : Int) + 1) = k + 1 := by rw [IntKind.wrap_i64]; omega
          have hlen : (PRE ++ numsS l1 ++ [59] ++ numsS (l2.take k)).length + (decL x ++ [32]).length ≤ 1000000 := by
            have hP := HLEN2.out
            rw [List.length_take] at hnl
            simp only [List.length_append, List.length_cons, List.length_nil] at hP ⊢
            omega
          have HI := Lib.hid (itoa_any x hx)
          clear hsn hnl hdl hx
          go_wp2_with fail
          refine Calls.mono (HI.out wr) ?_
          rintro e w' ⟨rfl, rfl⟩
          go_wp2_with fail
          rw [HDB.out]
          refine Calls.mono (bld_write hbl (Nat.le_trans hB0 hbr.size) hlen) ?_
          rintro e w2' ⟨⟨n2, rfl⟩, hbl', hb'⟩
          go_wp2
          go_roundw
          case rel => exact ⟨k + 1, by omega, by go_num, by rw [HSN.out, ← List.append_assoc]; exact hbl', hbr.trans (hb'.mono (Nat.le_refl _))⟩
          case measure => simp [intOf]; omega
        · have hkn : k = l2.length := by omega
          subst hkn
          rw [List.take_length] at hbl
          go_wp2_with fail
          refine Calls.mono (bld_string hbl (by simp)) ?_
          rintro e w7 ⟨rfl, hb7⟩
          go_wp2
          go_ret
          refine ⟨?_, hb0.trans ((hbr.mono (by omega)).trans (hb7.mono (by have := hbr.size; omega)))⟩
          rw [← HPREE.out]
          simp
end Go.Proofs.YtamhjgkigjpbhaaDoor
