/- What sets are that are not there, and that no call made: Len, Count, Has, Put, Drop. -/
import Derived.Test.YtikhlcdgibnolaaDoorTn1
namespace Go.Proofs.YtikhlcdgibnolaaDoor
open Go.RowKit

/-- The zero set. -/
def ZSet (Z : Nat) (w : World) : Prop := w.heap[Z]? = some (.cells #[.int .i64 0, .slice none 0 0] 59 (0, 0))
theorem ZSet.below {Z : Nat} {w w' : World} (h : ZSet Z w) (hb : Below w.heap.size w w') : ZSet Z w' := (hb.block Z (lt_of_block h)).trans h
set_option maxHeartbeats 400000 in
theorem bnilCount_any (w : World) : Calls Tryd.prog 34 #[.pointer none] w fun e w' => e = .returned (.int .i64 0) ∧ w = w' := by
  go_enter Tryd.func34, Tryd.ntmps34
  go_wp2
  go_ret
  exact ⟨rfl, rfl⟩
set_option maxHeartbeats 400000 in
theorem bzLen_any (Z : Nat) (w : World) (h : ZSet Z w) : Calls Tryd.prog 15 #[.pointer (some ⟨Z, 0, none⟩)] w fun e w' => e = .returned (.int .i64 ((0 : Nat) : Int)) ∧ w = w' := by
  obtain ⟨⟨c0, c1⟩, _, hS⟩ := blk2 h
  clear h
  go_enter Tryd.func15, Tryd.ntmps15
  go_wp2
  go_ret
  exact ⟨rfl, rfl⟩
set_option maxHeartbeats 400000 in
theorem bzCount_any (Z : Nat) (w : World) (h : ZSet Z w) : Calls Tryd.prog 34 #[.pointer (some ⟨Z, 0, none⟩)] w fun e w' => e = .returned (.int .i64 0) ∧ w = w' := by
  obtain ⟨⟨c0, c1⟩, _, hS⟩ := blk2 h
  clear h
  go_enter Tryd.func34, Tryd.ntmps34
  go_wp2
  go_loop [3, 13] (fun v i => v = .int .i64 0 ∧ i = .int .i64 0) (fun _ _ => 0)
  case atStart => exact ⟨rfl, rfl⟩
  case round =>
    obtain ⟨rfl, rfl⟩ := hrel
    go_wp2
    go_ret
    exact ⟨rfl, rfl⟩
theorem lenIs_zero {Z : Nat} {w : World} (h : ZSet Z w) : LenIs (some ⟨Z, 0, none⟩) 0 w := fun w' hb => bzLen_any Z w' (h.below hb)
set_option maxHeartbeats 1000000 in
/-- Has of what is of length 0. -/
theorem b0Has_any (p : Option Addr) (i : Int) (w : World) (h : LenIs p 0 w) : Calls Tryd.prog 16 #[.pointer p, .int .i64 i] w fun e w' => e = .returned (.bool false) ∧ w = w' := by
  have HL := Lib.hid (h w (Below.refl _ _))
  clear h
  by_cases h0 : 0 ≤ i
  · have d0 : decide (0 ≤ i) = true := by simpa using h0
    have d1 : decide (i < 0) = false := by simpa using h0
    clear h0
    go_enter Tryd.func16, Tryd.ntmps16
    go_wp2_with fail
    refine Calls.mono HL.out ?_
    rintro e w1 ⟨rfl, rfl⟩
    go_wp2
    go_ret
    exact ⟨rfl, rfl⟩
  · have d0 : decide (0 ≤ i) = false := by simpa using h0
    clear h0
    go_enter Tryd.func16, Tryd.ntmps16
    go_wp2
    go_ret
    exact ⟨rfl, rfl⟩
set_option maxHeartbeats 1000000 in
theorem b0Put_any (p : Option Addr) (i : Int) (w : World) (h : LenIs p 0 w) : Calls Tryd.prog 19 #[.pointer p, .int .i64 i] w fun e w' => e = .returned (.bool false) ∧ w = w' := by
  have HL := Lib.hid (h w (Below.refl _ _))
  clear h
  by_cases h0 : i < 0
  · have d0 : decide (i < 0) = true := by simpa using h0
    clear h0
    go_enter Tryd.func19, Tryd.ntmps19
    go_wp2
    go_ret
    exact ⟨rfl, rfl⟩
  · have d0 : decide (i < 0) = false := by simpa using h0
    have d1 : decide (0 ≤ i) = true := by simp; omega
    clear h0
    go_enter Tryd.func19, Tryd.ntmps19
    go_wp2_with fail
    refine Calls.mono HL.out ?_
    rintro e w1 ⟨rfl, rfl⟩
    go_wp2
    go_ret
    exact ⟨rfl, rfl⟩
set_option maxHeartbeats 1000000 in
theorem b0Drop_any (p : Option Addr) (i : Int) (w : World) (h : LenIs p 0 w) : Calls Tryd.prog 20 #[.pointer p, .int .i64 i] w fun e w' => e = .returned (.bool false) ∧ w = w' := by
  have HH := Lib.hid (b0Has_any p i w h)
  clear h
  go_enter Tryd.func20, Tryd.ntmps20
  go_wp2_with fail
  refine Calls.mono HH.out ?_
  rintro e w1 ⟨rfl, rfl⟩
  go_wp2
  go_ret
  exact ⟨rfl, rfl⟩
end Go.Proofs.YtikhlcdgibnolaaDoor
