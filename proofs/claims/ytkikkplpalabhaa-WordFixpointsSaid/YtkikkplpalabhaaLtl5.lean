/- The walk of layer 23: Check. -/
import Derived.Test.YtkikkplpalabhaaLtl4
namespace Go.Proofs.Ytkikkplpalabhaa
open Go.RowKit

set_option maxHeartbeats 400000 in
theorem Check_any (A : Option Addr) (c : Nat) (f : List Nd) (w : World) (B : Nat) (hf : Sl w B 2 A f.length c (ncells f)) (hB : B ≤ w.heap.size) (hl : f.length ≤ 1000000000) :
    Calls Try.prog 89 #[.slice A f.length c] w (Num w (check f)) := by
  by_cases h : 24 < f.length
  · go_enter Try.func89, Try.ntmps89
    go_wp2
    go_ret
    exact ⟨ret_int (by rw [check, if_pos h]), Below.refl _ _⟩
  · go_enter Try.func89, Try.ntmps89
    go_wp2_with fail
    refine (spans_any A c f w B hf hB hl).mono ?_
    rintro e w1 ⟨v, rfl, hown, hb, hnil⟩
    go_wp2
    go_ret
    exact ⟨ret_int (by rw [check, if_neg h]), hb⟩
end Go.Proofs.Ytkikkplpalabhaa
