/- The walk of slices.Clone at numbers. -/
import Derived.Test.YtedohmcnjlhdnaaSlI
import Derived.Test.YtedohmcnjlhdnaaLtlP2
import Derived.Test.YtedohmcnjlhdnaaPost
namespace Go.Proofs.Ytedohmcnjlhdnaa
open Go.RowKit

set_option maxHeartbeats 400000 in
theorem cloneInt_any (A : Option Addr) (n c : Nat) (xs : List Value) (w : World) (B : Nat) (hs : Sl w B 1 A n c xs) (h1 : ∀ u ∈ xs, u.oneCell' = true) (hB : B ≤ w.heap.size) (hn : n ≤ 1000000000) :
    Calls Try.prog 47 #[.slice A n c] w (NewRow w 3 1 n xs (A = none)) := by
  have hnil := fun (w : World) (a : Option Addr) (l c : Nat) => Lib.run_eql_slice_nil (P := Try.prog) w 28 3 a l c 0 0 Try.underlying28
  rcases A with _ | ad
  · have hc : c = 0 := hs.nil rfl
    have hm : n = 0 := by have := hs.cap; omega
    subst hc; subst hm
    have hx : xs = [] := List.eq_nil_of_length_eq_zero (by rw [hs.len])
    subst hx
    go_enter Try.func47, Try.ntmps47
    go_wp2
    go_ret
    exact ⟨_, rfl, World.ownsRow_nil _ _ _ _, Below.refl _ _, by simp⟩
  · have hb0 : ∀ w : World, (w.alloc (.cells #[] 3)).ownsRow w.heap.size 3 1 (.slice (some ⟨w.heap.size, 0, none⟩) 0 0) 0 [] :=
      fun w => World.ownsRow_made w #[] 0 (Nat.le_refl _) (by unfold maxLen; omega) (by simp)
    go_enter Try.func47, Try.ntmps47
    go_wp2_with (at_builtin; refine wpList_extend rfl (.tmp 5) (.tmp 6) 28 rfl w.heap.size 3 1 8 sliceInt _ _ _ (hb0 w) rfl B (some ad) n c xs rfl (hs.below ((Below.refl w.heap.size w).alloc (Nat.le_refl _) _) hB) h1 (by omega) (by omega) (by simp) ?_; intro v1 w1 hown1 ht1 hat1 hnil1)
    go_ret
    refine ⟨v1, rfl, by simpa using hown1, ?_, by simp [hnil1]⟩
    exact ((Below.refl w.heap.size w).alloc (Nat.le_refl _) _).trans (ht1.below (by simp) (fun k hk => by simp [Value.ownBlock]; omega))
end Go.Proofs.Ytedohmcnjlhdnaa
