/- The walk of layer 23: takes. -/
import Derived.Test.YtkikkplpalabhaaProg
import Derived.Test.YtkikkplpalabhaaMa
import Derived.Outline
namespace Go.Proofs.Ytkikkplpalabhaa
open Go.RowKit

set_option maxHeartbeats 400000 in
theorem takes_any (a : Int) (w : World) :
    Calls Try.prog 124 #[.int .i64 a] w fun e w' => e = .returned (.int .i64 (takes a)) ∧ w = w' := by
  go_enter Try.func124, Try.ntmps124
  go_wp2
  all_goals (go_ret; exact ⟨by simp_all [takes], rfl⟩)
end Go.Proofs.Ytkikkplpalabhaa
