/- The walk of layer 23: takes. -/
import Derived.Test.YtedohmcnjlhdnaaProg
import Derived.Test.YtedohmcnjlhdnaaMa
import Derived.Outline
namespace Go.Proofs.Ytedohmcnjlhdnaa
open Go.RowKit

set_option maxHeartbeats 400000 in
theorem takes_any (a : Int) (w : World) :
    Calls Try.prog 68 #[.int .i64 a] w fun e w' => e = .returned (.int .i64 (takes a)) ∧ w = w' := by
  go_enter Try.func68, Try.ntmps68
  go_wp2
  all_goals (go_ret; exact ⟨by simp_all [takes], rfl⟩)
end Go.Proofs.Ytedohmcnjlhdnaa
