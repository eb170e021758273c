/- The walk of layer 23: takes. -/
import Derived.Test.YtpjhligbflmeoaaProg
import Derived.Test.YtpjhligbflmeoaaLtlP2
import Derived.Test.YtpjhligbflmeoaaPost
import Derived.Outline
namespace Go.Proofs.Ytpjhligbflmeoaa
open Go.RowKit

set_option maxHeartbeats 400000 in
theorem takes_any (a : Int) (w : World) :
    Calls Try.prog 37 #[.int .i64 a] w fun e w' => e = .returned (.int .i64 (takes a)) ∧ w = w' := by
  go_enter Try.func37, Try.ntmps37
  go_wp2
  all_goals (go_ret; exact ⟨by simp_all [takes], rfl⟩)
end Go.Proofs.Ytpjhligbflmeoaa
