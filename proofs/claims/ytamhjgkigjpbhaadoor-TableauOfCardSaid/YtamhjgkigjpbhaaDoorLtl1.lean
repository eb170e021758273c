/- The walk of layer 23: takes. -/
import Derived.Test.YtamhjgkigjpbhaaDoorProg
import Derived.Test.YtamhjgkigjpbhaaDoorMa
import Derived.Outline
namespace Go.Proofs.YtamhjgkigjpbhaaDoor
open Go.RowKit

set_option maxHeartbeats 400000 in
theorem takes_any (a : Int) (w : World) :
    Calls Tryd.prog 89 #[.int .i64 a] w fun e w' => e = .returned (.int .i64 (takes a)) ∧ w = w' := by
  go_enter Tryd.func89, Tryd.ntmps89
  go_wp2
  all_goals (go_ret; exact ⟨by simp_all [takes], rfl⟩)
end Go.Proofs.YtamhjgkigjpbhaaDoor
