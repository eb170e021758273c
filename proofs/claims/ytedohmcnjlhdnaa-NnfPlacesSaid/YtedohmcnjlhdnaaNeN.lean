/- Nodes held against one another. -/
import Derived.Test.YtedohmcnjlhdnaaProg
import Derived.Test.YtedohmcnjlhdnaaLtlP
import Derived.Laws.StructEq
namespace Go.Proofs.Ytedohmcnjlhdnaa
open Go.RowKit

theorem neq_nd (x y : Nd) (w : World) : (binOp .neq 38 (.agg #[.int .i64 x.op, .int .i64 x.n]) (.agg #[.int .i64 y.op, .int .i64 y.n])).run Try.prog w = .ok (.bool (decide (x ≠ y))) w := by
  have hS : Try.prog.underlying 38 = some (.struct (Try.prog.fieldsOf 38)) := by kernel_rfl
  have hp : Try.prog.stoodInHeld 38 = false := by kernel_rfl
  rw [run_neq_struct, show (10000 : Nat) = 9999 + 1 from rfl, run_equalIn_agg w 9999 _ _ _ hS hp]
  simp only [Program.fieldsOf, Try.underlying38]
  obtain ⟨a, b⟩ := x
  obtain ⟨c, d⟩ := y
  go_simp
  by_cases h1 : a = c <;> by_cases h2 : b = d <;> simp [h1, h2]

end Go.Proofs.Ytedohmcnjlhdnaa
