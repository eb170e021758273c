/- The walk of law 27's awake (under way): what it asks, in plain Lean. -/
import Derived.Test.YtkikkplpalabhaaWk10
import Derived.Test.YtkikkplpalabhaaWk15
namespace Go.Proofs.Ytkikkplpalabhaa
open Go.RowKit

def awF : List Nd := [⟨3, 0⟩, ⟨11, 0⟩, ⟨12, 0⟩]
theorem aw_truth : truthW (wbit [] [1, 0]) awF [] [1, 0] = [[true, false], [true, true], [true, true]] := by decide
theorem aw_at : atW [1] [0, 2] 4 = 2 := by decide
theorem aw_norm : normP [0, 2, 0] [2, 0, 2, 0] = ([], [0, 2]) := by decide
theorem aw_holds : holdsW (wbit [0, 2, 0] [2, 0, 2, 0]) awF [0, 2, 0] [2, 0, 2, 0] = false := by decide
theorem aw_same : sameP [0, 2, 0] [2, 0, 2, 0] [] [0, 2] = true := by decide
theorem aw_shift : shiftP [0, 2, 0] [2, 0, 2, 0] 4 = ([], [0, 2, 0, 2]) := by decide
end Go.Proofs.Ytkikkplpalabhaa
