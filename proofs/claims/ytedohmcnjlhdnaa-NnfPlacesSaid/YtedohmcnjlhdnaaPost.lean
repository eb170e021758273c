/- What functions leave: words for the ends of walks. -/
import Derived.Test.YtedohmcnjlhdnaaBase
namespace Go.Proofs.Ytedohmcnjlhdnaa
open Go.RowKit

/-- What a function leaves that answers a new row. -/
def NewRow (w : World) (e size n : Nat) (xs : List Value) (nil : Prop) (en : Ending) (w' : World) : Prop :=
  ∃ v, en = .returned v ∧ w'.ownsRow w.heap.size e size v n xs ∧ Below w.heap.size w w' ∧ (v = .slice none 0 0 ↔ nil)

/-- What a call leaves that answers an int in memory that has only grown. -/
def Num (w : World) (k : Int) (en : Ending) (w' : World) : Prop := en = .returned (.int .i64 k) ∧ Below w.heap.size w w'

/-- Two numbers, in memory that has only grown. -/
def Num2 (w : World) (p : Int × Int) (en : Ending) (w' : World) : Prop := en = .returned (.tuple #[.int .i64 p.1, .int .i64 p.2]) ∧ Below w.heap.size w w'

theorem num2_of {w w' : World} {p : Int × Int} {a b : Int} (h : p = (a, b)) (hb : Below w.heap.size w w') : Num2 w p (.returned (.tuple #[.int .i64 a, .int .i64 b])) w' := ⟨by rw [h], hb⟩

/-- A number of 64 bits without sign, in memory that has only grown. -/
def NumU (w : World) (k : Int) (en : Ending) (w' : World) : Prop := en = .returned (.int .u64 k) ∧ Below w.heap.size w w'

/-- The world but for draws, and a bool. -/
def Said (w : World) (b : Bool) (en : Ending) (w' : World) : Prop := en = .returned (.bool b) ∧ ∃ n, w' = w.drewN n

/-- A bool, in memory that has only grown. -/
def Tru (w : World) (b : Bool) (en : Ending) (w' : World) : Prop := en = .returned (.bool b) ∧ Below w.heap.size w w'

/-- A number that is not below 0 just if there is one. -/
def Fnd (w : World) (b : Bool) (en : Ending) (w' : World) : Prop := ∃ k : Int, en = .returned (.int .i64 k) ∧ -1 ≤ k ∧ k ≤ 9223372036854775807 ∧ Below w.heap.size w w' ∧ decide (0 ≤ k) = b
end Go.Proofs.Ytedohmcnjlhdnaa
