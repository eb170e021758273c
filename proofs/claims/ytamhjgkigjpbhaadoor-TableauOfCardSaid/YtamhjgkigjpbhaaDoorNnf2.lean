/- The walks of layer 25's writer: both, ever, part. -/
import Derived.Test.YtamhjgkigjpbhaaDoorNnf1
namespace Go.Proofs.YtamhjgkigjpbhaaDoor
open Go.RowKit

section
variable {f : List Nd} {s : List Int} {A A' : Option Addr} {c c' Bw : Nat}

theorem ncells_one1 (x : Nd) : ncells [x] = [.int .i64 x.op, .int .i64 x.n] := rfl

end
end Go.Proofs.YtamhjgkigjpbhaaDoor
