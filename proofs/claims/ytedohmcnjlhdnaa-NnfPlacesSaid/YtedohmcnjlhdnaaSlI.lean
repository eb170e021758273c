/- The slices of numbers, as the laws on append ask. -/
import Derived.Test.YtedohmcnjlhdnaaProg
import Derived.Test.YtedohmcnjlhdnaaBase
namespace Go.Proofs.Ytedohmcnjlhdnaa
open Go.RowKit

theorem sliceInt : SliceT Try.prog 28 3 1 8 :=
  SliceT.mk (z := .int .i64 0) Try.underlying28 (by kernel_rfl) (by decide) (by decide)

end Go.Proofs.Ytedohmcnjlhdnaa
