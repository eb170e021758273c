/- The slices of numbers, as the laws on append ask. -/
import Derived.Test.YtpjhligbflmeoaaProg
import Derived.Test.YtpjhligbflmeoaaBase
namespace Go.Proofs.Ytpjhligbflmeoaa
open Go.RowKit

theorem sliceInt : SliceT Try.prog 30 3 1 8 :=
  SliceT.mk (z := .int .i64 0) Try.underlying30 (by kernel_rfl) (by decide) (by decide)

end Go.Proofs.Ytpjhligbflmeoaa
