/- The slices of nodes, as the laws on append ask. -/
import Derived.Test.YtedohmcnjlhdnaaProg
import Derived.Test.YtedohmcnjlhdnaaBase
namespace Go.Proofs.Ytedohmcnjlhdnaa
open Go.RowKit

theorem sliceNd : SliceT Try.prog 22 38 2 16 :=
  SliceT.mk (z := .agg #[.int .i64 0, .int .i64 0]) Try.underlying22 (by kernel_rfl) (by decide) (by decide)

end Go.Proofs.Ytedohmcnjlhdnaa
