/- What all rows of this seat lean on. -/
import Derived.Test.YtpjhligbflmeoaaRows
import Derived.Test.YtpjhligbflmeoaaOpen
import Derived.ShutString
import Derived.OpenShut
namespace Go.Proofs.Ytpjhligbflmeoaa
theorem own : ownKnob Try.prog.godebug = none := by kernel_rfl
theorem laidOut : laidOutB Try.prog = true := by kernel_rfl
end Go.Proofs.Ytpjhligbflmeoaa
