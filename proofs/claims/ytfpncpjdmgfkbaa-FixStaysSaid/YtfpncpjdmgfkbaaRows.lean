/-
  No cell of these rows narrows 'for every input' (looked for: loops, veiled, ifaces, maps, wideKeys, modest, calm, conditions, laid).
  DERIVED. THE GIVEN ROWS OF THIS SEAT. 12 by the template 'for every input the law returns true; each argument reads behind the call as it read before'; 0 by the template 'total and deterministic' (their statements: YtfpncpjdmgfkbaaTotals.lean).
  GIVEN WITH THE SEED: the statements are not yours to turn. If you find one false, say at which input.
  Laid BY PROGRAM, IN A SANDBOX (cutbox-rows.mjs): the forced cells as the released guide's own fill.sh prints them over the translation 8e16242b7ed4f4e1… (all of the seat's roots in one cut). By AI agents, Wed Nov 11 2026. No macro, syntax, notation, axiom, sorry.
-/
import Derived.Test.YtfpncpjdmgfkbaaChecked
import GoSem.Claim
import GoSem.ClaimJoined
import GoSem.ClaimMapViews
import Derived.JoinedTies
import Derived.KernelRfl
namespace Go.Proofs.Ytfpncpjdmgfkbaa
/- THE CELL 'sum', in the pinned program and in every row, IS THE sha256 OF THE DUMP (.gsa) THAT YtfpncpjdmgfkbaaProg.lean LOADS. Nothing in Lean hashes anything: it is a label: what it is worth is what the hold of that sum in a sandbox is worth. -/
noncomputable def Try.pinned : Pinned := { name := "ytfpncpjdmgfkbaa", sum := "8e16242b7ed4f4e12e9bd1080a11ade80264728e045244836f76a0b9b8ec4304", checked := Try.checked }
namespace Rows
def none {H : Type} : Left H := { results := [], args := [] }

/-- 'lariatlaw06.GraphChecks': WHATEVER THE INPUT: true; the input reads as it did. -/
def graphChecksSpec : ChangeSpec := { name := "graphChecks", fn := fun _ => fun
  | [d1, d2] => { results := [.lit (.bool true)], args := [d1, d2] }
  | _ => none }
def graphChecksRow : OpenClaim := { program := "ytfpncpjdmgfkbaa", sum := "8e16242b7ed4f4e12e9bd1080a11ade80264728e045244836f76a0b9b8ec4304", func := "lariat/lariatlaw06.GraphChecks", spec := "graphChecks", unfollowed := true, recurses := true, apart := false }
def GraphChecksSaid : Prop := graphChecksRow.holds Try.pinned (OpenSpec.ofChange graphChecksSpec)

/-- ITS FALSE NEIGHBOUR: 'it returns false'. Refute it at one input. -/
def graphChecksWrong : ChangeSpec := { name := "graphChecks", fn := fun _ => fun
  | [d1, d2] => { results := [.lit (.bool false)], args := [d1, d2] }
  | _ => none }
def GraphChecksWrongFalsely : Prop := graphChecksRow.holds Try.pinned (OpenSpec.ofChange graphChecksWrong)

/-- 'lariatlaw06.GraphMany': WHATEVER THE INPUT: true; the input reads as it did. -/
def graphManySpec : ChangeSpec := { name := "graphMany", fn := fun _ => fun
  | [d] => { results := [.lit (.bool true)], args := [d] }
  | _ => none }
def graphManyRow : OpenClaim := { program := "ytfpncpjdmgfkbaa", sum := "8e16242b7ed4f4e12e9bd1080a11ade80264728e045244836f76a0b9b8ec4304", func := "lariat/lariatlaw06.GraphMany", spec := "graphMany", unfollowed := true, recurses := true, apart := false }
def GraphManySaid : Prop := graphManyRow.holds Try.pinned (OpenSpec.ofChange graphManySpec)

/-- ITS FALSE NEIGHBOUR: 'it returns false'. Refute it at one input. -/
def graphManyWrong : ChangeSpec := { name := "graphMany", fn := fun _ => fun
  | [d] => { results := [.lit (.bool false)], args := [d] }
  | _ => none }
def GraphManyWrongFalsely : Prop := graphManyRow.holds Try.pinned (OpenSpec.ofChange graphManyWrong)

/-- 'lariatlaw06.GraphTurns': WHATEVER THE INPUT: true; the input reads as it did. -/
def graphTurnsSpec : ChangeSpec := { name := "graphTurns", fn := fun _ => fun
  | [d] => { results := [.lit (.bool true)], args := [d] }
  | _ => none }
def graphTurnsRow : OpenClaim := { program := "ytfpncpjdmgfkbaa", sum := "8e16242b7ed4f4e12e9bd1080a11ade80264728e045244836f76a0b9b8ec4304", func := "lariat/lariatlaw06.GraphTurns", spec := "graphTurns", unfollowed := true, recurses := true, apart := false }
def GraphTurnsSaid : Prop := graphTurnsRow.holds Try.pinned (OpenSpec.ofChange graphTurnsSpec)

/-- ITS FALSE NEIGHBOUR: 'it returns false'. Refute it at one input. -/
def graphTurnsWrong : ChangeSpec := { name := "graphTurns", fn := fun _ => fun
  | [d] => { results := [.lit (.bool false)], args := [d] }
  | _ => none }
def GraphTurnsWrongFalsely : Prop := graphTurnsRow.holds Try.pinned (OpenSpec.ofChange graphTurnsWrong)

/-- 'lariatlaw06.GraphPaths': WHATEVER THE INPUT: true; the input reads as it did. -/
def graphPathsSpec : ChangeSpec := { name := "graphPaths", fn := fun _ => fun
  | [d1, d2, d3] => { results := [.lit (.bool true)], args := [d1, d2, d3] }
  | _ => none }
def graphPathsRow : OpenClaim := { program := "ytfpncpjdmgfkbaa", sum := "8e16242b7ed4f4e12e9bd1080a11ade80264728e045244836f76a0b9b8ec4304", func := "lariat/lariatlaw06.GraphPaths", spec := "graphPaths", unfollowed := true, recurses := true, apart := false }
def GraphPathsSaid : Prop := graphPathsRow.holds Try.pinned (OpenSpec.ofChange graphPathsSpec)

/-- ITS FALSE NEIGHBOUR: 'it returns false'. Refute it at one input. -/
def graphPathsWrong : ChangeSpec := { name := "graphPaths", fn := fun _ => fun
  | [d1, d2, d3] => { results := [.lit (.bool false)], args := [d1, d2, d3] }
  | _ => none }
def GraphPathsWrongFalsely : Prop := graphPathsRow.holds Try.pinned (OpenSpec.ofChange graphPathsWrong)

/-- 'lariatlaw06.GraphSteps': WHATEVER THE INPUT: true; the input reads as it did. -/
def graphStepsSpec : ChangeSpec := { name := "graphSteps", fn := fun _ => fun
  | [d1, d2, d3] => { results := [.lit (.bool true)], args := [d1, d2, d3] }
  | _ => none }
def graphStepsRow : OpenClaim := { program := "ytfpncpjdmgfkbaa", sum := "8e16242b7ed4f4e12e9bd1080a11ade80264728e045244836f76a0b9b8ec4304", func := "lariat/lariatlaw06.GraphSteps", spec := "graphSteps", unfollowed := true, recurses := true, apart := false }
def GraphStepsSaid : Prop := graphStepsRow.holds Try.pinned (OpenSpec.ofChange graphStepsSpec)

/-- ITS FALSE NEIGHBOUR: 'it returns false'. Refute it at one input. -/
def graphStepsWrong : ChangeSpec := { name := "graphSteps", fn := fun _ => fun
  | [d1, d2, d3] => { results := [.lit (.bool false)], args := [d1, d2, d3] }
  | _ => none }
def GraphStepsWrongFalsely : Prop := graphStepsRow.holds Try.pinned (OpenSpec.ofChange graphStepsWrong)

/-- 'lariatlaw06.GraphReaches': WHATEVER THE INPUT: true; the input reads as it did. -/
def graphReachesSpec : ChangeSpec := { name := "graphReaches", fn := fun _ => fun
  | [d1, d2, d3] => { results := [.lit (.bool true)], args := [d1, d2, d3] }
  | _ => none }
def graphReachesRow : OpenClaim := { program := "ytfpncpjdmgfkbaa", sum := "8e16242b7ed4f4e12e9bd1080a11ade80264728e045244836f76a0b9b8ec4304", func := "lariat/lariatlaw06.GraphReaches", spec := "graphReaches", unfollowed := true, recurses := true, apart := false }
def GraphReachesSaid : Prop := graphReachesRow.holds Try.pinned (OpenSpec.ofChange graphReachesSpec)

/-- ITS FALSE NEIGHBOUR: 'it returns false'. Refute it at one input. -/
def graphReachesWrong : ChangeSpec := { name := "graphReaches", fn := fun _ => fun
  | [d1, d2, d3] => { results := [.lit (.bool false)], args := [d1, d2, d3] }
  | _ => none }
def GraphReachesWrongFalsely : Prop := graphReachesRow.holds Try.pinned (OpenSpec.ofChange graphReachesWrong)

/-- 'lariatlaw06.GraphDuals': WHATEVER THE INPUT: true; the input reads as it did. -/
def graphDualsSpec : ChangeSpec := { name := "graphDuals", fn := fun _ => fun
  | [d1, d2, d3] => { results := [.lit (.bool true)], args := [d1, d2, d3] }
  | _ => none }
def graphDualsRow : OpenClaim := { program := "ytfpncpjdmgfkbaa", sum := "8e16242b7ed4f4e12e9bd1080a11ade80264728e045244836f76a0b9b8ec4304", func := "lariat/lariatlaw06.GraphDuals", spec := "graphDuals", unfollowed := true, recurses := true, apart := false }
def GraphDualsSaid : Prop := graphDualsRow.holds Try.pinned (OpenSpec.ofChange graphDualsSpec)

/-- ITS FALSE NEIGHBOUR: 'it returns false'. Refute it at one input. -/
def graphDualsWrong : ChangeSpec := { name := "graphDuals", fn := fun _ => fun
  | [d1, d2, d3] => { results := [.lit (.bool false)], args := [d1, d2, d3] }
  | _ => none }
def GraphDualsWrongFalsely : Prop := graphDualsRow.holds Try.pinned (OpenSpec.ofChange graphDualsWrong)

/-- 'lariatlaw39.FixFair': WHATEVER THE INPUT: true; the input reads as it did. -/
def fixFairSpec : ChangeSpec := { name := "fixFair", fn := fun _ => fun
  | [d1, d2] => { results := [.lit (.bool true)], args := [d1, d2] }
  | _ => none }
def fixFairRow : OpenClaim := { program := "ytfpncpjdmgfkbaa", sum := "8e16242b7ed4f4e12e9bd1080a11ade80264728e045244836f76a0b9b8ec4304", func := "lariat/lariatlaw39.FixFair", spec := "fixFair", unfollowed := true, recurses := true, apart := false }
def FixFairSaid : Prop := fixFairRow.holds Try.pinned (OpenSpec.ofChange fixFairSpec)

/-- ITS FALSE NEIGHBOUR: 'it returns false'. Refute it at one input. -/
def fixFairWrong : ChangeSpec := { name := "fixFair", fn := fun _ => fun
  | [d1, d2] => { results := [.lit (.bool false)], args := [d1, d2] }
  | _ => none }
def FixFairWrongFalsely : Prop := fixFairRow.holds Try.pinned (OpenSpec.ofChange fixFairWrong)

/-- 'lariatlaw39.FixLoop': WHATEVER THE INPUT: true; the input reads as it did. -/
def fixLoopSpec : ChangeSpec := { name := "fixLoop", fn := fun _ => fun
  | [d1, d2, d3] => { results := [.lit (.bool true)], args := [d1, d2, d3] }
  | _ => none }
def fixLoopRow : OpenClaim := { program := "ytfpncpjdmgfkbaa", sum := "8e16242b7ed4f4e12e9bd1080a11ade80264728e045244836f76a0b9b8ec4304", func := "lariat/lariatlaw39.FixLoop", spec := "fixLoop", unfollowed := true, recurses := true, apart := false }
def FixLoopSaid : Prop := fixLoopRow.holds Try.pinned (OpenSpec.ofChange fixLoopSpec)

/-- ITS FALSE NEIGHBOUR: 'it returns false'. Refute it at one input. -/
def fixLoopWrong : ChangeSpec := { name := "fixLoop", fn := fun _ => fun
  | [d1, d2, d3] => { results := [.lit (.bool false)], args := [d1, d2, d3] }
  | _ => none }
def FixLoopWrongFalsely : Prop := fixLoopRow.holds Try.pinned (OpenSpec.ofChange fixLoopWrong)

/-- 'lariatlaw39.FixTold': WHATEVER THE INPUT: true; the input reads as it did. -/
def fixToldSpec : ChangeSpec := { name := "fixTold", fn := fun _ => fun
  | [d1, d2, d3] => { results := [.lit (.bool true)], args := [d1, d2, d3] }
  | _ => none }
def fixToldRow : OpenClaim := { program := "ytfpncpjdmgfkbaa", sum := "8e16242b7ed4f4e12e9bd1080a11ade80264728e045244836f76a0b9b8ec4304", func := "lariat/lariatlaw39.FixTold", spec := "fixTold", unfollowed := true, recurses := true, apart := false }
def FixToldSaid : Prop := fixToldRow.holds Try.pinned (OpenSpec.ofChange fixToldSpec)

/-- ITS FALSE NEIGHBOUR: 'it returns false'. Refute it at one input. -/
def fixToldWrong : ChangeSpec := { name := "fixTold", fn := fun _ => fun
  | [d1, d2, d3] => { results := [.lit (.bool false)], args := [d1, d2, d3] }
  | _ => none }
def FixToldWrongFalsely : Prop := fixToldRow.holds Try.pinned (OpenSpec.ofChange fixToldWrong)

/-- 'lariatlaw39.FixStays': WHATEVER THE INPUT: true; the input reads as it did. -/
def fixStaysSpec : ChangeSpec := { name := "fixStays", fn := fun _ => fun
  | [d1, d2] => { results := [.lit (.bool true)], args := [d1, d2] }
  | _ => none }
def fixStaysRow : OpenClaim := { program := "ytfpncpjdmgfkbaa", sum := "8e16242b7ed4f4e12e9bd1080a11ade80264728e045244836f76a0b9b8ec4304", func := "lariat/lariatlaw39.FixStays", spec := "fixStays", unfollowed := true, recurses := true, apart := false }
def FixStaysSaid : Prop := fixStaysRow.holds Try.pinned (OpenSpec.ofChange fixStaysSpec)

/-- ITS FALSE NEIGHBOUR: 'it returns false'. Refute it at one input. -/
def fixStaysWrong : ChangeSpec := { name := "fixStays", fn := fun _ => fun
  | [d1, d2] => { results := [.lit (.bool false)], args := [d1, d2] }
  | _ => none }
def FixStaysWrongFalsely : Prop := fixStaysRow.holds Try.pinned (OpenSpec.ofChange fixStaysWrong)

/-- 'lariatlaw39.FixMore': WHATEVER THE INPUT: true; the input reads as it did. -/
def fixMoreSpec : ChangeSpec := { name := "fixMore", fn := fun _ => fun
  | [d1, d2, d3, d4] => { results := [.lit (.bool true)], args := [d1, d2, d3, d4] }
  | _ => none }
def fixMoreRow : OpenClaim := { program := "ytfpncpjdmgfkbaa", sum := "8e16242b7ed4f4e12e9bd1080a11ade80264728e045244836f76a0b9b8ec4304", func := "lariat/lariatlaw39.FixMore", spec := "fixMore", unfollowed := true, recurses := true, apart := false }
def FixMoreSaid : Prop := fixMoreRow.holds Try.pinned (OpenSpec.ofChange fixMoreSpec)

/-- ITS FALSE NEIGHBOUR: 'it returns false'. Refute it at one input. -/
def fixMoreWrong : ChangeSpec := { name := "fixMore", fn := fun _ => fun
  | [d1, d2, d3, d4] => { results := [.lit (.bool false)], args := [d1, d2, d3, d4] }
  | _ => none }
def FixMoreWrongFalsely : Prop := fixMoreRow.holds Try.pinned (OpenSpec.ofChange fixMoreWrong)

/- THE SECOND FORM. 'bulk': how many values and letters a reading holds, each counted each time it is reached (what is shared counts as often as it is met; a slice's spare places count too). A statement '..UptoSaid' is the law's where the arguments, and the package variables that the reading takes, are together of bulk at most 1048576: NARROWER than '..Said'. Prove '..Said' where nothing that the law and all that it calls make is longer than what came in: it says more and counts as full. Else prove '..UptoSaid'. A law counts once. -/
mutual
def uptoBulk {H : Type} : DataW H → Nat
  | .lit (.string bytes) => bytes.length + 1
  | .lit _ => 1
  | .nil => 1
  | .ptr d => uptoBulk d + 1
  | .slice elems spare => uptoBulkAll elems + uptoBulkAll spare + 1
  | .agg parts => uptoBulkAll parts + 1
  | .iface _ d => uptoBulk d + 1
  | .map entries => uptoBulkEntries entries + 1
  | .held _ => 1
def uptoBulkAll {H : Type} : List (DataW H) → Nat
  | [] => 0
  | d :: r => uptoBulk d + uptoBulkAll r
def uptoBulkEntries {H : Type} : List (Lit × DataW H) → Nat
  | [] => 0
  | x :: r => uptoBulkEntry x + uptoBulkEntries r
def uptoBulkEntry {H : Type} : Lit × DataW H → Nat
  | (.string bytes, d) => bytes.length + uptoBulk d + 1
  | (_, d) => uptoBulk d + 1
 end
def uptoSmall : (H : Type) → List (DataW H) → Bool := fun _ ds => decide (uptoBulkAll ds ≤ 1048576)
def OpenSpec.upto (s : _root_.Go.ChangeSpec) : _root_.Go.OpenSpec := { _root_.Go.OpenSpec.ofChange s with cond := some uptoSmall }

/-- 'lariatlaw06.GraphChecks', WHERE WHAT IT READS IS OF BULK AT MOST 1048576: true; the input reads as it did. -/
def graphChecksUptoRow : OpenClaim := { program := "ytfpncpjdmgfkbaa", sum := "8e16242b7ed4f4e12e9bd1080a11ade80264728e045244836f76a0b9b8ec4304", func := "lariat/lariatlaw06.GraphChecks", spec := "graphChecks", unfollowed := true, recurses := true, apart := false, narrowed := true }
def GraphChecksUptoSaid : Prop := graphChecksUptoRow.holds Try.pinned (OpenSpec.upto graphChecksSpec)

/-- 'lariatlaw06.GraphMany', WHERE WHAT IT READS IS OF BULK AT MOST 1048576: true; the input reads as it did. -/
def graphManyUptoRow : OpenClaim := { program := "ytfpncpjdmgfkbaa", sum := "8e16242b7ed4f4e12e9bd1080a11ade80264728e045244836f76a0b9b8ec4304", func := "lariat/lariatlaw06.GraphMany", spec := "graphMany", unfollowed := true, recurses := true, apart := false, narrowed := true }
def GraphManyUptoSaid : Prop := graphManyUptoRow.holds Try.pinned (OpenSpec.upto graphManySpec)

/-- 'lariatlaw06.GraphTurns', WHERE WHAT IT READS IS OF BULK AT MOST 1048576: true; the input reads as it did. -/
def graphTurnsUptoRow : OpenClaim := { program := "ytfpncpjdmgfkbaa", sum := "8e16242b7ed4f4e12e9bd1080a11ade80264728e045244836f76a0b9b8ec4304", func := "lariat/lariatlaw06.GraphTurns", spec := "graphTurns", unfollowed := true, recurses := true, apart := false, narrowed := true }
def GraphTurnsUptoSaid : Prop := graphTurnsUptoRow.holds Try.pinned (OpenSpec.upto graphTurnsSpec)

/-- 'lariatlaw06.GraphPaths', WHERE WHAT IT READS IS OF BULK AT MOST 1048576: true; the input reads as it did. -/
def graphPathsUptoRow : OpenClaim := { program := "ytfpncpjdmgfkbaa", sum := "8e16242b7ed4f4e12e9bd1080a11ade80264728e045244836f76a0b9b8ec4304", func := "lariat/lariatlaw06.GraphPaths", spec := "graphPaths", unfollowed := true, recurses := true, apart := false, narrowed := true }
def GraphPathsUptoSaid : Prop := graphPathsUptoRow.holds Try.pinned (OpenSpec.upto graphPathsSpec)

/-- 'lariatlaw06.GraphSteps', WHERE WHAT IT READS IS OF BULK AT MOST 1048576: true; the input reads as it did. -/
def graphStepsUptoRow : OpenClaim := { program := "ytfpncpjdmgfkbaa", sum := "8e16242b7ed4f4e12e9bd1080a11ade80264728e045244836f76a0b9b8ec4304", func := "lariat/lariatlaw06.GraphSteps", spec := "graphSteps", unfollowed := true, recurses := true, apart := false, narrowed := true }
def GraphStepsUptoSaid : Prop := graphStepsUptoRow.holds Try.pinned (OpenSpec.upto graphStepsSpec)

/-- 'lariatlaw06.GraphReaches', WHERE WHAT IT READS IS OF BULK AT MOST 1048576: true; the input reads as it did. -/
def graphReachesUptoRow : OpenClaim := { program := "ytfpncpjdmgfkbaa", sum := "8e16242b7ed4f4e12e9bd1080a11ade80264728e045244836f76a0b9b8ec4304", func := "lariat/lariatlaw06.GraphReaches", spec := "graphReaches", unfollowed := true, recurses := true, apart := false, narrowed := true }
def GraphReachesUptoSaid : Prop := graphReachesUptoRow.holds Try.pinned (OpenSpec.upto graphReachesSpec)

/-- 'lariatlaw06.GraphDuals', WHERE WHAT IT READS IS OF BULK AT MOST 1048576: true; the input reads as it did. -/
def graphDualsUptoRow : OpenClaim := { program := "ytfpncpjdmgfkbaa", sum := "8e16242b7ed4f4e12e9bd1080a11ade80264728e045244836f76a0b9b8ec4304", func := "lariat/lariatlaw06.GraphDuals", spec := "graphDuals", unfollowed := true, recurses := true, apart := false, narrowed := true }
def GraphDualsUptoSaid : Prop := graphDualsUptoRow.holds Try.pinned (OpenSpec.upto graphDualsSpec)

/-- 'lariatlaw39.FixFair', WHERE WHAT IT READS IS OF BULK AT MOST 1048576: true; the input reads as it did. -/
def fixFairUptoRow : OpenClaim := { program := "ytfpncpjdmgfkbaa", sum := "8e16242b7ed4f4e12e9bd1080a11ade80264728e045244836f76a0b9b8ec4304", func := "lariat/lariatlaw39.FixFair", spec := "fixFair", unfollowed := true, recurses := true, apart := false, narrowed := true }
def FixFairUptoSaid : Prop := fixFairUptoRow.holds Try.pinned (OpenSpec.upto fixFairSpec)

/-- 'lariatlaw39.FixLoop', WHERE WHAT IT READS IS OF BULK AT MOST 1048576: true; the input reads as it did. -/
def fixLoopUptoRow : OpenClaim := { program := "ytfpncpjdmgfkbaa", sum := "8e16242b7ed4f4e12e9bd1080a11ade80264728e045244836f76a0b9b8ec4304", func := "lariat/lariatlaw39.FixLoop", spec := "fixLoop", unfollowed := true, recurses := true, apart := false, narrowed := true }
def FixLoopUptoSaid : Prop := fixLoopUptoRow.holds Try.pinned (OpenSpec.upto fixLoopSpec)

/-- 'lariatlaw39.FixTold', WHERE WHAT IT READS IS OF BULK AT MOST 1048576: true; the input reads as it did. -/
def fixToldUptoRow : OpenClaim := { program := "ytfpncpjdmgfkbaa", sum := "8e16242b7ed4f4e12e9bd1080a11ade80264728e045244836f76a0b9b8ec4304", func := "lariat/lariatlaw39.FixTold", spec := "fixTold", unfollowed := true, recurses := true, apart := false, narrowed := true }
def FixToldUptoSaid : Prop := fixToldUptoRow.holds Try.pinned (OpenSpec.upto fixToldSpec)

/-- 'lariatlaw39.FixStays', WHERE WHAT IT READS IS OF BULK AT MOST 1048576: true; the input reads as it did. -/
def fixStaysUptoRow : OpenClaim := { program := "ytfpncpjdmgfkbaa", sum := "8e16242b7ed4f4e12e9bd1080a11ade80264728e045244836f76a0b9b8ec4304", func := "lariat/lariatlaw39.FixStays", spec := "fixStays", unfollowed := true, recurses := true, apart := false, narrowed := true }
def FixStaysUptoSaid : Prop := fixStaysUptoRow.holds Try.pinned (OpenSpec.upto fixStaysSpec)

/-- 'lariatlaw39.FixMore', WHERE WHAT IT READS IS OF BULK AT MOST 1048576: true; the input reads as it did. -/
def fixMoreUptoRow : OpenClaim := { program := "ytfpncpjdmgfkbaa", sum := "8e16242b7ed4f4e12e9bd1080a11ade80264728e045244836f76a0b9b8ec4304", func := "lariat/lariatlaw39.FixMore", spec := "fixMore", unfollowed := true, recurses := true, apart := false, narrowed := true }
def FixMoreUptoSaid : Prop := fixMoreUptoRow.holds Try.pinned (OpenSpec.upto fixMoreSpec)

end Rows
end Go.Proofs.Ytfpncpjdmgfkbaa
