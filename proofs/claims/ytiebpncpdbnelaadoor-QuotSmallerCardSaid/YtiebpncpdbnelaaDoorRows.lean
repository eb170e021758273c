/-
  NARROWER THAN 'FOR EVERY INPUT', by the rows' own cells (each row's printed sentence says how): QuotMerges: laid · QuotPrunes: laid · QuotTakes: laid · QuotSmaller: laid · AutoChecks: laid · AutoMany: laid · AutoTakes: laid · AutoTrims: laid · AutoEmpty: laid · AutoMore: laid.
  DERIVED. THE GIVEN ROWS OF THIS SEAT. 10 by the template 'for every input the law returns true; each argument reads behind the call as it read before'; 0 by the template 'total and deterministic' (their statements: YtiebpncpdbnelaaDoorTotals.lean).
  GIVEN WITH THE SEED: the statements are not yours to turn. If you find one false, say at which input.
  Laid BY PROGRAM, IN A SANDBOX (cutbox-rows.mjs): the forced cells as the released guide's own fill.sh prints them over the translation 2bb8fedfb61ac5b8… (all of the seat's roots in one cut). By AI agents, Wed Nov 11 2026. No macro, syntax, notation, axiom, sorry.
-/
import Derived.Test.YtiebpncpdbnelaaDoorChecked
import GoSem.Claim
import GoSem.ClaimJoined
import GoSem.ClaimMapViews
import Derived.JoinedTies
import Derived.KernelRfl
namespace Go.Proofs.YtiebpncpdbnelaaDoor
/- THE CELL 'sum', in the pinned program and in every row, IS THE sha256 OF THE DUMP (.gsa) THAT YtiebpncpdbnelaaDoorProg.lean LOADS. Nothing in Lean hashes anything: it is a label: what it is worth is what the hold of that sum in a sandbox is worth. -/
noncomputable def Tryd.pinned : Pinned := { name := "ytiebpncpdbnelaadoor", sum := "2bb8fedfb61ac5b80b0342a96a42274e3fd155000d3eb50dba3796e3279e2798", checked := Tryd.checked }
namespace Rows
def none {H : Type} : Left H := { results := [], args := [] }

/- WHAT THE LISTED PACKAGE-LEVEL VARIABLES READ AS WHEN THE CALL BEGINS. Each datum BY PROGRAM (the guide's laid-datum.mjs) off the statement by which the dump's own 'gosem.cut.vars' lays the variable. In a bare row this is a premise. The card (YtiebpncpdbnelaaDoorCards.lean) ties it to the program's text. -/
def laid_math_bits_deBruijn64tab {H : Type} : DataW H := .agg [.lit (.int .u8 0), .lit (.int .u8 1), .lit (.int .u8 56), .lit (.int .u8 2), .lit (.int .u8 57), .lit (.int .u8 49), .lit (.int .u8 28), .lit (.int .u8 3), .lit (.int .u8 61), .lit (.int .u8 58), .lit (.int .u8 42), .lit (.int .u8 50), .lit (.int .u8 38), .lit (.int .u8 29), .lit (.int .u8 17), .lit (.int .u8 4), .lit (.int .u8 62), .lit (.int .u8 47), .lit (.int .u8 59), .lit (.int .u8 36), .lit (.int .u8 45), .lit (.int .u8 43), .lit (.int .u8 51), .lit (.int .u8 22), .lit (.int .u8 53), .lit (.int .u8 39), .lit (.int .u8 33), .lit (.int .u8 30), .lit (.int .u8 24), .lit (.int .u8 18), .lit (.int .u8 12), .lit (.int .u8 5), .lit (.int .u8 63), .lit (.int .u8 55), .lit (.int .u8 48), .lit (.int .u8 27), .lit (.int .u8 60), .lit (.int .u8 41), .lit (.int .u8 37), .lit (.int .u8 16), .lit (.int .u8 46), .lit (.int .u8 35), .lit (.int .u8 44), .lit (.int .u8 21), .lit (.int .u8 52), .lit (.int .u8 32), .lit (.int .u8 23), .lit (.int .u8 11), .lit (.int .u8 54), .lit (.int .u8 26), .lit (.int .u8 40), .lit (.int .u8 15), .lit (.int .u8 34), .lit (.int .u8 20), .lit (.int .u8 31), .lit (.int .u8 10), .lit (.int .u8 25), .lit (.int .u8 14), .lit (.int .u8 19), .lit (.int .u8 9), .lit (.int .u8 13), .lit (.int .u8 8), .lit (.int .u8 7), .lit (.int .u8 6)]

/-- 'lariatlaw33.QuotMerges': WHATEVER THE INPUT: true; the input reads as it did. -/
def quotMergesSpec : ChangeSpec := { name := "quotMerges", fn := fun _ => fun
  | [d] => { results := [.lit (.bool true)], args := [d] }
  | _ => none }
def quotMergesRow : OpenClaim := { program := "ytiebpncpdbnelaadoor", sum := "2bb8fedfb61ac5b80b0342a96a42274e3fd155000d3eb50dba3796e3279e2798", func := "lariat/lariatlaw33.QuotMerges", spec := "quotMerges", unfollowed := true, recurses := true, named := ["math/bits.deBruijn64tab"], apart := false, laid := [("math/bits.deBruijn64tab", laid_math_bits_deBruijn64tab)] }
def QuotMergesSaid : Prop := quotMergesRow.holds Tryd.pinned (OpenSpec.ofChange quotMergesSpec)

/-- ITS FALSE NEIGHBOUR: 'it returns false'. Refute it at one input. -/
def quotMergesWrong : ChangeSpec := { name := "quotMerges", fn := fun _ => fun
  | [d] => { results := [.lit (.bool false)], args := [d] }
  | _ => none }
def QuotMergesWrongFalsely : Prop := quotMergesRow.holds Tryd.pinned (OpenSpec.ofChange quotMergesWrong)

/-- 'lariatlaw33.QuotPrunes': WHATEVER THE INPUT: true; the input reads as it did. -/
def quotPrunesSpec : ChangeSpec := { name := "quotPrunes", fn := fun _ => fun
  | [d] => { results := [.lit (.bool true)], args := [d] }
  | _ => none }
def quotPrunesRow : OpenClaim := { program := "ytiebpncpdbnelaadoor", sum := "2bb8fedfb61ac5b80b0342a96a42274e3fd155000d3eb50dba3796e3279e2798", func := "lariat/lariatlaw33.QuotPrunes", spec := "quotPrunes", unfollowed := true, recurses := true, named := ["math/bits.deBruijn64tab"], apart := false, laid := [("math/bits.deBruijn64tab", laid_math_bits_deBruijn64tab)] }
def QuotPrunesSaid : Prop := quotPrunesRow.holds Tryd.pinned (OpenSpec.ofChange quotPrunesSpec)

/-- ITS FALSE NEIGHBOUR: 'it returns false'. Refute it at one input. -/
def quotPrunesWrong : ChangeSpec := { name := "quotPrunes", fn := fun _ => fun
  | [d] => { results := [.lit (.bool false)], args := [d] }
  | _ => none }
def QuotPrunesWrongFalsely : Prop := quotPrunesRow.holds Tryd.pinned (OpenSpec.ofChange quotPrunesWrong)

/-- 'lariatlaw33.QuotTakes': WHATEVER THE INPUT: true; the input reads as it did. -/
def quotTakesSpec : ChangeSpec := { name := "quotTakes", fn := fun _ => fun
  | [d1, d2] => { results := [.lit (.bool true)], args := [d1, d2] }
  | _ => none }
def quotTakesRow : OpenClaim := { program := "ytiebpncpdbnelaadoor", sum := "2bb8fedfb61ac5b80b0342a96a42274e3fd155000d3eb50dba3796e3279e2798", func := "lariat/lariatlaw33.QuotTakes", spec := "quotTakes", unfollowed := true, recurses := true, named := ["math/bits.deBruijn64tab"], apart := false, laid := [("math/bits.deBruijn64tab", laid_math_bits_deBruijn64tab)] }
def QuotTakesSaid : Prop := quotTakesRow.holds Tryd.pinned (OpenSpec.ofChange quotTakesSpec)

/-- ITS FALSE NEIGHBOUR: 'it returns false'. Refute it at one input. -/
def quotTakesWrong : ChangeSpec := { name := "quotTakes", fn := fun _ => fun
  | [d1, d2] => { results := [.lit (.bool false)], args := [d1, d2] }
  | _ => none }
def QuotTakesWrongFalsely : Prop := quotTakesRow.holds Tryd.pinned (OpenSpec.ofChange quotTakesWrong)

/-- 'lariatlaw33.QuotSmaller': WHATEVER THE INPUT: true; the input reads as it did. -/
def quotSmallerSpec : ChangeSpec := { name := "quotSmaller", fn := fun _ => fun
  | [d] => { results := [.lit (.bool true)], args := [d] }
  | _ => none }
def quotSmallerRow : OpenClaim := { program := "ytiebpncpdbnelaadoor", sum := "2bb8fedfb61ac5b80b0342a96a42274e3fd155000d3eb50dba3796e3279e2798", func := "lariat/lariatlaw33.QuotSmaller", spec := "quotSmaller", unfollowed := true, recurses := true, named := ["math/bits.deBruijn64tab"], apart := false, laid := [("math/bits.deBruijn64tab", laid_math_bits_deBruijn64tab)] }
def QuotSmallerSaid : Prop := quotSmallerRow.holds Tryd.pinned (OpenSpec.ofChange quotSmallerSpec)

/-- ITS FALSE NEIGHBOUR: 'it returns false'. Refute it at one input. -/
def quotSmallerWrong : ChangeSpec := { name := "quotSmaller", fn := fun _ => fun
  | [d] => { results := [.lit (.bool false)], args := [d] }
  | _ => none }
def QuotSmallerWrongFalsely : Prop := quotSmallerRow.holds Tryd.pinned (OpenSpec.ofChange quotSmallerWrong)

/-- 'lariatlaw30.AutoChecks': WHATEVER THE INPUT: true; the input reads as it did. -/
def autoChecksSpec : ChangeSpec := { name := "autoChecks", fn := fun _ => fun
  | [d1, d2] => { results := [.lit (.bool true)], args := [d1, d2] }
  | _ => none }
def autoChecksRow : OpenClaim := { program := "ytiebpncpdbnelaadoor", sum := "2bb8fedfb61ac5b80b0342a96a42274e3fd155000d3eb50dba3796e3279e2798", func := "lariat/lariatlaw30.AutoChecks", spec := "autoChecks", unfollowed := true, recurses := true, named := ["math/bits.deBruijn64tab"], apart := false, laid := [("math/bits.deBruijn64tab", laid_math_bits_deBruijn64tab)] }
def AutoChecksSaid : Prop := autoChecksRow.holds Tryd.pinned (OpenSpec.ofChange autoChecksSpec)

/-- ITS FALSE NEIGHBOUR: 'it returns false'. Refute it at one input. -/
def autoChecksWrong : ChangeSpec := { name := "autoChecks", fn := fun _ => fun
  | [d1, d2] => { results := [.lit (.bool false)], args := [d1, d2] }
  | _ => none }
def AutoChecksWrongFalsely : Prop := autoChecksRow.holds Tryd.pinned (OpenSpec.ofChange autoChecksWrong)

/-- 'lariatlaw30.AutoMany': WHATEVER THE INPUT: true; the input reads as it did. -/
def autoManySpec : ChangeSpec := { name := "autoMany", fn := fun _ => fun
  | [d1, d2] => { results := [.lit (.bool true)], args := [d1, d2] }
  | _ => none }
def autoManyRow : OpenClaim := { program := "ytiebpncpdbnelaadoor", sum := "2bb8fedfb61ac5b80b0342a96a42274e3fd155000d3eb50dba3796e3279e2798", func := "lariat/lariatlaw30.AutoMany", spec := "autoMany", unfollowed := true, recurses := true, named := ["math/bits.deBruijn64tab"], apart := false, laid := [("math/bits.deBruijn64tab", laid_math_bits_deBruijn64tab)] }
def AutoManySaid : Prop := autoManyRow.holds Tryd.pinned (OpenSpec.ofChange autoManySpec)

/-- ITS FALSE NEIGHBOUR: 'it returns false'. Refute it at one input. -/
def autoManyWrong : ChangeSpec := { name := "autoMany", fn := fun _ => fun
  | [d1, d2] => { results := [.lit (.bool false)], args := [d1, d2] }
  | _ => none }
def AutoManyWrongFalsely : Prop := autoManyRow.holds Tryd.pinned (OpenSpec.ofChange autoManyWrong)

/-- 'lariatlaw30.AutoTakes': WHATEVER THE INPUT: true; the input reads as it did. -/
def autoTakesSpec : ChangeSpec := { name := "autoTakes", fn := fun _ => fun
  | [d1, d2] => { results := [.lit (.bool true)], args := [d1, d2] }
  | _ => none }
def autoTakesRow : OpenClaim := { program := "ytiebpncpdbnelaadoor", sum := "2bb8fedfb61ac5b80b0342a96a42274e3fd155000d3eb50dba3796e3279e2798", func := "lariat/lariatlaw30.AutoTakes", spec := "autoTakes", unfollowed := true, recurses := true, named := ["math/bits.deBruijn64tab"], apart := false, laid := [("math/bits.deBruijn64tab", laid_math_bits_deBruijn64tab)] }
def AutoTakesSaid : Prop := autoTakesRow.holds Tryd.pinned (OpenSpec.ofChange autoTakesSpec)

/-- ITS FALSE NEIGHBOUR: 'it returns false'. Refute it at one input. -/
def autoTakesWrong : ChangeSpec := { name := "autoTakes", fn := fun _ => fun
  | [d1, d2] => { results := [.lit (.bool false)], args := [d1, d2] }
  | _ => none }
def AutoTakesWrongFalsely : Prop := autoTakesRow.holds Tryd.pinned (OpenSpec.ofChange autoTakesWrong)

/-- 'lariatlaw30.AutoTrims': WHATEVER THE INPUT: true; the input reads as it did. -/
def autoTrimsSpec : ChangeSpec := { name := "autoTrims", fn := fun _ => fun
  | [d1, d2] => { results := [.lit (.bool true)], args := [d1, d2] }
  | _ => none }
def autoTrimsRow : OpenClaim := { program := "ytiebpncpdbnelaadoor", sum := "2bb8fedfb61ac5b80b0342a96a42274e3fd155000d3eb50dba3796e3279e2798", func := "lariat/lariatlaw30.AutoTrims", spec := "autoTrims", unfollowed := true, recurses := true, named := ["math/bits.deBruijn64tab"], apart := false, laid := [("math/bits.deBruijn64tab", laid_math_bits_deBruijn64tab)] }
def AutoTrimsSaid : Prop := autoTrimsRow.holds Tryd.pinned (OpenSpec.ofChange autoTrimsSpec)

/-- ITS FALSE NEIGHBOUR: 'it returns false'. Refute it at one input. -/
def autoTrimsWrong : ChangeSpec := { name := "autoTrims", fn := fun _ => fun
  | [d1, d2] => { results := [.lit (.bool false)], args := [d1, d2] }
  | _ => none }
def AutoTrimsWrongFalsely : Prop := autoTrimsRow.holds Tryd.pinned (OpenSpec.ofChange autoTrimsWrong)

/-- 'lariatlaw30.AutoEmpty': WHATEVER THE INPUT: true; the input reads as it did. -/
def autoEmptySpec : ChangeSpec := { name := "autoEmpty", fn := fun _ => fun
  | [d] => { results := [.lit (.bool true)], args := [d] }
  | _ => none }
def autoEmptyRow : OpenClaim := { program := "ytiebpncpdbnelaadoor", sum := "2bb8fedfb61ac5b80b0342a96a42274e3fd155000d3eb50dba3796e3279e2798", func := "lariat/lariatlaw30.AutoEmpty", spec := "autoEmpty", unfollowed := true, recurses := true, named := ["math/bits.deBruijn64tab"], apart := false, laid := [("math/bits.deBruijn64tab", laid_math_bits_deBruijn64tab)] }
def AutoEmptySaid : Prop := autoEmptyRow.holds Tryd.pinned (OpenSpec.ofChange autoEmptySpec)

/-- ITS FALSE NEIGHBOUR: 'it returns false'. Refute it at one input. -/
def autoEmptyWrong : ChangeSpec := { name := "autoEmpty", fn := fun _ => fun
  | [d] => { results := [.lit (.bool false)], args := [d] }
  | _ => none }
def AutoEmptyWrongFalsely : Prop := autoEmptyRow.holds Tryd.pinned (OpenSpec.ofChange autoEmptyWrong)

/-- 'lariatlaw30.AutoMore': WHATEVER THE INPUT: true; the input reads as it did. -/
def autoMoreSpec : ChangeSpec := { name := "autoMore", fn := fun _ => fun
  | [d1, d2, d3] => { results := [.lit (.bool true)], args := [d1, d2, d3] }
  | _ => none }
def autoMoreRow : OpenClaim := { program := "ytiebpncpdbnelaadoor", sum := "2bb8fedfb61ac5b80b0342a96a42274e3fd155000d3eb50dba3796e3279e2798", func := "lariat/lariatlaw30.AutoMore", spec := "autoMore", unfollowed := true, recurses := true, named := ["math/bits.deBruijn64tab"], apart := false, laid := [("math/bits.deBruijn64tab", laid_math_bits_deBruijn64tab)] }
def AutoMoreSaid : Prop := autoMoreRow.holds Tryd.pinned (OpenSpec.ofChange autoMoreSpec)

/-- ITS FALSE NEIGHBOUR: 'it returns false'. Refute it at one input. -/
def autoMoreWrong : ChangeSpec := { name := "autoMore", fn := fun _ => fun
  | [d1, d2, d3] => { results := [.lit (.bool false)], args := [d1, d2, d3] }
  | _ => none }
def AutoMoreWrongFalsely : Prop := autoMoreRow.holds Tryd.pinned (OpenSpec.ofChange autoMoreWrong)

/- THE SECOND FORM. 'bulk': how many values and letters a reading holds, each counted each time it is reached (what is shared counts as often as it is met; a slice's spare places count too). A statement '..UptoSaid' is the law's where the arguments, and the package variables that the reading takes, are together of bulk at most 1048576: NARROWER than '..Said'. Prove '..Said' where nothing that the law and all that it calls make is longer than what came in: it says more and counts as full. Else prove '..UptoSaid'. A law counts once. -/
mutual
def uptoBulk {H : Type} : DataW H → Nat
  | .lit (.string bytes) => bytes.length + 1
  | .lit _ => 1
  | .nil => 1
  | .ptr d => uptoBulk d + 1
  | .slice elems spare => uptoBulkAll elems + uptoBulkAll spare + 1
  | .agg parts => uptoBulkAll parts + 1
  | .iface _ d => uptoBulk d + 1
  | .map entries => uptoBulkEntries entries + 1
  | .held _ => 1
def uptoBulkAll {H : Type} : List (DataW H) → Nat
  | [] => 0
  | d :: r => uptoBulk d + uptoBulkAll r
def uptoBulkEntries {H : Type} : List (Lit × DataW H) → Nat
  | [] => 0
  | x :: r => uptoBulkEntry x + uptoBulkEntries r
def uptoBulkEntry {H : Type} : Lit × DataW H → Nat
  | (.string bytes, d) => bytes.length + uptoBulk d + 1
  | (_, d) => uptoBulk d + 1
 end
def uptoSmall : (H : Type) → List (DataW H) → Bool := fun _ ds => decide (uptoBulkAll ds ≤ 1048576)
def OpenSpec.upto (s : _root_.Go.ChangeSpec) : _root_.Go.OpenSpec := { _root_.Go.OpenSpec.ofChange s with cond := some uptoSmall }

/-- 'lariatlaw33.QuotMerges', WHERE WHAT IT READS IS OF BULK AT MOST 1048576: true; the input reads as it did. -/
def quotMergesUptoRow : OpenClaim := { program := "ytiebpncpdbnelaadoor", sum := "2bb8fedfb61ac5b80b0342a96a42274e3fd155000d3eb50dba3796e3279e2798", func := "lariat/lariatlaw33.QuotMerges", spec := "quotMerges", unfollowed := true, recurses := true, named := ["math/bits.deBruijn64tab"], apart := false, laid := [("math/bits.deBruijn64tab", laid_math_bits_deBruijn64tab)], narrowed := true }
def QuotMergesUptoSaid : Prop := quotMergesUptoRow.holds Tryd.pinned (OpenSpec.upto quotMergesSpec)

/-- 'lariatlaw33.QuotPrunes', WHERE WHAT IT READS IS OF BULK AT MOST 1048576: true; the input reads as it did. -/
def quotPrunesUptoRow : OpenClaim := { program := "ytiebpncpdbnelaadoor", sum := "2bb8fedfb61ac5b80b0342a96a42274e3fd155000d3eb50dba3796e3279e2798", func := "lariat/lariatlaw33.QuotPrunes", spec := "quotPrunes", unfollowed := true, recurses := true, named := ["math/bits.deBruijn64tab"], apart := false, laid := [("math/bits.deBruijn64tab", laid_math_bits_deBruijn64tab)], narrowed := true }
def QuotPrunesUptoSaid : Prop := quotPrunesUptoRow.holds Tryd.pinned (OpenSpec.upto quotPrunesSpec)

/-- 'lariatlaw33.QuotTakes', WHERE WHAT IT READS IS OF BULK AT MOST 1048576: true; the input reads as it did. -/
def quotTakesUptoRow : OpenClaim := { program := "ytiebpncpdbnelaadoor", sum := "2bb8fedfb61ac5b80b0342a96a42274e3fd155000d3eb50dba3796e3279e2798", func := "lariat/lariatlaw33.QuotTakes", spec := "quotTakes", unfollowed := true, recurses := true, named := ["math/bits.deBruijn64tab"], apart := false, laid := [("math/bits.deBruijn64tab", laid_math_bits_deBruijn64tab)], narrowed := true }
def QuotTakesUptoSaid : Prop := quotTakesUptoRow.holds Tryd.pinned (OpenSpec.upto quotTakesSpec)

/-- 'lariatlaw33.QuotSmaller', WHERE WHAT IT READS IS OF BULK AT MOST 1048576: true; the input reads as it did. -/
def quotSmallerUptoRow : OpenClaim := { program := "ytiebpncpdbnelaadoor", sum := "2bb8fedfb61ac5b80b0342a96a42274e3fd155000d3eb50dba3796e3279e2798", func := "lariat/lariatlaw33.QuotSmaller", spec := "quotSmaller", unfollowed := true, recurses := true, named := ["math/bits.deBruijn64tab"], apart := false, laid := [("math/bits.deBruijn64tab", laid_math_bits_deBruijn64tab)], narrowed := true }
def QuotSmallerUptoSaid : Prop := quotSmallerUptoRow.holds Tryd.pinned (OpenSpec.upto quotSmallerSpec)

/-- 'lariatlaw30.AutoChecks', WHERE WHAT IT READS IS OF BULK AT MOST 1048576: true; the input reads as it did. -/
def autoChecksUptoRow : OpenClaim := { program := "ytiebpncpdbnelaadoor", sum := "2bb8fedfb61ac5b80b0342a96a42274e3fd155000d3eb50dba3796e3279e2798", func := "lariat/lariatlaw30.AutoChecks", spec := "autoChecks", unfollowed := true, recurses := true, named := ["math/bits.deBruijn64tab"], apart := false, laid := [("math/bits.deBruijn64tab", laid_math_bits_deBruijn64tab)], narrowed := true }
def AutoChecksUptoSaid : Prop := autoChecksUptoRow.holds Tryd.pinned (OpenSpec.upto autoChecksSpec)

/-- 'lariatlaw30.AutoMany', WHERE WHAT IT READS IS OF BULK AT MOST 1048576: true; the input reads as it did. -/
def autoManyUptoRow : OpenClaim := { program := "ytiebpncpdbnelaadoor", sum := "2bb8fedfb61ac5b80b0342a96a42274e3fd155000d3eb50dba3796e3279e2798", func := "lariat/lariatlaw30.AutoMany", spec := "autoMany", unfollowed := true, recurses := true, named := ["math/bits.deBruijn64tab"], apart := false, laid := [("math/bits.deBruijn64tab", laid_math_bits_deBruijn64tab)], narrowed := true }
def AutoManyUptoSaid : Prop := autoManyUptoRow.holds Tryd.pinned (OpenSpec.upto autoManySpec)

/-- 'lariatlaw30.AutoTakes', WHERE WHAT IT READS IS OF BULK AT MOST 1048576: true; the input reads as it did. -/
def autoTakesUptoRow : OpenClaim := { program := "ytiebpncpdbnelaadoor", sum := "2bb8fedfb61ac5b80b0342a96a42274e3fd155000d3eb50dba3796e3279e2798", func := "lariat/lariatlaw30.AutoTakes", spec := "autoTakes", unfollowed := true, recurses := true, named := ["math/bits.deBruijn64tab"], apart := false, laid := [("math/bits.deBruijn64tab", laid_math_bits_deBruijn64tab)], narrowed := true }
def AutoTakesUptoSaid : Prop := autoTakesUptoRow.holds Tryd.pinned (OpenSpec.upto autoTakesSpec)

/-- 'lariatlaw30.AutoTrims', WHERE WHAT IT READS IS OF BULK AT MOST 1048576: true; the input reads as it did. -/
def autoTrimsUptoRow : OpenClaim := { program := "ytiebpncpdbnelaadoor", sum := "2bb8fedfb61ac5b80b0342a96a42274e3fd155000d3eb50dba3796e3279e2798", func := "lariat/lariatlaw30.AutoTrims", spec := "autoTrims", unfollowed := true, recurses := true, named := ["math/bits.deBruijn64tab"], apart := false, laid := [("math/bits.deBruijn64tab", laid_math_bits_deBruijn64tab)], narrowed := true }
def AutoTrimsUptoSaid : Prop := autoTrimsUptoRow.holds Tryd.pinned (OpenSpec.upto autoTrimsSpec)

/-- 'lariatlaw30.AutoEmpty', WHERE WHAT IT READS IS OF BULK AT MOST 1048576: true; the input reads as it did. -/
def autoEmptyUptoRow : OpenClaim := { program := "ytiebpncpdbnelaadoor", sum := "2bb8fedfb61ac5b80b0342a96a42274e3fd155000d3eb50dba3796e3279e2798", func := "lariat/lariatlaw30.AutoEmpty", spec := "autoEmpty", unfollowed := true, recurses := true, named := ["math/bits.deBruijn64tab"], apart := false, laid := [("math/bits.deBruijn64tab", laid_math_bits_deBruijn64tab)], narrowed := true }
def AutoEmptyUptoSaid : Prop := autoEmptyUptoRow.holds Tryd.pinned (OpenSpec.upto autoEmptySpec)

/-- 'lariatlaw30.AutoMore', WHERE WHAT IT READS IS OF BULK AT MOST 1048576: true; the input reads as it did. -/
def autoMoreUptoRow : OpenClaim := { program := "ytiebpncpdbnelaadoor", sum := "2bb8fedfb61ac5b80b0342a96a42274e3fd155000d3eb50dba3796e3279e2798", func := "lariat/lariatlaw30.AutoMore", spec := "autoMore", unfollowed := true, recurses := true, named := ["math/bits.deBruijn64tab"], apart := false, laid := [("math/bits.deBruijn64tab", laid_math_bits_deBruijn64tab)], narrowed := true }
def AutoMoreUptoSaid : Prop := autoMoreUptoRow.holds Tryd.pinned (OpenSpec.upto autoMoreSpec)

end Rows
end Go.Proofs.YtiebpncpdbnelaaDoor
