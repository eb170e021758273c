/-
  No cell of these rows narrows 'for every input' (looked for: loops, veiled, ifaces, maps, wideKeys, modest, calm, conditions, laid).
  DERIVED. THE GIVEN ROWS OF THIS SEAT. 11 by the template 'for every input the law returns true; each argument reads behind the call as it read before'; 0 by the template 'total and deterministic' (their statements: YtedohmcnjlhdnaaTotals.lean).
  GIVEN WITH THE SEED: the statements are not yours to turn. If you find one false, say at which input.
  Laid BY PROGRAM, IN A SANDBOX (cutbox-rows.mjs): the forced cells as the released guide's own fill.sh prints them over the translation 0271ded7c4485d33… (all of the seat's roots in one cut). By AI agents, Wed Nov 11 2026. No macro, syntax, notation, axiom, sorry.
-/
import Derived.Test.YtedohmcnjlhdnaaChecked
import GoSem.Claim
import GoSem.ClaimJoined
import GoSem.ClaimMapViews
import Derived.JoinedTies
import Derived.KernelRfl
namespace Go.Proofs.Ytedohmcnjlhdnaa
/- THE CELL 'sum', in the pinned program and in every row, IS THE sha256 OF THE DUMP (.gsa) THAT YtedohmcnjlhdnaaProg.lean LOADS. Nothing in Lean hashes anything: it is a label: what it is worth is what the hold of that sum in a sandbox is worth. -/
noncomputable def Try.pinned : Pinned := { name := "ytedohmcnjlhdnaa", sum := "0271ded7c4485d339af1910d5933790e93e083566b8b4043a56c23399e3ec508", checked := Try.checked }
namespace Rows
def none {H : Type} : Left H := { results := [], args := [] }

/-- 'lariatlaw25.NnfIs': WHATEVER THE INPUT: true; the input reads as it did. -/
def nnfIsSpec : ChangeSpec := { name := "nnfIs", fn := fun _ => fun
  | [d] => { results := [.lit (.bool true)], args := [d] }
  | _ => none }
def nnfIsRow : OpenClaim := { program := "ytedohmcnjlhdnaa", sum := "0271ded7c4485d339af1910d5933790e93e083566b8b4043a56c23399e3ec508", func := "lariat/lariatlaw25.NnfIs", spec := "nnfIs", unfollowed := true, recurses := true, plainKeys := false, apart := false }
def NnfIsSaid : Prop := nnfIsRow.holds Try.pinned (OpenSpec.ofChange nnfIsSpec)

/-- ITS FALSE NEIGHBOUR: 'it returns false'. Refute it at one input. -/
def nnfIsWrong : ChangeSpec := { name := "nnfIs", fn := fun _ => fun
  | [d] => { results := [.lit (.bool false)], args := [d] }
  | _ => none }
def NnfIsWrongFalsely : Prop := nnfIsRow.holds Try.pinned (OpenSpec.ofChange nnfIsWrong)

/-- 'lariatlaw25.NnfPlaces': WHATEVER THE INPUT: true; the input reads as it did. -/
def nnfPlacesSpec : ChangeSpec := { name := "nnfPlaces", fn := fun _ => fun
  | [d1, d2] => { results := [.lit (.bool true)], args := [d1, d2] }
  | _ => none }
def nnfPlacesRow : OpenClaim := { program := "ytedohmcnjlhdnaa", sum := "0271ded7c4485d339af1910d5933790e93e083566b8b4043a56c23399e3ec508", func := "lariat/lariatlaw25.NnfPlaces", spec := "nnfPlaces", unfollowed := true, recurses := true, plainKeys := false, apart := false }
def NnfPlacesSaid : Prop := nnfPlacesRow.holds Try.pinned (OpenSpec.ofChange nnfPlacesSpec)

/-- ITS FALSE NEIGHBOUR: 'it returns false'. Refute it at one input. -/
def nnfPlacesWrong : ChangeSpec := { name := "nnfPlaces", fn := fun _ => fun
  | [d1, d2] => { results := [.lit (.bool false)], args := [d1, d2] }
  | _ => none }
def NnfPlacesWrongFalsely : Prop := nnfPlacesRow.holds Try.pinned (OpenSpec.ofChange nnfPlacesWrong)

/-- 'lariatlaw25.NnfOf': WHATEVER THE INPUT: true; the input reads as it did. -/
def nnfOfSpec : ChangeSpec := { name := "nnfOf", fn := fun _ => fun
  | [d] => { results := [.lit (.bool true)], args := [d] }
  | _ => none }
def nnfOfRow : OpenClaim := { program := "ytedohmcnjlhdnaa", sum := "0271ded7c4485d339af1910d5933790e93e083566b8b4043a56c23399e3ec508", func := "lariat/lariatlaw25.NnfOf", spec := "nnfOf", unfollowed := true, recurses := true, plainKeys := false, apart := false }
def NnfOfSaid : Prop := nnfOfRow.holds Try.pinned (OpenSpec.ofChange nnfOfSpec)

/-- ITS FALSE NEIGHBOUR: 'it returns false'. Refute it at one input. -/
def nnfOfWrong : ChangeSpec := { name := "nnfOf", fn := fun _ => fun
  | [d] => { results := [.lit (.bool false)], args := [d] }
  | _ => none }
def NnfOfWrongFalsely : Prop := nnfOfRow.holds Try.pinned (OpenSpec.ofChange nnfOfWrong)

/-- 'lariatlaw25.NnfStays': WHATEVER THE INPUT: true; the input reads as it did. -/
def nnfStaysSpec : ChangeSpec := { name := "nnfStays", fn := fun _ => fun
  | [d] => { results := [.lit (.bool true)], args := [d] }
  | _ => none }
def nnfStaysRow : OpenClaim := { program := "ytedohmcnjlhdnaa", sum := "0271ded7c4485d339af1910d5933790e93e083566b8b4043a56c23399e3ec508", func := "lariat/lariatlaw25.NnfStays", spec := "nnfStays", unfollowed := true, recurses := true, plainKeys := false, apart := false }
def NnfStaysSaid : Prop := nnfStaysRow.holds Try.pinned (OpenSpec.ofChange nnfStaysSpec)

/-- ITS FALSE NEIGHBOUR: 'it returns false'. Refute it at one input. -/
def nnfStaysWrong : ChangeSpec := { name := "nnfStays", fn := fun _ => fun
  | [d] => { results := [.lit (.bool false)], args := [d] }
  | _ => none }
def NnfStaysWrongFalsely : Prop := nnfStaysRow.holds Try.pinned (OpenSpec.ofChange nnfStaysWrong)

/-- 'lariatlaw25.NnfWords': WHATEVER THE INPUT: true; the input reads as it did. -/
def nnfWordsSpec : ChangeSpec := { name := "nnfWords", fn := fun _ => fun
  | [d1, d2] => { results := [.lit (.bool true)], args := [d1, d2] }
  | _ => none }
def nnfWordsRow : OpenClaim := { program := "ytedohmcnjlhdnaa", sum := "0271ded7c4485d339af1910d5933790e93e083566b8b4043a56c23399e3ec508", func := "lariat/lariatlaw25.NnfWords", spec := "nnfWords", unfollowed := true, recurses := true, plainKeys := false, apart := false }
def NnfWordsSaid : Prop := nnfWordsRow.holds Try.pinned (OpenSpec.ofChange nnfWordsSpec)

/-- ITS FALSE NEIGHBOUR: 'it returns false'. Refute it at one input. -/
def nnfWordsWrong : ChangeSpec := { name := "nnfWords", fn := fun _ => fun
  | [d1, d2] => { results := [.lit (.bool false)], args := [d1, d2] }
  | _ => none }
def NnfWordsWrongFalsely : Prop := nnfWordsRow.holds Try.pinned (OpenSpec.ofChange nnfWordsWrong)

/-- 'lariatlaw25.NnfNots': WHATEVER THE INPUT: true; the input reads as it did. -/
def nnfNotsSpec : ChangeSpec := { name := "nnfNots", fn := fun _ => fun
  | [d] => { results := [.lit (.bool true)], args := [d] }
  | _ => none }
def nnfNotsRow : OpenClaim := { program := "ytedohmcnjlhdnaa", sum := "0271ded7c4485d339af1910d5933790e93e083566b8b4043a56c23399e3ec508", func := "lariat/lariatlaw25.NnfNots", spec := "nnfNots", unfollowed := true, recurses := true, plainKeys := false, apart := false }
def NnfNotsSaid : Prop := nnfNotsRow.holds Try.pinned (OpenSpec.ofChange nnfNotsSpec)

/-- ITS FALSE NEIGHBOUR: 'it returns false'. Refute it at one input. -/
def nnfNotsWrong : ChangeSpec := { name := "nnfNots", fn := fun _ => fun
  | [d] => { results := [.lit (.bool false)], args := [d] }
  | _ => none }
def NnfNotsWrongFalsely : Prop := nnfNotsRow.holds Try.pinned (OpenSpec.ofChange nnfNotsWrong)

/-- 'lariatlaw28.CoverOf': WHATEVER THE INPUT: true; the input reads as it did. -/
def coverOfSpec : ChangeSpec := { name := "coverOf", fn := fun _ => fun
  | [d1, d2] => { results := [.lit (.bool true)], args := [d1, d2] }
  | _ => none }
def coverOfRow : OpenClaim := { program := "ytedohmcnjlhdnaa", sum := "0271ded7c4485d339af1910d5933790e93e083566b8b4043a56c23399e3ec508", func := "lariat/lariatlaw28.CoverOf", spec := "coverOf", unfollowed := true, recurses := true, plainKeys := false, apart := false }
def CoverOfSaid : Prop := coverOfRow.holds Try.pinned (OpenSpec.ofChange coverOfSpec)

/-- ITS FALSE NEIGHBOUR: 'it returns false'. Refute it at one input. -/
def coverOfWrong : ChangeSpec := { name := "coverOf", fn := fun _ => fun
  | [d1, d2] => { results := [.lit (.bool false)], args := [d1, d2] }
  | _ => none }
def CoverOfWrongFalsely : Prop := coverOfRow.holds Try.pinned (OpenSpec.ofChange coverOfWrong)

/-- 'lariatlaw28.CoverMeets': WHATEVER THE INPUT: true; the input reads as it did. -/
def coverMeetsSpec : ChangeSpec := { name := "coverMeets", fn := fun _ => fun
  | [d1, d2] => { results := [.lit (.bool true)], args := [d1, d2] }
  | _ => none }
def coverMeetsRow : OpenClaim := { program := "ytedohmcnjlhdnaa", sum := "0271ded7c4485d339af1910d5933790e93e083566b8b4043a56c23399e3ec508", func := "lariat/lariatlaw28.CoverMeets", spec := "coverMeets", unfollowed := true, recurses := true, plainKeys := false, apart := false }
def CoverMeetsSaid : Prop := coverMeetsRow.holds Try.pinned (OpenSpec.ofChange coverMeetsSpec)

/-- ITS FALSE NEIGHBOUR: 'it returns false'. Refute it at one input. -/
def coverMeetsWrong : ChangeSpec := { name := "coverMeets", fn := fun _ => fun
  | [d1, d2] => { results := [.lit (.bool false)], args := [d1, d2] }
  | _ => none }
def CoverMeetsWrongFalsely : Prop := coverMeetsRow.holds Try.pinned (OpenSpec.ofChange coverMeetsWrong)

/-- 'lariatlaw28.CoverWords': WHATEVER THE INPUT: true; the input reads as it did. -/
def coverWordsSpec : ChangeSpec := { name := "coverWords", fn := fun _ => fun
  | [d1, d2, d3] => { results := [.lit (.bool true)], args := [d1, d2, d3] }
  | _ => none }
def coverWordsRow : OpenClaim := { program := "ytedohmcnjlhdnaa", sum := "0271ded7c4485d339af1910d5933790e93e083566b8b4043a56c23399e3ec508", func := "lariat/lariatlaw28.CoverWords", spec := "coverWords", unfollowed := true, recurses := true, plainKeys := false, apart := false }
def CoverWordsSaid : Prop := coverWordsRow.holds Try.pinned (OpenSpec.ofChange coverWordsSpec)

/-- ITS FALSE NEIGHBOUR: 'it returns false'. Refute it at one input. -/
def coverWordsWrong : ChangeSpec := { name := "coverWords", fn := fun _ => fun
  | [d1, d2, d3] => { results := [.lit (.bool false)], args := [d1, d2, d3] }
  | _ => none }
def CoverWordsWrongFalsely : Prop := coverWordsRow.holds Try.pinned (OpenSpec.ofChange coverWordsWrong)

/-- 'lariatlaw28.CoverRises': WHATEVER THE INPUT: true; the input reads as it did. -/
def coverRisesSpec : ChangeSpec := { name := "coverRises", fn := fun _ => fun
  | [d1, d2] => { results := [.lit (.bool true)], args := [d1, d2] }
  | _ => none }
def coverRisesRow : OpenClaim := { program := "ytedohmcnjlhdnaa", sum := "0271ded7c4485d339af1910d5933790e93e083566b8b4043a56c23399e3ec508", func := "lariat/lariatlaw28.CoverRises", spec := "coverRises", unfollowed := true, recurses := true, plainKeys := false, apart := false }
def CoverRisesSaid : Prop := coverRisesRow.holds Try.pinned (OpenSpec.ofChange coverRisesSpec)

/-- ITS FALSE NEIGHBOUR: 'it returns false'. Refute it at one input. -/
def coverRisesWrong : ChangeSpec := { name := "coverRises", fn := fun _ => fun
  | [d1, d2] => { results := [.lit (.bool false)], args := [d1, d2] }
  | _ => none }
def CoverRisesWrongFalsely : Prop := coverRisesRow.holds Try.pinned (OpenSpec.ofChange coverRisesWrong)

/-- 'lariatlaw28.CoverOnce': WHATEVER THE INPUT: true; the input reads as it did. -/
def coverOnceSpec : ChangeSpec := { name := "coverOnce", fn := fun _ => fun
  | [d1, d2] => { results := [.lit (.bool true)], args := [d1, d2] }
  | _ => none }
def coverOnceRow : OpenClaim := { program := "ytedohmcnjlhdnaa", sum := "0271ded7c4485d339af1910d5933790e93e083566b8b4043a56c23399e3ec508", func := "lariat/lariatlaw28.CoverOnce", spec := "coverOnce", unfollowed := true, recurses := true, plainKeys := false, apart := false }
def CoverOnceSaid : Prop := coverOnceRow.holds Try.pinned (OpenSpec.ofChange coverOnceSpec)

/-- ITS FALSE NEIGHBOUR: 'it returns false'. Refute it at one input. -/
def coverOnceWrong : ChangeSpec := { name := "coverOnce", fn := fun _ => fun
  | [d1, d2] => { results := [.lit (.bool false)], args := [d1, d2] }
  | _ => none }
def CoverOnceWrongFalsely : Prop := coverOnceRow.holds Try.pinned (OpenSpec.ofChange coverOnceWrong)

/- THE SECOND FORM. 'bulk': how many values and letters a reading holds, each counted each time it is reached (what is shared counts as often as it is met; a slice's spare places count too). A statement '..UptoSaid' is the law's where the arguments, and the package variables that the reading takes, are together of bulk at most 1048576: NARROWER than '..Said'. Prove '..Said' where nothing that the law and all that it calls make is longer than what came in: it says more and counts as full. Else prove '..UptoSaid'. A law counts once. -/
mutual
def uptoBulk {H : Type} : DataW H → Nat
  | .lit (.string bytes) => bytes.length + 1
  | .lit _ => 1
  | .nil => 1
  | .ptr d => uptoBulk d + 1
  | .slice elems spare => uptoBulkAll elems + uptoBulkAll spare + 1
  | .agg parts => uptoBulkAll parts + 1
  | .iface _ d => uptoBulk d + 1
  | .map entries => uptoBulkEntries entries + 1
  | .held _ => 1
def uptoBulkAll {H : Type} : List (DataW H) → Nat
  | [] => 0
  | d :: r => uptoBulk d + uptoBulkAll r
def uptoBulkEntries {H : Type} : List (Lit × DataW H) → Nat
  | [] => 0
  | x :: r => uptoBulkEntry x + uptoBulkEntries r
def uptoBulkEntry {H : Type} : Lit × DataW H → Nat
  | (.string bytes, d) => bytes.length + uptoBulk d + 1
  | (_, d) => uptoBulk d + 1
 end
def uptoSmall : (H : Type) → List (DataW H) → Bool := fun _ ds => decide (uptoBulkAll ds ≤ 1048576)
def OpenSpec.upto (s : _root_.Go.ChangeSpec) : _root_.Go.OpenSpec := { _root_.Go.OpenSpec.ofChange s with cond := some uptoSmall }

/-- 'lariatlaw25.NnfIs', WHERE WHAT IT READS IS OF BULK AT MOST 1048576: true; the input reads as it did. -/
def nnfIsUptoRow : OpenClaim := { program := "ytedohmcnjlhdnaa", sum := "0271ded7c4485d339af1910d5933790e93e083566b8b4043a56c23399e3ec508", func := "lariat/lariatlaw25.NnfIs", spec := "nnfIs", unfollowed := true, recurses := true, plainKeys := false, apart := false, narrowed := true }
def NnfIsUptoSaid : Prop := nnfIsUptoRow.holds Try.pinned (OpenSpec.upto nnfIsSpec)

/-- 'lariatlaw25.NnfPlaces', WHERE WHAT IT READS IS OF BULK AT MOST 1048576: true; the input reads as it did. -/
def nnfPlacesUptoRow : OpenClaim := { program := "ytedohmcnjlhdnaa", sum := "0271ded7c4485d339af1910d5933790e93e083566b8b4043a56c23399e3ec508", func := "lariat/lariatlaw25.NnfPlaces", spec := "nnfPlaces", unfollowed := true, recurses := true, plainKeys := false, apart := false, narrowed := true }
def NnfPlacesUptoSaid : Prop := nnfPlacesUptoRow.holds Try.pinned (OpenSpec.upto nnfPlacesSpec)

/-- 'lariatlaw25.NnfOf', WHERE WHAT IT READS IS OF BULK AT MOST 1048576: true; the input reads as it did. -/
def nnfOfUptoRow : OpenClaim := { program := "ytedohmcnjlhdnaa", sum := "0271ded7c4485d339af1910d5933790e93e083566b8b4043a56c23399e3ec508", func := "lariat/lariatlaw25.NnfOf", spec := "nnfOf", unfollowed := true, recurses := true, plainKeys := false, apart := false, narrowed := true }
def NnfOfUptoSaid : Prop := nnfOfUptoRow.holds Try.pinned (OpenSpec.upto nnfOfSpec)

/-- 'lariatlaw25.NnfStays', WHERE WHAT IT READS IS OF BULK AT MOST 1048576: true; the input reads as it did. -/
def nnfStaysUptoRow : OpenClaim := { program := "ytedohmcnjlhdnaa", sum := "0271ded7c4485d339af1910d5933790e93e083566b8b4043a56c23399e3ec508", func := "lariat/lariatlaw25.NnfStays", spec := "nnfStays", unfollowed := true, recurses := true, plainKeys := false, apart := false, narrowed := true }
def NnfStaysUptoSaid : Prop := nnfStaysUptoRow.holds Try.pinned (OpenSpec.upto nnfStaysSpec)

/-- 'lariatlaw25.NnfWords', WHERE WHAT IT READS IS OF BULK AT MOST 1048576: true; the input reads as it did. -/
def nnfWordsUptoRow : OpenClaim := { program := "ytedohmcnjlhdnaa", sum := "0271ded7c4485d339af1910d5933790e93e083566b8b4043a56c23399e3ec508", func := "lariat/lariatlaw25.NnfWords", spec := "nnfWords", unfollowed := true, recurses := true, plainKeys := false, apart := false, narrowed := true }
def NnfWordsUptoSaid : Prop := nnfWordsUptoRow.holds Try.pinned (OpenSpec.upto nnfWordsSpec)

/-- 'lariatlaw25.NnfNots', WHERE WHAT IT READS IS OF BULK AT MOST 1048576: true; the input reads as it did. -/
def nnfNotsUptoRow : OpenClaim := { program := "ytedohmcnjlhdnaa", sum := "0271ded7c4485d339af1910d5933790e93e083566b8b4043a56c23399e3ec508", func := "lariat/lariatlaw25.NnfNots", spec := "nnfNots", unfollowed := true, recurses := true, plainKeys := false, apart := false, narrowed := true }
def NnfNotsUptoSaid : Prop := nnfNotsUptoRow.holds Try.pinned (OpenSpec.upto nnfNotsSpec)

/-- 'lariatlaw28.CoverOf', WHERE WHAT IT READS IS OF BULK AT MOST 1048576: true; the input reads as it did. -/
def coverOfUptoRow : OpenClaim := { program := "ytedohmcnjlhdnaa", sum := "0271ded7c4485d339af1910d5933790e93e083566b8b4043a56c23399e3ec508", func := "lariat/lariatlaw28.CoverOf", spec := "coverOf", unfollowed := true, recurses := true, plainKeys := false, apart := false, narrowed := true }
def CoverOfUptoSaid : Prop := coverOfUptoRow.holds Try.pinned (OpenSpec.upto coverOfSpec)

/-- 'lariatlaw28.CoverMeets', WHERE WHAT IT READS IS OF BULK AT MOST 1048576: true; the input reads as it did. -/
def coverMeetsUptoRow : OpenClaim := { program := "ytedohmcnjlhdnaa", sum := "0271ded7c4485d339af1910d5933790e93e083566b8b4043a56c23399e3ec508", func := "lariat/lariatlaw28.CoverMeets", spec := "coverMeets", unfollowed := true, recurses := true, plainKeys := false, apart := false, narrowed := true }
def CoverMeetsUptoSaid : Prop := coverMeetsUptoRow.holds Try.pinned (OpenSpec.upto coverMeetsSpec)

/-- 'lariatlaw28.CoverWords', WHERE WHAT IT READS IS OF BULK AT MOST 1048576: true; the input reads as it did. -/
def coverWordsUptoRow : OpenClaim := { program := "ytedohmcnjlhdnaa", sum := "0271ded7c4485d339af1910d5933790e93e083566b8b4043a56c23399e3ec508", func := "lariat/lariatlaw28.CoverWords", spec := "coverWords", unfollowed := true, recurses := true, plainKeys := false, apart := false, narrowed := true }
def CoverWordsUptoSaid : Prop := coverWordsUptoRow.holds Try.pinned (OpenSpec.upto coverWordsSpec)

/-- 'lariatlaw28.CoverRises', WHERE WHAT IT READS IS OF BULK AT MOST 1048576: true; the input reads as it did. -/
def coverRisesUptoRow : OpenClaim := { program := "ytedohmcnjlhdnaa", sum := "0271ded7c4485d339af1910d5933790e93e083566b8b4043a56c23399e3ec508", func := "lariat/lariatlaw28.CoverRises", spec := "coverRises", unfollowed := true, recurses := true, plainKeys := false, apart := false, narrowed := true }
def CoverRisesUptoSaid : Prop := coverRisesUptoRow.holds Try.pinned (OpenSpec.upto coverRisesSpec)

/-- 'lariatlaw28.CoverOnce', WHERE WHAT IT READS IS OF BULK AT MOST 1048576: true; the input reads as it did. -/
def coverOnceUptoRow : OpenClaim := { program := "ytedohmcnjlhdnaa", sum := "0271ded7c4485d339af1910d5933790e93e083566b8b4043a56c23399e3ec508", func := "lariat/lariatlaw28.CoverOnce", spec := "coverOnce", unfollowed := true, recurses := true, plainKeys := false, apart := false, narrowed := true }
def CoverOnceUptoSaid : Prop := coverOnceUptoRow.holds Try.pinned (OpenSpec.upto coverOnceSpec)

end Rows
end Go.Proofs.Ytedohmcnjlhdnaa
