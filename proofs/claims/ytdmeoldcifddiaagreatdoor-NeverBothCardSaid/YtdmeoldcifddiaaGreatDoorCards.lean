/-
  DERIVED. GIVEN WITH THE SEED: THE CARDS: each row of YtdmeoldcifddiaaGreatDoorRows.lean that lists a variable, with what it lists TIED to the program's text (the seventh form; the later family's looks); each row that meets fmt, with fmt's text TOLD by the authors' own Lean function (tested against real Go, not proved from fmt's source: count such statements apart). THE CARD IS WHAT COUNTS. Prove the row's statement (the work); the ties are given (YtdmeoldcifddiaaGreatDoorTie.lean); close each card by the builder's one call (the guide's Derived/Test/ToyasCard.lean, 'card_holds'). Laid BY PROGRAM, IN A SANDBOX (cutbox-door.mjs). By AI agents, Wed Nov 11 2026. No macro, syntax, notation, axiom, sorry.
-/
import Derived.Test.YtdmeoldcifddiaaGreatDoorRows
import GoSem.ClaimSeven
namespace Go.Proofs.YtdmeoldcifddiaaGreatDoor
namespace Rows

/-- THE TIED CARD OF 'lariatlaw34.NeverTakes'. -/
def neverTakesCard : Claim7 := { stood := { row := neverTakesRow, standIns := [], harness := (true, "3a6b2dd9254c64fef4e03c242911ed74d25e2aa146c8e68d7983ec6ff55e9fb8"), looks := false }, kinds := [], alts := [], laidByText := true, laidKinds := [.data, .data, .data], laidTests := true, laidLooks := .later }
def NeverTakesCardSaid : Prop := Claim7.holds Tryz.pinned (.plain (OpenSpec.ofChange neverTakesSpec)) neverTakesCard

/-- THE TIED CARD OF 'lariatlaw34.NeverBoth'. -/
def neverBothCard : Claim7 := { stood := { row := neverBothRow, standIns := [], harness := (true, "3a6b2dd9254c64fef4e03c242911ed74d25e2aa146c8e68d7983ec6ff55e9fb8"), looks := false }, kinds := [], alts := [], laidByText := true, laidKinds := [.data, .data, .data], laidTests := true, laidLooks := .later }
def NeverBothCardSaid : Prop := Claim7.holds Tryz.pinned (.plain (OpenSpec.ofChange neverBothSpec)) neverBothCard

/-- THE TIED CARD OF 'lariatlaw34.NeverSmall'. -/
def neverSmallCard : Claim7 := { stood := { row := neverSmallRow, standIns := [], harness := (true, "3a6b2dd9254c64fef4e03c242911ed74d25e2aa146c8e68d7983ec6ff55e9fb8"), looks := false }, kinds := [], alts := [], laidByText := true, laidKinds := [.data, .data, .data], laidTests := true, laidLooks := .later }
def NeverSmallCardSaid : Prop := Claim7.holds Tryz.pinned (.plain (OpenSpec.ofChange neverSmallSpec)) neverSmallCard

/-- THE SECOND FORM's CARD OF 'lariatlaw34.NeverTakes'. -/
def neverTakesUptoCard : Claim7 := { stood := { row := neverTakesUptoRow, standIns := [], harness := (true, "3a6b2dd9254c64fef4e03c242911ed74d25e2aa146c8e68d7983ec6ff55e9fb8"), looks := false }, kinds := [], alts := [], laidByText := true, laidKinds := [.data, .data, .data], laidTests := true, laidLooks := .later }
def NeverTakesUptoCardSaid : Prop := Claim7.holds Tryz.pinned (.plain (OpenSpec.upto neverTakesSpec)) neverTakesUptoCard

/-- THE SECOND FORM's CARD OF 'lariatlaw34.NeverBoth'. -/
def neverBothUptoCard : Claim7 := { stood := { row := neverBothUptoRow, standIns := [], harness := (true, "3a6b2dd9254c64fef4e03c242911ed74d25e2aa146c8e68d7983ec6ff55e9fb8"), looks := false }, kinds := [], alts := [], laidByText := true, laidKinds := [.data, .data, .data], laidTests := true, laidLooks := .later }
def NeverBothUptoCardSaid : Prop := Claim7.holds Tryz.pinned (.plain (OpenSpec.upto neverBothSpec)) neverBothUptoCard

/-- THE SECOND FORM's CARD OF 'lariatlaw34.NeverSmall'. -/
def neverSmallUptoCard : Claim7 := { stood := { row := neverSmallUptoRow, standIns := [], harness := (true, "3a6b2dd9254c64fef4e03c242911ed74d25e2aa146c8e68d7983ec6ff55e9fb8"), looks := false }, kinds := [], alts := [], laidByText := true, laidKinds := [.data, .data, .data], laidTests := true, laidLooks := .later }
def NeverSmallUptoCardSaid : Prop := Claim7.holds Tryz.pinned (.plain (OpenSpec.upto neverSmallSpec)) neverSmallUptoCard
end Rows
end Go.Proofs.YtdmeoldcifddiaaGreatDoor
