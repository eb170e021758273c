/-
  DERIVED. GIVEN WITH THE SEED: THE CARDS: each row of YtiebpncpdbnelaaGreatDoorRows.lean that lists a variable, with what it lists TIED to the program's text (the seventh form; the later family's looks); each row that meets fmt, with fmt's text TOLD by the authors' own Lean function (tested against real Go, not proved from fmt's source: count such statements apart). THE CARD IS WHAT COUNTS. Prove the row's statement (the work); the ties are given (YtiebpncpdbnelaaGreatDoorTie.lean); close each card by the builder's one call (the guide's Derived/Test/ToyasCard.lean, 'card_holds'). Laid BY PROGRAM, IN A SANDBOX (cutbox-door.mjs). By AI agents, Wed Nov 11 2026. No macro, syntax, notation, axiom, sorry.
-/
import Derived.Test.YtiebpncpdbnelaaGreatDoorRows
import GoSem.ClaimSeven
namespace Go.Proofs.YtiebpncpdbnelaaGreatDoor
namespace Rows

/-- THE TIED CARD OF 'lariatlaw33.QuotAll'. -/
def quotAllCard : Claim7 := { stood := { row := quotAllRow, standIns := [], harness := (true, "37b2080997574ae25ec51127ebfd838811bbbb7901a2147a7aecf514e3270907"), looks := false }, kinds := [], alts := [], laidByText := true, laidKinds := [.data], laidTests := true, laidLooks := .later }
def QuotAllCardSaid : Prop := Claim7.holds Tryz.pinned (.plain (OpenSpec.ofChange quotAllSpec)) quotAllCard

/-- THE SECOND FORM's CARD OF 'lariatlaw33.QuotAll'. -/
def quotAllUptoCard : Claim7 := { stood := { row := quotAllUptoRow, standIns := [], harness := (true, "37b2080997574ae25ec51127ebfd838811bbbb7901a2147a7aecf514e3270907"), looks := false }, kinds := [], alts := [], laidByText := true, laidKinds := [.data], laidTests := true, laidLooks := .later }
def QuotAllUptoCardSaid : Prop := Claim7.holds Tryz.pinned (.plain (OpenSpec.upto quotAllSpec)) quotAllUptoCard
end Rows
end Go.Proofs.YtiebpncpdbnelaaGreatDoor
