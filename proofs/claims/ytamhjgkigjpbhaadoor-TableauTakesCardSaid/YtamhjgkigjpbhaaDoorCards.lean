/-
  DERIVED. GIVEN WITH THE SEED: THE CARDS: each row of YtamhjgkigjpbhaaDoorRows.lean that lists a variable, with what it lists TIED to the program's text (the seventh form; the later family's looks); each row that meets fmt, with fmt's text TOLD by the authors' own Lean function (tested against real Go, not proved from fmt's source: count such statements apart). THE CARD IS WHAT COUNTS. Prove the row's statement (the work); the ties are given (YtamhjgkigjpbhaaDoorTie.lean); close each card by the builder's one call (the guide's Derived/Test/ToyasCard.lean, 'card_holds'). Laid BY PROGRAM, IN A SANDBOX (cutbox-door.mjs). By AI agents, Wed Nov 11 2026. No macro, syntax, notation, axiom, sorry.
-/
import Derived.Test.YtamhjgkigjpbhaaDoorRows
import GoSem.ClaimSeven
namespace Go.Proofs.YtamhjgkigjpbhaaDoor
namespace Rows

/-- THE TIED CARD OF 'lariatlaw29.TableauOf'. -/
def tableauOfCard : Claim7 := { stood := { row := tableauOfRow, standIns := [], harness := (true, "91337d6b5301f4d44ecc8ed6dc96508d0653b28b54c3295b0da4c07121ec8d80"), looks := false }, kinds := [], alts := [], laidByText := true, laidKinds := [.data, .data, .data], laidTests := true, laidLooks := .later }
def TableauOfCardSaid : Prop := Claim7.holds Tryd.pinned (.plain (OpenSpec.ofChange tableauOfSpec)) tableauOfCard

/-- THE TIED CARD OF 'lariatlaw29.TableauTakes'. -/
def tableauTakesCard : Claim7 := { stood := { row := tableauTakesRow, standIns := [], harness := (true, "91337d6b5301f4d44ecc8ed6dc96508d0653b28b54c3295b0da4c07121ec8d80"), looks := false }, kinds := [], alts := [], laidByText := true, laidKinds := [.data, .data, .data], laidTests := true, laidLooks := .later }
def TableauTakesCardSaid : Prop := Claim7.holds Tryd.pinned (.plain (OpenSpec.ofChange tableauTakesSpec)) tableauTakesCard

/-- THE TIED CARD OF 'lariatlaw29.TableauReached'. -/
def tableauReachedCard : Claim7 := { stood := { row := tableauReachedRow, standIns := [], harness := (true, "91337d6b5301f4d44ecc8ed6dc96508d0653b28b54c3295b0da4c07121ec8d80"), looks := false }, kinds := [], alts := [], laidByText := true, laidKinds := [.data, .data, .data], laidTests := true, laidLooks := .later }
def TableauReachedCardSaid : Prop := Claim7.holds Tryd.pinned (.plain (OpenSpec.ofChange tableauReachedSpec)) tableauReachedCard

/-- THE TIED CARD OF 'lariatlaw29.TableauBounds'. -/
def tableauBoundsCard : Claim7 := { stood := { row := tableauBoundsRow, standIns := [], harness := (true, "91337d6b5301f4d44ecc8ed6dc96508d0653b28b54c3295b0da4c07121ec8d80"), looks := false }, kinds := [], alts := [], laidByText := true, laidKinds := [.data, .data, .data], laidTests := true, laidLooks := .later }
def TableauBoundsCardSaid : Prop := Claim7.holds Tryd.pinned (.plain (OpenSpec.ofChange tableauBoundsSpec)) tableauBoundsCard

/-- THE SECOND FORM's CARD OF 'lariatlaw29.TableauOf'. -/
def tableauOfUptoCard : Claim7 := { stood := { row := tableauOfUptoRow, standIns := [], harness := (true, "91337d6b5301f4d44ecc8ed6dc96508d0653b28b54c3295b0da4c07121ec8d80"), looks := false }, kinds := [], alts := [], laidByText := true, laidKinds := [.data, .data, .data], laidTests := true, laidLooks := .later }
def TableauOfUptoCardSaid : Prop := Claim7.holds Tryd.pinned (.plain (OpenSpec.upto tableauOfSpec)) tableauOfUptoCard

/-- THE SECOND FORM's CARD OF 'lariatlaw29.TableauTakes'. -/
def tableauTakesUptoCard : Claim7 := { stood := { row := tableauTakesUptoRow, standIns := [], harness := (true, "91337d6b5301f4d44ecc8ed6dc96508d0653b28b54c3295b0da4c07121ec8d80"), looks := false }, kinds := [], alts := [], laidByText := true, laidKinds := [.data, .data, .data], laidTests := true, laidLooks := .later }
def TableauTakesUptoCardSaid : Prop := Claim7.holds Tryd.pinned (.plain (OpenSpec.upto tableauTakesSpec)) tableauTakesUptoCard

/-- THE SECOND FORM's CARD OF 'lariatlaw29.TableauReached'. -/
def tableauReachedUptoCard : Claim7 := { stood := { row := tableauReachedUptoRow, standIns := [], harness := (true, "91337d6b5301f4d44ecc8ed6dc96508d0653b28b54c3295b0da4c07121ec8d80"), looks := false }, kinds := [], alts := [], laidByText := true, laidKinds := [.data, .data, .data], laidTests := true, laidLooks := .later }
def TableauReachedUptoCardSaid : Prop := Claim7.holds Tryd.pinned (.plain (OpenSpec.upto tableauReachedSpec)) tableauReachedUptoCard

/-- THE SECOND FORM's CARD OF 'lariatlaw29.TableauBounds'. -/
def tableauBoundsUptoCard : Claim7 := { stood := { row := tableauBoundsUptoRow, standIns := [], harness := (true, "91337d6b5301f4d44ecc8ed6dc96508d0653b28b54c3295b0da4c07121ec8d80"), looks := false }, kinds := [], alts := [], laidByText := true, laidKinds := [.data, .data, .data], laidTests := true, laidLooks := .later }
def TableauBoundsUptoCardSaid : Prop := Claim7.holds Tryd.pinned (.plain (OpenSpec.upto tableauBoundsSpec)) tableauBoundsUptoCard
end Rows
end Go.Proofs.YtamhjgkigjpbhaaDoor
