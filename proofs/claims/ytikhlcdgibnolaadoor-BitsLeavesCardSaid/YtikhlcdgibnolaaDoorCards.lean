/-
  DERIVED. GIVEN WITH THE SEED: THE CARDS: each row of YtikhlcdgibnolaaDoorRows.lean that lists a variable, with what it lists TIED to the program's text (the seventh form; the later family's looks); each row that meets fmt, with fmt's text TOLD by the authors' own Lean function (tested against real Go, not proved from fmt's source: count such statements apart). THE CARD IS WHAT COUNTS. Prove the row's statement (the work); the ties are given (YtikhlcdgibnolaaDoorTie.lean); close each card by the builder's one call (the guide's Derived/Test/ToyasCard.lean, 'card_holds'). Laid BY PROGRAM, IN A SANDBOX (cutbox-door.mjs). By AI agents, Wed Nov 11 2026. No macro, syntax, notation, axiom, sorry.
-/
import Derived.Test.YtikhlcdgibnolaaDoorRows
import GoSem.ClaimSeven
namespace Go.Proofs.YtikhlcdgibnolaaDoor
namespace Rows

/-- THE TIED CARD OF 'lariatlaw03.BitsWords'. -/
def bitsWordsCard : Claim7 := { stood := { row := bitsWordsRow, standIns := [], harness := (true, "b021d999aab5cfd0cf6b75101ae0b578ce62bf720fd3e5f5f0bb8e18cdd405a6"), looks := false }, kinds := [], alts := [], laidByText := true, laidKinds := [.data], laidTests := true, laidLooks := .later }
def BitsWordsCardSaid : Prop := Claim7.holds Tryd.pinned (.plain (OpenSpec.ofChange bitsWordsSpec)) bitsWordsCard

/-- THE TIED CARD OF 'lariatlaw03.BitsPlays'. -/
def bitsPlaysCard : Claim7 := { stood := { row := bitsPlaysRow, standIns := [], harness := (true, "b021d999aab5cfd0cf6b75101ae0b578ce62bf720fd3e5f5f0bb8e18cdd405a6"), looks := false }, kinds := [], alts := [], laidByText := true, laidKinds := [.data], laidTests := true, laidLooks := .later }
def BitsPlaysCardSaid : Prop := Claim7.holds Tryd.pinned (.plain (OpenSpec.ofChange bitsPlaysSpec)) bitsPlaysCard

/-- THE TIED CARD OF 'lariatlaw03.BitsLeaves'. -/
def bitsLeavesCard : Claim7 := { stood := { row := bitsLeavesRow, standIns := [], harness := (true, "b021d999aab5cfd0cf6b75101ae0b578ce62bf720fd3e5f5f0bb8e18cdd405a6"), looks := false }, kinds := [], alts := [], laidByText := true, laidKinds := [.data], laidTests := true, laidLooks := .later }
def BitsLeavesCardSaid : Prop := Claim7.holds Tryd.pinned (.plain (OpenSpec.ofChange bitsLeavesSpec)) bitsLeavesCard

/-- THE TIED CARD OF 'lariatlaw03.BitsPairs'. -/
def bitsPairsCard : Claim7 := { stood := { row := bitsPairsRow, standIns := [], harness := (true, "b021d999aab5cfd0cf6b75101ae0b578ce62bf720fd3e5f5f0bb8e18cdd405a6"), looks := false }, kinds := [], alts := [], laidByText := true, laidKinds := [.data], laidTests := true, laidLooks := .later }
def BitsPairsCardSaid : Prop := Claim7.holds Tryd.pinned (.plain (OpenSpec.ofChange bitsPairsSpec)) bitsPairsCard

/-- THE TIED CARD OF 'lariatlaw03.BitsNobody'. -/
def bitsNobodyCard : Claim7 := { stood := { row := bitsNobodyRow, standIns := [], harness := (true, "b021d999aab5cfd0cf6b75101ae0b578ce62bf720fd3e5f5f0bb8e18cdd405a6"), looks := false }, kinds := [], alts := [], laidByText := true, laidKinds := [.data], laidTests := true, laidLooks := .later }
def BitsNobodyCardSaid : Prop := Claim7.holds Tryd.pinned (.plain (OpenSpec.ofChange bitsNobodySpec)) bitsNobodyCard

/-- THE SECOND FORM's CARD OF 'lariatlaw03.BitsWords'. -/
def bitsWordsUptoCard : Claim7 := { stood := { row := bitsWordsUptoRow, standIns := [], harness := (true, "b021d999aab5cfd0cf6b75101ae0b578ce62bf720fd3e5f5f0bb8e18cdd405a6"), looks := false }, kinds := [], alts := [], laidByText := true, laidKinds := [.data], laidTests := true, laidLooks := .later }
def BitsWordsUptoCardSaid : Prop := Claim7.holds Tryd.pinned (.plain (OpenSpec.upto bitsWordsSpec)) bitsWordsUptoCard

/-- THE SECOND FORM's CARD OF 'lariatlaw03.BitsPlays'. -/
def bitsPlaysUptoCard : Claim7 := { stood := { row := bitsPlaysUptoRow, standIns := [], harness := (true, "b021d999aab5cfd0cf6b75101ae0b578ce62bf720fd3e5f5f0bb8e18cdd405a6"), looks := false }, kinds := [], alts := [], laidByText := true, laidKinds := [.data], laidTests := true, laidLooks := .later }
def BitsPlaysUptoCardSaid : Prop := Claim7.holds Tryd.pinned (.plain (OpenSpec.upto bitsPlaysSpec)) bitsPlaysUptoCard

/-- THE SECOND FORM's CARD OF 'lariatlaw03.BitsLeaves'. -/
def bitsLeavesUptoCard : Claim7 := { stood := { row := bitsLeavesUptoRow, standIns := [], harness := (true, "b021d999aab5cfd0cf6b75101ae0b578ce62bf720fd3e5f5f0bb8e18cdd405a6"), looks := false }, kinds := [], alts := [], laidByText := true, laidKinds := [.data], laidTests := true, laidLooks := .later }
def BitsLeavesUptoCardSaid : Prop := Claim7.holds Tryd.pinned (.plain (OpenSpec.upto bitsLeavesSpec)) bitsLeavesUptoCard

/-- THE SECOND FORM's CARD OF 'lariatlaw03.BitsPairs'. -/
def bitsPairsUptoCard : Claim7 := { stood := { row := bitsPairsUptoRow, standIns := [], harness := (true, "b021d999aab5cfd0cf6b75101ae0b578ce62bf720fd3e5f5f0bb8e18cdd405a6"), looks := false }, kinds := [], alts := [], laidByText := true, laidKinds := [.data], laidTests := true, laidLooks := .later }
def BitsPairsUptoCardSaid : Prop := Claim7.holds Tryd.pinned (.plain (OpenSpec.upto bitsPairsSpec)) bitsPairsUptoCard

/-- THE SECOND FORM's CARD OF 'lariatlaw03.BitsNobody'. -/
def bitsNobodyUptoCard : Claim7 := { stood := { row := bitsNobodyUptoRow, standIns := [], harness := (true, "b021d999aab5cfd0cf6b75101ae0b578ce62bf720fd3e5f5f0bb8e18cdd405a6"), looks := false }, kinds := [], alts := [], laidByText := true, laidKinds := [.data], laidTests := true, laidLooks := .later }
def BitsNobodyUptoCardSaid : Prop := Claim7.holds Tryd.pinned (.plain (OpenSpec.upto bitsNobodySpec)) bitsNobodyUptoCard
end Rows
end Go.Proofs.YtikhlcdgibnolaaDoor
