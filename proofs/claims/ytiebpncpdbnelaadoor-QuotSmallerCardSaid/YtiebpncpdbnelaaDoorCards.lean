/-
  DERIVED. GIVEN WITH THE SEED: THE CARDS: each row of YtiebpncpdbnelaaDoorRows.lean that lists a variable, with what it lists TIED to the program's text (the seventh form; the later family's looks); each row that meets fmt, with fmt's text TOLD by the authors' own Lean function (tested against real Go, not proved from fmt's source: count such statements apart). THE CARD IS WHAT COUNTS. Prove the row's statement (the work); the ties are given (YtiebpncpdbnelaaDoorTie.lean); close each card by the builder's one call (the guide's Derived/Test/ToyasCard.lean, 'card_holds'). Laid BY PROGRAM, IN A SANDBOX (cutbox-door.mjs). By AI agents, Wed Nov 11 2026. No macro, syntax, notation, axiom, sorry.
-/
import Derived.Test.YtiebpncpdbnelaaDoorRows
import GoSem.ClaimSeven
namespace Go.Proofs.YtiebpncpdbnelaaDoor
namespace Rows

/-- THE TIED CARD OF 'lariatlaw33.QuotMerges'. -/
def quotMergesCard : Claim7 := { stood := { row := quotMergesRow, standIns := [], harness := (true, "1554c0d82d14feb64eb773c978e65ac1ee7d776d48c7e64907f6dff86dabcc6d"), looks := false }, kinds := [], alts := [], laidByText := true, laidKinds := [.data], laidTests := true, laidLooks := .later }
def QuotMergesCardSaid : Prop := Claim7.holds Tryd.pinned (.plain (OpenSpec.ofChange quotMergesSpec)) quotMergesCard

/-- THE TIED CARD OF 'lariatlaw33.QuotPrunes'. -/
def quotPrunesCard : Claim7 := { stood := { row := quotPrunesRow, standIns := [], harness := (true, "1554c0d82d14feb64eb773c978e65ac1ee7d776d48c7e64907f6dff86dabcc6d"), looks := false }, kinds := [], alts := [], laidByText := true, laidKinds := [.data], laidTests := true, laidLooks := .later }
def QuotPrunesCardSaid : Prop := Claim7.holds Tryd.pinned (.plain (OpenSpec.ofChange quotPrunesSpec)) quotPrunesCard

/-- THE TIED CARD OF 'lariatlaw33.QuotTakes'. -/
def quotTakesCard : Claim7 := { stood := { row := quotTakesRow, standIns := [], harness := (true, "1554c0d82d14feb64eb773c978e65ac1ee7d776d48c7e64907f6dff86dabcc6d"), looks := false }, kinds := [], alts := [], laidByText := true, laidKinds := [.data], laidTests := true, laidLooks := .later }
def QuotTakesCardSaid : Prop := Claim7.holds Tryd.pinned (.plain (OpenSpec.ofChange quotTakesSpec)) quotTakesCard

/-- THE TIED CARD OF 'lariatlaw33.QuotSmaller'. -/
def quotSmallerCard : Claim7 := { stood := { row := quotSmallerRow, standIns := [], harness := (true, "1554c0d82d14feb64eb773c978e65ac1ee7d776d48c7e64907f6dff86dabcc6d"), looks := false }, kinds := [], alts := [], laidByText := true, laidKinds := [.data], laidTests := true, laidLooks := .later }
def QuotSmallerCardSaid : Prop := Claim7.holds Tryd.pinned (.plain (OpenSpec.ofChange quotSmallerSpec)) quotSmallerCard

/-- THE TIED CARD OF 'lariatlaw30.AutoChecks'. -/
def autoChecksCard : Claim7 := { stood := { row := autoChecksRow, standIns := [], harness := (true, "1554c0d82d14feb64eb773c978e65ac1ee7d776d48c7e64907f6dff86dabcc6d"), looks := false }, kinds := [], alts := [], laidByText := true, laidKinds := [.data], laidTests := true, laidLooks := .later }
def AutoChecksCardSaid : Prop := Claim7.holds Tryd.pinned (.plain (OpenSpec.ofChange autoChecksSpec)) autoChecksCard

/-- THE TIED CARD OF 'lariatlaw30.AutoMany'. -/
def autoManyCard : Claim7 := { stood := { row := autoManyRow, standIns := [], harness := (true, "1554c0d82d14feb64eb773c978e65ac1ee7d776d48c7e64907f6dff86dabcc6d"), looks := false }, kinds := [], alts := [], laidByText := true, laidKinds := [.data], laidTests := true, laidLooks := .later }
def AutoManyCardSaid : Prop := Claim7.holds Tryd.pinned (.plain (OpenSpec.ofChange autoManySpec)) autoManyCard

/-- THE TIED CARD OF 'lariatlaw30.AutoTakes'. -/
def autoTakesCard : Claim7 := { stood := { row := autoTakesRow, standIns := [], harness := (true, "1554c0d82d14feb64eb773c978e65ac1ee7d776d48c7e64907f6dff86dabcc6d"), looks := false }, kinds := [], alts := [], laidByText := true, laidKinds := [.data], laidTests := true, laidLooks := .later }
def AutoTakesCardSaid : Prop := Claim7.holds Tryd.pinned (.plain (OpenSpec.ofChange autoTakesSpec)) autoTakesCard

/-- THE TIED CARD OF 'lariatlaw30.AutoTrims'. -/
def autoTrimsCard : Claim7 := { stood := { row := autoTrimsRow, standIns := [], harness := (true, "1554c0d82d14feb64eb773c978e65ac1ee7d776d48c7e64907f6dff86dabcc6d"), looks := false }, kinds := [], alts := [], laidByText := true, laidKinds := [.data], laidTests := true, laidLooks := .later }
def AutoTrimsCardSaid : Prop := Claim7.holds Tryd.pinned (.plain (OpenSpec.ofChange autoTrimsSpec)) autoTrimsCard

/-- THE TIED CARD OF 'lariatlaw30.AutoEmpty'. -/
def autoEmptyCard : Claim7 := { stood := { row := autoEmptyRow, standIns := [], harness := (true, "1554c0d82d14feb64eb773c978e65ac1ee7d776d48c7e64907f6dff86dabcc6d"), looks := false }, kinds := [], alts := [], laidByText := true, laidKinds := [.data], laidTests := true, laidLooks := .later }
def AutoEmptyCardSaid : Prop := Claim7.holds Tryd.pinned (.plain (OpenSpec.ofChange autoEmptySpec)) autoEmptyCard

/-- THE TIED CARD OF 'lariatlaw30.AutoMore'. -/
def autoMoreCard : Claim7 := { stood := { row := autoMoreRow, standIns := [], harness := (true, "1554c0d82d14feb64eb773c978e65ac1ee7d776d48c7e64907f6dff86dabcc6d"), looks := false }, kinds := [], alts := [], laidByText := true, laidKinds := [.data], laidTests := true, laidLooks := .later }
def AutoMoreCardSaid : Prop := Claim7.holds Tryd.pinned (.plain (OpenSpec.ofChange autoMoreSpec)) autoMoreCard

/-- THE SECOND FORM's CARD OF 'lariatlaw33.QuotMerges'. -/
def quotMergesUptoCard : Claim7 := { stood := { row := quotMergesUptoRow, standIns := [], harness := (true, "1554c0d82d14feb64eb773c978e65ac1ee7d776d48c7e64907f6dff86dabcc6d"), looks := false }, kinds := [], alts := [], laidByText := true, laidKinds := [.data], laidTests := true, laidLooks := .later }
def QuotMergesUptoCardSaid : Prop := Claim7.holds Tryd.pinned (.plain (OpenSpec.upto quotMergesSpec)) quotMergesUptoCard

/-- THE SECOND FORM's CARD OF 'lariatlaw33.QuotPrunes'. -/
def quotPrunesUptoCard : Claim7 := { stood := { row := quotPrunesUptoRow, standIns := [], harness := (true, "1554c0d82d14feb64eb773c978e65ac1ee7d776d48c7e64907f6dff86dabcc6d"), looks := false }, kinds := [], alts := [], laidByText := true, laidKinds := [.data], laidTests := true, laidLooks := .later }
def QuotPrunesUptoCardSaid : Prop := Claim7.holds Tryd.pinned (.plain (OpenSpec.upto quotPrunesSpec)) quotPrunesUptoCard

/-- THE SECOND FORM's CARD OF 'lariatlaw33.QuotTakes'. -/
def quotTakesUptoCard : Claim7 := { stood := { row := quotTakesUptoRow, standIns := [], harness := (true, "1554c0d82d14feb64eb773c978e65ac1ee7d776d48c7e64907f6dff86dabcc6d"), looks := false }, kinds := [], alts := [], laidByText := true, laidKinds := [.data], laidTests := true, laidLooks := .later }
def QuotTakesUptoCardSaid : Prop := Claim7.holds Tryd.pinned (.plain (OpenSpec.upto quotTakesSpec)) quotTakesUptoCard

/-- THE SECOND FORM's CARD OF 'lariatlaw33.QuotSmaller'. -/
def quotSmallerUptoCard : Claim7 := { stood := { row := quotSmallerUptoRow, standIns := [], harness := (true, "1554c0d82d14feb64eb773c978e65ac1ee7d776d48c7e64907f6dff86dabcc6d"), looks := false }, kinds := [], alts := [], laidByText := true, laidKinds := [.data], laidTests := true, laidLooks := .later }
def QuotSmallerUptoCardSaid : Prop := Claim7.holds Tryd.pinned (.plain (OpenSpec.upto quotSmallerSpec)) quotSmallerUptoCard

/-- THE SECOND FORM's CARD OF 'lariatlaw30.AutoChecks'. -/
def autoChecksUptoCard : Claim7 := { stood := { row := autoChecksUptoRow, standIns := [], harness := (true, "1554c0d82d14feb64eb773c978e65ac1ee7d776d48c7e64907f6dff86dabcc6d"), looks := false }, kinds := [], alts := [], laidByText := true, laidKinds := [.data], laidTests := true, laidLooks := .later }
def AutoChecksUptoCardSaid : Prop := Claim7.holds Tryd.pinned (.plain (OpenSpec.upto autoChecksSpec)) autoChecksUptoCard

/-- THE SECOND FORM's CARD OF 'lariatlaw30.AutoMany'. -/
def autoManyUptoCard : Claim7 := { stood := { row := autoManyUptoRow, standIns := [], harness := (true, "1554c0d82d14feb64eb773c978e65ac1ee7d776d48c7e64907f6dff86dabcc6d"), looks := false }, kinds := [], alts := [], laidByText := true, laidKinds := [.data], laidTests := true, laidLooks := .later }
def AutoManyUptoCardSaid : Prop := Claim7.holds Tryd.pinned (.plain (OpenSpec.upto autoManySpec)) autoManyUptoCard

/-- THE SECOND FORM's CARD OF 'lariatlaw30.AutoTakes'. -/
def autoTakesUptoCard : Claim7 := { stood := { row := autoTakesUptoRow, standIns := [], harness := (true, "1554c0d82d14feb64eb773c978e65ac1ee7d776d48c7e64907f6dff86dabcc6d"), looks := false }, kinds := [], alts := [], laidByText := true, laidKinds := [.data], laidTests := true, laidLooks := .later }
def AutoTakesUptoCardSaid : Prop := Claim7.holds Tryd.pinned (.plain (OpenSpec.upto autoTakesSpec)) autoTakesUptoCard

/-- THE SECOND FORM's CARD OF 'lariatlaw30.AutoTrims'. -/
def autoTrimsUptoCard : Claim7 := { stood := { row := autoTrimsUptoRow, standIns := [], harness := (true, "1554c0d82d14feb64eb773c978e65ac1ee7d776d48c7e64907f6dff86dabcc6d"), looks := false }, kinds := [], alts := [], laidByText := true, laidKinds := [.data], laidTests := true, laidLooks := .later }
def AutoTrimsUptoCardSaid : Prop := Claim7.holds Tryd.pinned (.plain (OpenSpec.upto autoTrimsSpec)) autoTrimsUptoCard

/-- THE SECOND FORM's CARD OF 'lariatlaw30.AutoEmpty'. -/
def autoEmptyUptoCard : Claim7 := { stood := { row := autoEmptyUptoRow, standIns := [], harness := (true, "1554c0d82d14feb64eb773c978e65ac1ee7d776d48c7e64907f6dff86dabcc6d"), looks := false }, kinds := [], alts := [], laidByText := true, laidKinds := [.data], laidTests := true, laidLooks := .later }
def AutoEmptyUptoCardSaid : Prop := Claim7.holds Tryd.pinned (.plain (OpenSpec.upto autoEmptySpec)) autoEmptyUptoCard

/-- THE SECOND FORM's CARD OF 'lariatlaw30.AutoMore'. -/
def autoMoreUptoCard : Claim7 := { stood := { row := autoMoreUptoRow, standIns := [], harness := (true, "1554c0d82d14feb64eb773c978e65ac1ee7d776d48c7e64907f6dff86dabcc6d"), looks := false }, kinds := [], alts := [], laidByText := true, laidKinds := [.data], laidTests := true, laidLooks := .later }
def AutoMoreUptoCardSaid : Prop := Claim7.holds Tryd.pinned (.plain (OpenSpec.upto autoMoreSpec)) autoMoreUptoCard
end Rows
end Go.Proofs.YtiebpncpdbnelaaDoor
