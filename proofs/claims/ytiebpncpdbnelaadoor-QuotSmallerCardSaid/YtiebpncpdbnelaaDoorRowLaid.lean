/- What the tied rows of this seat lean on: the library's table as the program's own start lays it. -/
import Derived.Test.YtiebpncpdbnelaaDoorZbn
import Derived.Test.YtiebpncpdbnelaaDoorTie
import Derived.Test.YtiebpncpdbnelaaDoorCards
import Derived.SevenTiedAt
import Derived.LaidMore
import Derived.Lib.LaidTab
import Derived.RangeFuncOwn
namespace Go.Proofs.YtiebpncpdbnelaaDoor
open Go.ChangeShapes Go.WideShapes Go.ChangeAt Go.RowKit Go.Shelf
theorem door_met (os : Os) (args : Array Value) : laidMetH Tryd.prog [("math/bits.deBruijn64tab", Rows.laid_math_bits_deBruijn64tab)] ((World.doorLaid Tryd.prog 14 os).forCall (fun _ _ => 0) ⟨#[], args, []⟩).memory :=
 laidMetH_of_parts3 (fuel := 8) (laidMet_of_run' 8 (by kernel_rfl) (by kernel_rfl)) (by kernel_rfl) (by kernel_rfl)
theorem gTab : Tryd.prog.globalNamed "math/bits.deBruijn64tab" = some 0 := by kernel_rfl
theorem tTab : (Tryd.prog.globals[0]?).map (·.type) = some 137 := by kernel_rfl
def tabI : List Int := Lib.deBruijn64tab.map (fun (n : Nat) => (n : Int))
theorem tab_of_laid {W : World} (h : laidMetH Tryd.prog [("math/bits.deBruijn64tab", Rows.laid_math_bits_deBruijn64tab)] W) : TabAt 0 Lib.deBruijn64tab W ∧ 0 < W.1.size := by
 rw [MakeChecks.laidMetH_plain _ _ _ (by kernel_rfl)] at h
 have e : ([("math/bits.deBruijn64tab", Rows.laid_math_bits_deBruijn64tab)] : List (String × DataW Unit)) = [("math/bits.deBruijn64tab", Lib.tabData .u8 tabI)] := by rfl
 rw [e] at h
 have hI := Lib.tabIs_of_head gTab tTab Tryd.underlying137 Tryd.underlying5 (by kernel_rfl) (by kernel_rfl) h
 have hT : TabAt 0 Lib.deBruijn64tab W := fun j hj => by
  have := hI.cell gTab j (by simpa [tabI] using hj)
  rw [this]
  simp [tabI, List.getD, hj]
 refine ⟨hT, ?_⟩
 obtain ⟨o, ho, _⟩ := cells_of_cell (hT 0 (by decide))
 exact (aI.1 ho).1
theorem no_stand_in {P : Program} {ts : Array TypeId} {t : TypeId} (hm : t ∈ ts) (h : (ts.toList.all fun u => !P.wantsStandIn u) = true) : P.wantsStandIn t = false := by
 have := List.all_eq_true.1 h t (by simpa using hm)
 simpa using this
end Go.Proofs.YtiebpncpdbnelaaDoor
