/- Texts that stand one behind the other, in one file. -/
import Derived.Test.YtamhjgkigjpbhaaDoorRows
import Derived.Test.YtamhjgkigjpbhaaDoorMc
import Derived.ShutString
import Derived.OpenShut
import Derived.Test.YtamhjgkigjpbhaaDoorTbF
import Derived.Test.YtamhjgkigjpbhaaDoorTie
import Derived.Test.YtamhjgkigjpbhaaDoorCards
import Derived.SevenTiedAt
import Derived.ProofKit
import Derived.LaidMore
import Derived.Lib.LaidTab
import Derived.RangeFuncOwn
import Derived.Shelf.Spec.TrailingZeros

/- What all rows of this seat lean on. -/
namespace Go.Proofs.YtamhjgkigjpbhaaDoor
theorem own : ownKnob Tryd.prog.godebug = none := by kernel_rfl
theorem laidOut : laidOutB Tryd.prog = true := by kernel_rfl
end Go.Proofs.YtamhjgkigjpbhaaDoor

/- What the tied rows of this seat lean on: the library's tables as the program's own start lays them. -/
namespace Go.Proofs.YtamhjgkigjpbhaaDoor
open Go.ChangeShapes Go.WideShapes Go.ChangeAt Go.RowKit Go.Shelf
theorem door_met29 (os : Os) (args : Array Value) : laidMetH Tryd.prog [("math/bits.deBruijn32tab", Rows.laid_math_bits_deBruijn32tab), ("math/bits.deBruijn64tab", Rows.laid_math_bits_deBruijn64tab), ("internal/strconv.uint64pow10", Rows.laid_internal_strconv_uint64pow10)] ((World.doorLaid Tryd.prog 24 os).forCall (fun _ _ => 0) ⟨#[], args, []⟩).memory :=
  laidMetH_of_parts3 (fuel := 8) (laidMet_of_run' 8 (by kernel_rfl) (by kernel_rfl)) (by kernel_rfl) (by kernel_rfl)
theorem laid_tail {P : Program} {W : World} {x : String × DataW Unit} {r : List (String × DataW Unit)} (h : laidMet P (x :: r) W) : laidMet P r W := by
  obtain ⟨ps, ⟨g, t, cs, fuel, p, q, _, _, _, _, hl, rfl⟩, hn, ha⟩ := h
  exact ⟨q, hl, (List.nodup_append.1 hn).2.1, fun b off hm => ha b off (List.mem_append.2 (.inr hm))⟩
theorem gTab : Tryd.prog.globalNamed "math/bits.deBruijn64tab" = some 2 := by kernel_rfl
theorem tTab : (Tryd.prog.globals[2]?).map (·.type) = some 162 := by kernel_rfl
def tabI : List Int := Lib.deBruijn64tab.map (fun (n : Nat) => (n : Int))
theorem tab_of_laid29 {W : World} (h : laidMetH Tryd.prog [("math/bits.deBruijn32tab", Rows.laid_math_bits_deBruijn32tab), ("math/bits.deBruijn64tab", Rows.laid_math_bits_deBruijn64tab), ("internal/strconv.uint64pow10", Rows.laid_internal_strconv_uint64pow10)] W) : TzTab W := by
  rw [MakeChecks.laidMetH_plain _ _ _ (by kernel_rfl)] at h
  have h2 := laid_tail h
  have e : ([("math/bits.deBruijn64tab", Rows.laid_math_bits_deBruijn64tab), ("internal/strconv.uint64pow10", Rows.laid_internal_strconv_uint64pow10)] : List (String × DataW Unit)) = ("math/bits.deBruijn64tab", Lib.tabData .u8 tabI) :: [("internal/strconv.uint64pow10", Rows.laid_internal_strconv_uint64pow10)] := by rfl
  rw [e] at h2
  have hI := Lib.tabIs_of_head gTab tTab Tryd.underlying162 Tryd.underlying5 (by kernel_rfl) (by kernel_rfl) h2
  exact fun j hj => by
    have := hI.cell gTab j (by simpa [tabI] using hj)
    rw [this]
    simp [tabI, List.getD, hj]
theorem no_stand_in {P : Program} {ts : Array TypeId} {t : TypeId} (hm : t ∈ ts) (h : (ts.toList.all fun u => !P.wantsStandIn u) = true) : P.wantsStandIn t = false := by
  have := List.all_eq_true.1 h t (by simpa using hm)
  simpa using this
end Go.Proofs.YtamhjgkigjpbhaaDoor
