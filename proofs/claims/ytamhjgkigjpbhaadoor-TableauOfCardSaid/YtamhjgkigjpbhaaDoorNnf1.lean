/- The walks of layer 25's writer: leaf, pick. -/
import Derived.Test.YtamhjgkigjpbhaaDoorMd
import Derived.Test.YtamhjgkigjpbhaaDoorMa
import Derived.Outline
import Derived.Deep.RegionLaw
namespace Go.Proofs.YtamhjgkigjpbhaaDoor
open Go.RowKit

/-- A block of three cells: what is read of it. -/
theorem cells3 {w : World} {g t : Nat} {a b c : Value} (h : w.heap[g]? = some (.cells #[a, b, c] t (0, 0))) :
    w.cell? ⟨g, 0, none⟩ = some a ∧ w.cell? ⟨g, 1, none⟩ = some b ∧ w.cell? ⟨g, 2, none⟩ = some c ∧ w.frozen? ⟨g, 2, none⟩ = false := by
  refine ⟨by simp [World.cell?, h], by simp [World.cell?, h], by simp [World.cell?, h], by simp [World.frozen?, h]⟩
theorem set3 {w : World} {g t : Nat} {a b c u : Value} (h : w.heap[g]? = some (.cells #[a, b, c] t (0, 0))) : (w.setCell ⟨g, 2, none⟩ u).heap[g]? = some (.cells #[a, b, u] t (0, 0)) := by
  have hlt := (Array.getElem?_eq_some_iff.1 h).1
  have h' : w.heap[g] = .cells #[a, b, c] t (0, 0) := by simpa [Array.getElem?_eq_getElem hlt] using h
  simp [World.setCell, Array.getElem?_modify, h]

section
variable {f : List Nd} {s : List Int} {A A' : Option Addr} {c c' Bw : Nat} {w w1 w2 : World} {vo : Value} {n m m' : Nat} {xs news news' : List Value} {en : Ending}
end

end Go.Proofs.YtamhjgkigjpbhaaDoor
