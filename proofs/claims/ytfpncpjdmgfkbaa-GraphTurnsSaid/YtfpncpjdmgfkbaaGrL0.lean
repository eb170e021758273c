/- What the laws of layer 6 lean on. -/
import Derived.Test.YtfpncpjdmgfkbaaGr19
import Derived.Test.YtfpncpjdmgfkbaaGr9
import Derived.Test.YtfpncpjdmgfkbaaGr3
import Derived.Test.YtfpncpjdmgfkbaaGr5
import Derived.Test.YtfpncpjdmgfkbaaGr17
namespace Go.Proofs.Ytfpncpjdmgfkbaa
open Go.RowKit

theorem heavy_bd {G : Gph} (h : heavyG G = false) : G.edges.length ≤ 200 ∧ G.init.length ≤ 200 ∧ G.labels.length ≤ 400 ∧ ∀ l ∈ G.edges, l.length ≤ 50 := by
  simp only [heavyG, Bool.or_eq_false_iff, decide_eq_false_iff_not, List.any_eq_false] at h
  obtain ⟨⟨⟨h1, h2⟩, h3⟩, h4⟩ := h
  exact ⟨by omega, by omega, by omega, fun l hl => by have := h4 l hl; simp at this; omega⟩
/-- A graph's box, and what is known of a graph that is not heavy. -/
theorem lens_bd {w : World} {B ni ci ne ce nl cl : Nat} {ai ae al : Option Addr} {G : Gph} (h : GrRd w B ai ni ci ae ne ce al nl cl G) (hv : heavyG G = false) : ni ≤ 200 ∧ ne ≤ 200 ∧ nl ≤ 400 ∧ (∀ l ∈ G.edges, l.length ≤ 50) ∧ ne * 50 ≤ 1000000000 := by
  obtain ⟨h1, h2, h3⟩ := h.lens
  obtain ⟨k1, k2, k3, k4⟩ := heavy_bd hv
  exact ⟨by omega, by omega, by omega, k4, by omega⟩
/-- Two structs of three cells, boxed: the world behind. -/
theorem boxed33 (w : World) (x0 x1 x2 y0 y1 y2 : Value) (t : Nat) : ∃ w0, w0 = (w.alloc (.cells #[x0, x1, x2] t)).alloc (.cells #[y0, y1, y2] t) ∧ Below w.heap.size w w0 ∧ w0.heap.size = w.heap.size + 2 ∧
    (w0.cell? ⟨w.heap.size, 0, none⟩ = some x0 ∧ w0.cell? ⟨w.heap.size, 1, none⟩ = some x1 ∧ w0.cell? ⟨w.heap.size, 2, none⟩ = some x2) ∧ (w0.cell? ⟨w.heap.size + 1, 0, none⟩ = some y0 ∧ w0.cell? ⟨w.heap.size + 1, 1, none⟩ = some y1 ∧ w0.cell? ⟨w.heap.size + 1, 2, none⟩ = some y2) := by
  obtain ⟨h1, h2, h3⟩ := heap_allocL [.cells #[x0, x1, x2] t, .cells #[y0, y1, y2] t] w
  simp only [List.foldl_cons, List.foldl_nil] at h1 h2 h3
  exact ⟨_, rfl, h2, h3, (blk3 (h1 0 (by simp))).1, (blk3 (h1 1 (by simp))).1⟩
end Go.Proofs.Ytfpncpjdmgfkbaa
