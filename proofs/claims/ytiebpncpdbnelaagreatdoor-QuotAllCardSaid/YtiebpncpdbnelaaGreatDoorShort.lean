/- Short names for what stands in the texts again and again. No program in sight. -/
import Derived.Below
import Derived.Laws.Rows
namespace Go.Proofs.YtiebpncpdbnelaaGreatDoor
open Go Go.RowKit
theorem dh {p : Prop} (h : p) : Hid p := h
theorem lR {n : Nat} : n ≤ n := Nat.le_refl n
theorem bR {n : Nat} {w : World} : Below n w w := Below.refl n w
theorem xQ {α : Sort _} (a : α) : ∃ x, a = x := ⟨a, rfl⟩
theorem xR {α : Sort _} (a : α) : ∃ x, x = a := ⟨a, rfl⟩
theorem bC {n g o : Nat} {w w' : World} {v : Option Value} (hb : Below n w w') (h : g < n) (k : w.cell? ⟨g, o, none⟩ = v) : w'.cell? ⟨g, o, none⟩ = v := (hb.cell (p := ⟨g, o, none⟩) h).trans k
theorem cR {w : World} {b o T : Nat} {cs : Array Value} {v : Value} (h : w.heap[b]? = some (.cells cs T (0, 0))) (e : cs[o]? = some v := by rfl) : w.cell? ⟨b, o, none⟩ = some v := by
  rw [cell_of_row _ _ _ _ _ (0, 0) h]; exact e
abbrev gD := @List.getD_eq_getElem?_getD
abbrev gE := @List.getElem?_eq_getElem
abbrev gB := @List.getElem?_eq_some_iff
abbrev aI := @Array.getElem?_eq_some_iff
abbrev tN := @Int.toNat_natCast
abbrev gC := @List.getElem?_append_left
abbrev gR := @List.getElem?_append_right
abbrev lA := @List.length_append
abbrev mM := @List.getElem_mem
abbrev mS := @List.mem_singleton
abbrev tL := @List.take_of_length_le
abbrev wI := @IntKind.wrap_i64
end Go.Proofs.YtiebpncpdbnelaaGreatDoor
