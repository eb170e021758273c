/- A map of bools by numbers (layer 28's law). -/
import Derived.Test.YtedohmcnjlhdnaaCvM
namespace Go.Proofs.Ytedohmcnjlhdnaa
open Go.RowKit Go.Maps

theorem lawI28 : Keyed Try.prog 3 := int_keyed Try.underlying3
theorem keyI28 {x : Int} (h : -9223372036854775808 ≤ x ∧ x ≤ 9223372036854775807) : keyOf Try.prog 3 (.int .i64 x) = some (.int .i64 x) :=
  keyOf_int_mk Try.underlying3 (by rw [Lit.wf, show IntKind.i64.min = -9223372036854775808 from rfl, show IntKind.i64.max = 9223372036854775807 from rfl]; simp; omega)
/-- The map of what was put in. -/
def IMap (w : World) (mb : Nat) (L : List Int) : Prop :=
  ∃ D : DataW Unit, w.ownsMap Try.prog 3 (plainElem Try.prog 4) mb L.length D ∧ IsMap D ∧ ∀ x : Int, D.atKey (.int .i64 x) (.lit (.bool false)) = .lit (.bool (decide (x ∈ L)))
theorem IMap.lt {w : World} {mb : Nat} {L : List Int} (h : IMap w mb L) : mb < w.heap.size := by obtain ⟨D, hD, _⟩ := h; exact hD.lt
theorem IMap.keep {S : Nat → Prop} {w w' : World} {mb : Nat} {L : List Int} (h : IMap w mb L) (ht : Tch S w w') (hS : ¬ S mb) : IMap w' mb L := by
  obtain ⟨D, ⟨es, clock, hb, F, hs, hD⟩, h2, h3⟩ := h
  exact ⟨D, ⟨es, clock, ht.blk hb hS, F, hs, hD⟩, h2, h3⟩
theorem IMap.of_blk {w : World} {mb : Nat} (h : w.heap[mb]? = some (.map #[] 0)) : IMap w mb [] :=
  ⟨.map [], ⟨#[], 0, h, ⟨by simp, MapKept.stamped_empty 0, by simp⟩, Nat.le_refl _, rfl⟩, isMap_empty, fun x => rfl⟩
theorem IMap.lookup {w : World} {mb : Nat} {L : List Int} (h : IMap w mb L) {x : Int} (hx : -9223372036854775808 ≤ x ∧ x ≤ 9223372036854775807) :
    (Instr.lookup 54 (.map (some mb)) (.int .i64 x) false).run Try.prog w = .ok (.bool (decide (x ∈ L))) w := by
  obtain ⟨D, h1, _, h3⟩ := h
  have hz : (zeroValue 4).run Try.prog w = .ok (.bool false) w := by kernel_rfl
  obtain ⟨v, ps, hr, hv⟩ := h1.lookup lawI28 Try.underlying54 hz (plainElem_bool Try.underlying4 false) (keyI28 hx)
  rw [h3 x] at hv
  have e : v = .bool (decide (x ∈ L)) := plainElem_bool_inv Try.underlying4 hv
  rw [← e]; exact hr
theorem IMap.update {w : World} {mb : Nat} {L : List Int} (h : IMap w mb L) {x : Int} (hx : -9223372036854775808 ≤ x ∧ x ≤ 9223372036854775807) (hl : L.length ≤ 1000000) :
    ∃ w', (Instr.mapUpdate 54 (.map (some mb)) (.int .i64 x) (.bool true)).run Try.prog w = .ok () w' ∧ IMap w' mb (L ++ [x]) ∧ w.grownBy w' (some mb) := by
  obtain ⟨D, h1, h2, h3⟩ := h
  obtain ⟨w', hr, ho, hg⟩ := h1.update lawI28 Try.underlying54 (by unfold maxLen; omega) (keyI28 hx) (plainElem_bool Try.underlying4 true)
  refine ⟨w', hr, ⟨_, by rw [List.length_append]; exact ho, h2.put _ _, fun y => ?_⟩, hg⟩
  by_cases e : y = x
  · subst e
    rw [atKey_put_same h2 (lawI28.key (keyI28 hx))]
    simp
  · rw [atKey_put_other (by simp; exact e), h3 y]
    simp [e]
end Go.Proofs.Ytedohmcnjlhdnaa
