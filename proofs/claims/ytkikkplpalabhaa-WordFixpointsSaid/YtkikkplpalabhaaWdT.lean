/- Truth on a word: the stack of rows on the way. Plain. -/
import Derived.Test.YtkikkplpalabhaaMp
namespace Go.Proofs.Ytkikkplpalabhaa

section
variable {bits : Int → Nat → Bool} {n lp : Nat} {f : List Nd}
def tfold (bits : Int → Nat → Bool) (n lp : Nat) (f : List Nd) (k : Nat) : List (List Bool) × List (List Bool) := (f.take k).foldl (tstep bits n lp) ([], [])
theorem tfold_step {k : Nat} (hk : k < f.length) : tfold bits n lp f (k + 1) = tstep bits n lp (tfold bits n lp f k) f[k] := by
  rw [tfold, take_snoc f k hk, List.foldl_append]; rfl
structure TOkW (bits : Int → Nat → Bool) (n lp : Nat) (f : List Nd) (k : Nat) : Prop where
  len : (tfold bits n lp f k).1.length = (runs (f.take k)).1.length
  row : ∀ r ∈ (tfold bits n lp f k).1, r.length = n
  all : (tfold bits n lp f k).2.length = k
  rows : ∀ r ∈ (tfold bits n lp f k).2, r.length = n
theorem tfold_ok (hw : wrong f = 0) : ∀ k, k ≤ f.length → TOkW bits n lp f k
  | 0, _ => ⟨by simp [tfold, runs], by simp [tfold], by simp [tfold], by simp [tfold]⟩
  | k + 1, hk => by
    have hkl : k < f.length := by omega
    obtain ⟨h1, h2, h3, h4⟩ := tfold_ok hw k (by omega)
    obtain ⟨hs, hb⟩ := good_at hw hkl
    obtain ⟨h0, hle, _⟩ := good_takes hb
    have hbd := takes_bd f[k].op
    have hr := runs_snoc hkl
    have hrow : (placesL bits n lp f[k] (if takes f[k].op = 1 then (tfold bits n lp f k).1.getD ((tfold bits n lp f k).1.length - 1) [] else if takes f[k].op = 2 then (tfold bits n lp f k).1.getD ((tfold bits n lp f k).1.length - 2) [] else []) (if takes f[k].op = 2 then (tfold bits n lp f k).1.getD ((tfold bits n lp f k).1.length - 1) [] else [])).length = n := by
      refine placesL_len (fun ht => ?_)
      have hget : ∀ j, j < (tfold bits n lp f k).1.length → ((tfold bits n lp f k).1.getD j []).length = n := fun j hj => by
        rw [List.getD_eq_getElem?_getD, List.getElem?_eq_getElem hj]; exact h2 _ (List.getElem_mem hj)
      by_cases h1' : takes f[k].op = 1
      · rw [if_pos h1']; exact hget _ (by omega)
      · rw [if_neg h1', if_pos (by omega)]; exact hget _ (by omega)
    refine ⟨?_, ?_, ?_, ?_⟩
    · rw [tfold_step hkl, hr, tstep, stp]
      simp only [List.length_append, List.length_take, List.length_cons, List.length_nil]
      omega
    · rw [tfold_step hkl]
      intro r hr'
      simp only [tstep, List.mem_append, List.mem_singleton] at hr'
      rcases hr' with h | h
      · exact h2 r (List.mem_of_mem_take h)
      · rw [h]; exact hrow
    · rw [tfold_step hkl, tstep]; simp [h3]
    · rw [tfold_step hkl]
      intro r hr'
      simp only [tstep, List.mem_append, List.mem_singleton] at hr'
      rcases hr' with h | h
      · exact h4 r h
      · rw [h]; exact hrow
/-- What the node at k takes, and what it finds. -/
theorem tfold_takes (hw : wrong f = 0) {k : Nat} (hk : k < f.length) : 0 ≤ takes f[k].op ∧ takes f[k].op ≤ ((tfold bits n lp f k).1.length : Int) ∧ (f[k].op = 3 → 0 ≤ f[k].n ∧ f[k].n < 8) := by
  rw [(tfold_ok (bits := bits) (n := n) (lp := lp) hw k (by omega)).len]
  exact good_takes (good_at hw hk).2
theorem tfold_end : (tfold bits n lp f f.length).2 = rowsF bits n lp f := by rw [tfold, List.take_of_length_le (Nat.le_refl _)]; rfl
end
/-- P27.2, by what a place's set has. -/
def truthW (bits : Int → Nat → Bool) (f : List Nd) (st lo : List Int) : List (List Bool) := if lo ≠ [] ∧ wrong f = 0 then rowsF bits (st.length + lo.length) st.length f else []
end Go.Proofs.Ytkikkplpalabhaa
