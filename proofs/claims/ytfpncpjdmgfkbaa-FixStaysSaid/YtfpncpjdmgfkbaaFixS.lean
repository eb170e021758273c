/- What the law FixStays needs, plain: from a node that stays, within what stays, a way of one edge or more leads to one of each set. -/
import Derived.Test.YtfpncpjdmgfkbaaFixL
namespace Go.Proofs.Ytfpncpjdmgfkbaa

theorem rch_ed {E : List (List Nd)} {z : List Bool} {from_ : List Int} (hz : z.length = E.length) {j k : Nat} (h : Rch z.length (withinE E z) from_ (j : Int)) (hl : Lead (Ed E z) j k) : Rch z.length (withinE E z) from_ (k : Int) := by
  induction hl with
  | refl a => exact h
  | @step a b c r _ ih =>
    refine ih (.step h ?_ (isNd_iff.2 ⟨by omega, by have := r.2.1; omega⟩))
    rw [Int.toNat_natCast]
    exact (ed_within hz r.1).2 r
theorem stays_met {E : List (List Nd)} {sets : List (List Bool)} {z : List Bool} (h : Gfp E (asksOf sets) z) {i : Nat} (hi : z.getD i false = true) :
    (withinE E z).getD i [] ≠ [] ∧ ∀ s ∈ sets, ∃ k : Nat, k < z.length ∧ k < s.length ∧ (reachG z.length (withinE E z) (tgts ((withinE E z).getD i []))).getD k false = true ∧ s.getD k false = true := by
  have hil := getD_lt hi
  have key : ∀ ask ∈ asksOf sets, ∃ j k : Nat, Ed E z i j ∧ Lead (Ed E z) j k ∧ k < z.length ∧ z.getD k false = true ∧ ask k = true := fun ask ha => (step_iff h.1 hil).1 (h.2.1 ask ha i hi)
  constructor
  · obtain ⟨ask, ha⟩ := List.exists_mem_of_ne_nil _ (asksOf_ne sets)
    obtain ⟨j, k, he, _⟩ := key ask ha
    intro e
    have := (ed_within h.1 he.1).2 he
    rw [e] at this
    simp [tgts] at this
  · intro s hs
    have ha : askOf s ∈ asksOf sets := by
      unfold asksOf
      split
      · rename_i e; rw [e] at hs; cases hs
      · exact List.mem_map.2 ⟨s, hs, rfl⟩
    obtain ⟨j, k, he, hl, hk, hkz, hka⟩ := key _ ha
    obtain ⟨k', hk', hkl, hks⟩ := hasB_iff.1 hka
    have : k = k' := by omega
    subst this
    refine ⟨k, hk, hkl, ?_, hks⟩
    have hn : isNd z.length (k : Int) = true := isNd_iff.2 ⟨by omega, by omega⟩
    have hr := (reachG_iff (E := withinE E z) (from_ := tgts ((withinE E z).getD i [])) hn).2 (rch_ed h.1 (.start ((ed_within h.1 he.1).2 he) (isNd_iff.2 ⟨by omega, by have := he.2.1; omega⟩)) hl)
    rwa [Int.toNat_natCast] at hr

/-- Is a set met, of the first m nodes. -/
def metR (r s : List Bool) (m : Nat) : Bool := (List.range m).any (fun k => r.getD k false && s.getD k false)
theorem metR_zero (r s : List Bool) : metR r s 0 = false := rfl
theorem metR_succ (r s : List Bool) (m : Nat) : metR r s (m + 1) = (metR r s m || (r.getD m false && s.getD m false)) := by
  rw [metR, List.range_succ, List.any_append, List.any_cons, List.any_nil, Bool.or_false, metR]
theorem metR_of {r s : List Bool} {m k : Nat} (hk : k < m) (h1 : r.getD k false = true) (h2 : s.getD k false = true) : metR r s m = true :=
  List.any_eq_true.2 ⟨k, List.mem_range.2 hk, by rw [h1, h2]; rfl⟩
/-- An edge to what stays: from what stays. -/
theorem stays_pred {E : List (List Nd)} {asks : List (Nat → Bool)} {z : List Bool} (h : Gfp E asks z) {i : Nat} (hi : i < E.length) {e : Nd} (he : e ∈ E.getD i []) (hb : hasB z e.op = true) : z.getD i false = true := by
  obtain ⟨k, hk, _, hkz⟩ := hasB_iff.1 hb
  exact h.pred hi hkz (by simp only [tgts, List.mem_map]; exact ⟨e, he, hk⟩)
end Go.Proofs.Ytfpncpjdmgfkbaa
