/- Fixpoints over a graph: the greatest one. Plain. -/
import Derived.Test.YtfpncpjdmgfkbaaFixP
namespace Go.Proofs.Ytfpncpjdmgfkbaa

theorem SubB.refl (z : List Bool) : SubB z z := fun _ h => h
theorem SubB.trans {x y z : List Bool} (h : SubB x y) (k : SubB y z) : SubB x z := fun i a => k i (h i a)
/-- One round. -/
def roundZ (E : List (List Nd)) (asks : List (Nat → Bool)) (z : List Bool) : List Bool := asks.foldl (stepZ E) z
theorem roundZ_len (E : List (List Nd)) : ∀ (asks : List (Nat → Bool)) (z : List Bool), (roundZ E asks z).length = z.length
  | [], _ => rfl
  | p :: l, z => by
    show (roundZ E l (stepZ E z p)).length = _
    rw [roundZ_len E l, stepZ_len]
theorem roundZ_sub {E : List (List Nd)} : ∀ (asks : List (Nat → Bool)) {z : List Bool}, z.length = E.length → SubB (roundZ E asks z) z
  | [], _, _ => SubB.refl _
  | p :: l, z, hz => (roundZ_sub l (z := stepZ E z p) (by rw [stepZ_len]; exact hz)).trans (step_sub hz)
/-- What each step keeps. -/
def Fixd (E : List (List Nd)) (asks : List (Nat → Bool)) (z : List Bool) : Prop := ∀ p ∈ asks, SubB z (stepZ E z p)
theorem roundZ_inv {E : List (List Nd)} {y : List Bool} (hy : y.length = E.length) : ∀ (asks : List (Nat → Bool)) {z : List Bool}, z.length = E.length → Fixd E asks y → SubB y z → SubB y (roundZ E asks z)
  | [], _, _, _, h => h
  | p :: l, z, hz, hf, h => roundZ_inv hy l (z := stepZ E z p) (by rw [stepZ_len]; exact hz) (fun q hq => hf q (List.mem_cons_of_mem _ hq))
      ((hf p (List.mem_cons_self ..)).trans (step_mono hy hz h (fun _ a => a)))
theorem roundZ_fix {E : List (List Nd)} : ∀ (asks : List (Nat → Bool)) {z : List Bool}, z.length = E.length → SubB z (roundZ E asks z) → Fixd E asks z
  | [], _, _, _ => fun _ h => by cases h
  | p :: l, z, hz, h => by
    have h1 : SubB (roundZ E l (stepZ E z p)) (stepZ E z p) := roundZ_sub l (by rw [stepZ_len]; exact hz)
    have h2 : SubB z (stepZ E z p) := h.trans h1
    have h3 : stepZ E z p = z := sub_anti (stepZ_len _ _ _) (step_sub hz) h2
    intro q hq
    rcases List.mem_cons.1 hq with rfl | hq
    · exact h2
    · refine roundZ_fix l hz ?_ q hq
      have : roundZ E (p :: l) z = roundZ E l z := by
        show roundZ E l (stepZ E z p) = _
        rw [h3]
      rw [← this]; exact h
/-- The greatest one. -/
def Gfp (E : List (List Nd)) (asks : List (Nat → Bool)) (z : List Bool) : Prop := z.length = E.length ∧ Fixd E asks z ∧ ∀ y : List Bool, y.length = E.length → Fixd E asks y → SubB y z
theorem Gfp.uniq {E : List (List Nd)} {asks : List (Nat → Bool)} {y z : List Bool} (h : Gfp E asks y) (k : Gfp E asks z) : y = z :=
  sub_anti (h.1.trans k.1.symm) (k.2.2 y h.1 h.2.1) (h.2.2 z k.1 k.2.1)
/-- What is under way: nothing that must stay is lost. -/
def GInv (E : List (List Nd)) (asks : List (Nat → Bool)) (z : List Bool) : Prop := z.length = E.length ∧ ∀ y : List Bool, y.length = E.length → Fixd E asks y → SubB y z
theorem GInv.start (E : List (List Nd)) (asks : List (Nat → Bool)) : GInv E asks (List.replicate E.length true) :=
  ⟨by simp, fun y hy _ i hi => by
    have := getD_lt hi
    simp only [List.getD]
    rw [List.getElem?_replicate, if_pos (by omega)]; rfl⟩
theorem GInv.round {E : List (List Nd)} {asks : List (Nat → Bool)} {z : List Bool} (h : GInv E asks z) : GInv E asks (roundZ E asks z) :=
  ⟨by rw [roundZ_len]; exact h.1, fun y hy hf => roundZ_inv hy asks h.1 hf (h.2 y hy hf)⟩
theorem GInv.done {E : List (List Nd)} {asks : List (Nat → Bool)} {z : List Bool} (h : GInv E asks z) (hs : SubB z (roundZ E asks z)) : Gfp E asks z := ⟨h.1, roundZ_fix asks h.1 hs, h.2⟩
/-- Beside another set the set of all nodes asks for nothing. -/
theorem fixd_true {E : List (List Nd)} {asks : List (Nat → Bool)} {z : List Bool} (hz : z.length = E.length) (hne : asks ≠ []) : Fixd E ((fun _ => true) :: asks) z ↔ Fixd E asks z := by
  constructor
  · intro h p hp; exact h p (List.mem_cons_of_mem _ hp)
  · intro h p hp
    rcases List.mem_cons.1 hp with rfl | hp
    · cases asks with
      | nil => exact absurd rfl hne
      | cons q l => exact (h q (List.mem_cons_self ..)).trans (step_mono hz hz (SubB.refl z) (fun _ _ => rfl))
    · exact h p hp
theorem gfp_true {E : List (List Nd)} {asks : List (Nat → Bool)} {z : List Bool} (hne : asks ≠ []) : Gfp E ((fun _ => true) :: asks) z ↔ Gfp E asks z :=
  ⟨fun ⟨a, b, c⟩ => ⟨a, (fixd_true a hne).1 b, fun y hy hf => c y hy ((fixd_true hy hne).2 hf)⟩, fun ⟨a, b, c⟩ => ⟨a, (fixd_true a hne).2 b, fun y hy hf => c y hy ((fixd_true hy hne).1 hf)⟩⟩
/-- With less to ask for, no node is lost. -/
theorem gfp_less {E : List (List Nd)} {as bs : List (Nat → Bool)} {y z : List Bool} (h : Gfp E as y) (k : Gfp E bs z) (hl : ∀ p ∈ bs, ∃ q ∈ as, ∀ i, q i = true → p i = true) : SubB y z :=
  k.2.2 y h.1 (fun p hp => by
    obtain ⟨q, hq, hi⟩ := hl p hp
    exact (h.2.1 q hq).trans (step_mono h.1 h.1 (SubB.refl y) hi))
/-- How many are left. -/
def cntB (z : List Bool) : Nat := z.countP (fun b => b)
theorem cntB_le (z : List Bool) : cntB z ≤ z.length := List.countP_le_length
end Go.Proofs.Ytfpncpjdmgfkbaa
