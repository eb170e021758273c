/- The walk of the reference of layer 25: Holds. -/
import Derived.Test.YtkikkplpalabhaaR25g
namespace Go.Proofs.Ytkikkplpalabhaa
open Go.RowKit

/-- Does a word (stem, loop) satisfy nodes? -/
def holdsL (f : List Nd) (st lo : List Int) : Bool := decide (0 < (truthsL f st lo).length) && ((truthsL f st lo).getD ((truthsL f st lo).length - 1) []).getD 0 false

theorem truthsL_some {f : List Nd} {st lo : List Int} (hw : wrong f = 0) (h : lo ≠ []) : 0 < f.length ∧ (truthsL f st lo).length = f.length ∧
    (truthsL f st lo)[f.length - 1]? = some (val (bitsOf (st ++ lo)) (st.length + lo.length) st.length (treeOf f)) ∧ (val (bitsOf (st ++ lo)) (st.length + lo.length) st.length (treeOf f)).length = st.length + lo.length := by
  have hp : 0 < f.length := by
    rcases f with _ | ⟨x, r⟩
    · simp [wrong] at hw
    · simp
  refine ⟨hp, ?_, ?_, ?_⟩
  · rw [truthsL, if_pos ⟨hw, h⟩, rowsL_len]
  · rw [truthsL, if_pos ⟨hw, h⟩]; exact rows_last hw
  · exact val_flat hw
theorem truthsL_none {f : List Nd} {st lo : List Int} (h : ¬ (wrong f = 0 ∧ lo ≠ [])) : truthsL f st lo = [] := by rw [truthsL, if_neg h]
theorem holdsL_some {f : List Nd} {st lo : List Int} (hw : wrong f = 0) (h : lo ≠ []) : holdsL f st lo = (val (bitsOf (st ++ lo)) (st.length + lo.length) st.length (treeOf f)).getD 0 false := by
  obtain ⟨h1, h2, h3, h4⟩ := truthsL_some (st := st) hw h
  rw [holdsL, h2, List.getD_eq_getElem?_getD (l := truthsL f st lo), h3]
  simp [h1]
theorem holdsL_none {f : List Nd} {st lo : List Int} (h : ¬ (wrong f = 0 ∧ lo ≠ [])) : holdsL f st lo = false := by simp [holdsL, truthsL_none h]

set_option maxHeartbeats 2000000 in
theorem Holds_any (A A1 A2 : Option Addr) (n c n1 c1 n2 c2 : Nat) (f : List Nd) (st lo : List Int) (w : World) (B B1 B2 : Nat) (hn : n = f.length) (hn1 : n1 = st.length) (hn2 : n2 = lo.length)
    (hf : Sl w B 2 A n c (ncells f)) (h1 : Sl w B1 1 A1 n1 c1 (ucells st)) (h2 : Sl w B2 1 A2 n2 c2 (ucells lo)) (hB : B ≤ w.heap.size) (hB1 : B1 ≤ w.heap.size) (hB2 : B2 ≤ w.heap.size) (hl : n ≤ 100000) (hl2 : n1 + n2 ≤ 1000) :
    Calls Try.prog 22 #[.slice A n c, .agg #[.slice A1 n1 c1, .slice A2 n2 c2]] w (Tru w (holdsL f st lo)) := by
  have hT := fun (w' : World) (hb : Below w.heap.size w w') => Truths_any A A1 A2 n c n1 c1 n2 c2 f st lo w' B B1 B2 hn hn1 hn2 (hf.below hb hB) (h1.below hb hB1) (h2.below hb hB2) (by have := hb.size; omega) (by have := hb.size; omega) (by have := hb.size; omega) hl hl2
  have HT := Lib.hid hT
  have HN := Lib.hid hn
  have HN1 := Lib.hid hn1
  have HN2 := Lib.hid hn2
  clear hn hn1 hn2 hT
  go_enter Try.func22, Try.ntmps22
  go_wp2_with fail
  refine Calls.mono (HT.out _ ((Below.refl _ _).alloc (Nat.le_refl _) _)) ?_
  rintro e w1 ⟨v, rfl, hG⟩
  have hb1 : Below w.heap.size w w1 := ((Below.refl w.heap.size w).alloc (Nat.le_refl _) _).trans (hG.choose_spec.2.2.mono (by simp))
  by_cases hg : wrong f = 0 ∧ lo ≠ []
  · obtain ⟨p1, p2, p3, p4⟩ := truthsL_some (st := st) hg.1 hg.2
    have p5 := holdsL_some (st := st) hg.1 hg.2
    have hlo : 0 < lo.length := List.length_pos_iff.2 hg.2
    have hp2 : 0 < (truthsL f st lo).length := by omega
    have hp3 : (truthsL f st lo).length ≤ 100000 := by rw [p2, ← HN.out]; exact hl
    obtain ⟨g, cap, rfl⟩ := hG.form hp2
    obtain ⟨Ar, cr, hc, hs⟩ := hG.cellAt p3
    have hlen : 0 < (val (bitsOf (st ++ lo)) (st.length + lo.length) st.length (treeOf f)).length := by omega
    obtain ⟨br, or, rfl, _, hcr⟩ := hs.rd.at_ (bcells_at (i := 0) hlen)
    rw [← p5] at hcr
    rw [← p2] at hc
    generalize (val (bitsOf (st ++ lo)) (st.length + lo.length) st.length (treeOf f)).length = N at *
    generalize holdsL f st lo = b at *
    generalize (truthsL f st lo).length = m at *
    obtain ⟨m, rfl⟩ : ∃ k, m = k + 1 := ⟨m - 1, by omega⟩
    rw [Nat.add_sub_cancel] at hc
    rw [Nat.add_zero] at hcr
    clear p1 p2 p3 p4 p5 hG hg
    go_wp2
    go_ret
    exact ⟨rfl, hb1⟩
  · have p1 := truthsL_none (st := st) hg
    have p2 := holdsL_none (st := st) hg
    rw [p1] at hG
    obtain ⟨vs, hv, _⟩ := hG
    obtain ⟨Ar, cr, rfl, hs⟩ := own_sl hv
    clear hv hs p1
    have H2 := Lib.hid p2
    clear p2
    have h00 : decide ((0 : Int) < ((0 : Nat) : Int)) = false := by decide
    go_wp2
    go_ret
    exact ⟨ret_bool H2.out.symm, hb1⟩
end Go.Proofs.Ytkikkplpalabhaa
