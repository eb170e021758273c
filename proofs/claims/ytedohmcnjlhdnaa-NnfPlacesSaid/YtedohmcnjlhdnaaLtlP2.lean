/- What is wrong with a node, in the forms that walks want. Plain. -/
import Derived.Test.YtedohmcnjlhdnaaLtlP
import Derived.Test.YtedohmcnjlhdnaaLtlQ
namespace Go.Proofs.Ytedohmcnjlhdnaa
open Go.RowKit

theorem bad_form {x : Nd} {d : Nat} (h : takes x.op < 0) : bad x d = 3 := by simp [bad, h]

theorem bad_short {x : Nd} {d : Nat} (h : 0 ≤ takes x.op) (h2 : (d : Int) < takes x.op) : bad x d = 4 := by
  unfold bad; rw [if_neg (by omega), if_pos h2]

theorem bad_range {x : Nd} {d : Nat} (h : 0 ≤ takes x.op) (h2 : takes x.op ≤ (d : Int)) (h3 : x.op = 3) (h4 : x.n < 0 ∨ 8 ≤ x.n) : bad x d = 10 := by
  unfold bad; rw [if_neg (by omega), if_neg (by omega), if_pos ⟨h3, h4⟩]

theorem bad_none {x : Nd} {d : Nat} (h : 0 ≤ takes x.op) (h2 : takes x.op ≤ (d : Int)) (h3 : x.op ≠ 3 ∨ 0 ≤ x.n ∧ x.n < 8) : bad x d = 0 := by
  unfold bad; rw [if_neg (by omega), if_neg (by omega), if_neg (by omega)]

theorem takes3 : takes 3 = 0 := rfl

/-- Where a part begins, of what its own parts are. -/
def frm (at_ : Int) (parts : List Int) : Int := parts.headD at_

theorem stp_frm (s : List Int × List Int) (x : Nd) (h : takes x.op ≤ (s.1.length : Int)) (_h0 : 0 ≤ takes x.op) :
    stp s x = (s.1.take (s.1.length - (takes x.op).toNat) ++ [frm s.2.length (s.1.drop (s.1.length - (takes x.op).toNat))], s.2 ++ [frm s.2.length (s.1.drop (s.1.length - (takes x.op).toNat))]) := by
  have e : (if 0 < (takes x.op).toNat then s.1.getD (s.1.length - (takes x.op).toNat) 0 else (s.2.length : Int)) = frm s.2.length (s.1.drop (s.1.length - (takes x.op).toNat)) := by
    unfold frm
    split
    · rename_i hp
      have hlt : s.1.length - (takes x.op).toNat < s.1.length := by omega
      rw [List.drop_eq_getElem_cons hlt]
      simp [List.getD, hlt]
    · rename_i hp
      have : (takes x.op).toNat = 0 := by omega
      rw [this]
      simp
  simp only [stp, e]

theorem frm_pos {st : List Int} {k j : Nat} (hj : j < st.length) : frm k (st.drop j) = st[j] := by
  unfold frm; rw [List.drop_eq_getElem_cons hj]; rfl

theorem frm_none {st : List Int} {k j : Nat} (hj : st.length ≤ j) : frm k (st.drop j) = k := by
  unfold frm; rw [List.drop_eq_nil_of_le hj]; rfl

theorem takes_012 {x : Int} (h : 0 ≤ takes x) : takes x = 0 ∨ takes x = 1 ∨ takes x = 2 := by have := takes_bd x; omega

/-- P23.1. -/
def check (f : List Nd) : Int := if 24 < f.length then 5 else wrong f

/-- P23.2. -/
def nextF (f : List Nd) : Bool := wrong f == 0 && hasNext f

theorem any_take_snoc {f : List Nd} {k : Nat} (hk : k < f.length) (p : Nd → Bool) : (f.take (k + 1)).any p = ((f.take k).any p || p f[k]) := by
  rw [take_snoc f k hk, List.any_append]; simp

theorem spans_le (f : List Nd) : (spans f).length ≤ f.length := by
  by_cases hw : wrong f = 0
  · rw [spans_len hw]; exact Nat.le_refl _
  · rw [(spans_nil_iff f).2 hw]; simp

theorem untils_le (f : List Nd) : (untils f).length ≤ f.length := by
  unfold untils
  split
  · exact utl_len f 0
  · simp

theorem neg_le (f : List Nd) : (neg f).length ≤ f.length + 1 := by
  unfold neg
  split <;> simp

theorem scan_good {f : List Nd} (hw : wrong f = 0) : scan f 0 = (0, 1) := by
  obtain ⟨hpos, _⟩ := last_zero hw
  have hne : f ≠ [] := by rintro rfl; simp at hpos
  have h0 : (scan f 0).1 = 0 := by
    unfold wrong at hw
    rw [if_neg hne] at hw
    split at hw
    · assumption
    · exact hw
  have hl := runs_stack (f := f) (d := (scan f 0).2) (by rw [← h0])
  have hle : ¬ 1 < (runs f).1.length := by
    rw [wrong_run hne, if_pos h0] at hw
    split at hw
    · omega
    · assumption
  have hge : (runs f).1 ≠ [] := by
    obtain ⟨n, hn⟩ : ∃ n, f.length = n + 1 := ⟨f.length - 1, by omega⟩
    have : runs f = stp (runs (f.take n)) (f[n]'(by omega)) := by rw [← runs_snoc (by omega), ← hn, List.take_of_length_le (Nat.le_refl _)]
    rw [this]
    simp [stp]
  have := List.length_pos_iff.2 hge
  have h2 : (scan f 0).2 = 1 := by omega
  rw [← h0, ← h2]

theorem neg_good {f : List Nd} (hw : wrong f = 0) : wrong (f ++ [⟨4, 0⟩]) = 0 := by
  have h : scan (f ++ [⟨4, 0⟩]) 0 = (0, 1) := by
    rw [scan_append, scan_good hw]
    decide
  rw [wrong_end (by simp) h]
  decide

theorem props_neg {f : List Nd} (hw : wrong f = 0) : props (f ++ [⟨4, 0⟩]) = props f := by
  rw [props, props, if_pos (neg_good hw), if_pos hw]
  simp [propsF]

theorem untils_neg {f : List Nd} (hw : wrong f = 0) : untils (f ++ [⟨4, 0⟩]) = untils f := by
  rw [untils, untils, if_pos (neg_good hw), if_pos hw, utl_append]
  simp

theorem next_neg {f : List Nd} (hw : wrong f = 0) : nextF (f ++ [⟨4, 0⟩]) = nextF f := by
  rw [nextF, nextF, neg_good hw, hw]
  simp [hasNext]

theorem kids_neg {f : List Nd} (hw : wrong f = 0) : kids (f ++ [⟨4, 0⟩]) f.length = ((f.length : Int) - 1, -1) := by
  rw [kids_at (neg_good hw) (by simp)]
  simp [takes]

theorem take_eq_snoc {α : Type} {xs ys : List α} {k : Nat} (h : xs.take k = ys.take k) (hx : k < xs.length) (hy : k < ys.length) (he : xs[k] = ys[k]) : xs.take (k + 1) = ys.take (k + 1) := by
  rw [take_snoc xs k hx, take_snoc ys k hy, h, he]
end Go.Proofs.Ytedohmcnjlhdnaa
