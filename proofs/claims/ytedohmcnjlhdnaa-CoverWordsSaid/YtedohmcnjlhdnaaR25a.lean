/- The walks of the reference of layer 25: Takes, Begins. -/
import Derived.Test.YtedohmcnjlhdnaaMd
import Derived.Test.YtedohmcnjlhdnaaMa
import Derived.Outline
namespace Go.Proofs.Ytedohmcnjlhdnaa
open Go.RowKit

/-- How many parts a node takes; -1: it is none that may be. -/
def takesV (x : Nd) : Int := if x.op = 3 ∧ ¬ (0 ≤ x.n ∧ x.n < 8) then -1 else takes x.op
theorem takesV_bd (x : Nd) : -1 ≤ takesV x ∧ takesV x ≤ 2 := by have := takes_bd x.op; unfold takesV; split <;> omega
theorem takesV_bad {x : Nd} {d : Nat} : bad x d = 0 ↔ 0 ≤ takesV x ∧ takesV x ≤ (d : Int) := by
  constructor
  · intro h
    obtain ⟨h0, h1, h2⟩ := good_takes h
    unfold takesV
    rw [if_neg (fun h => h.2 (h2 h.1))]
    exact ⟨h0, h1⟩
  · intro ⟨h0, h1⟩
    unfold takesV at h0 h1
    split at h0
    · omega
    · rename_i h
      rw [if_neg h] at h1
      refine bad_none h0 h1 ?_
      by_cases e : x.op = 3
      · exact .inr (Decidable.not_not.1 fun h' => h ⟨e, h'⟩)
      · exact .inl e
theorem takesV_eq {x : Nd} (h : 0 ≤ takesV x) : takesV x = takes x.op := by
  unfold takesV at h ⊢
  split at h
  · omega
  · rename_i h'; rw [if_neg h']

set_option maxHeartbeats 1000000 in
theorem Takes_any (x : Nd) (w : World) :
    Calls Try.prog 36 #[.agg #[.int .i64 x.op, .int .i64 x.n]] w fun e w' => e = .returned (.int .i64 (takesV x)) ∧ w' = w.alloc (.cells #[.int .i64 x.op, .int .i64 x.n] 38) := by
  obtain ⟨op, n⟩ := x
  by_cases h3 : op = 3
  · subst h3
    by_cases h0 : 0 ≤ n
    · by_cases h8 : n < 8
      all_goals
        go_enter Try.func36, Try.ntmps36
        go_wp2
        go_ret
        exact ⟨ret_int (by simp [takesV, takes]; omega), rfl⟩
    · go_enter Try.func36, Try.ntmps36
      go_wp2
      go_ret
      exact ⟨ret_int (by simp [takesV, takes]; omega), rfl⟩
  · go_enter Try.func36, Try.ntmps36
    go_wp2
    all_goals (go_ret; exact ⟨ret_int (by simp_all [takesV, takes]), rfl⟩)

theorem chain_zero {o r : List Int} (h : Chain o 0 r) : r = [] := by
  cases r with
  | nil => rfl
  | cons b r => obtain ⟨k, _, hk, _⟩ := h; omega
theorem chain_pos {o r : List Int} {i : Nat} (h : Chain o i r) (hi : 0 < i) : ∃ (k : Nat) (r' : List Int), r = (k : Int) :: r' ∧ k < i ∧ o[i - 1]? = some (k : Int) ∧ Chain o k r' := by
  cases r with
  | nil => simp only [Chain] at h; omega
  | cons b r => obtain ⟨k, hb, hk, ho, hc⟩ := h; subst hb; exact ⟨k, r, rfl, hk, ho, hc⟩
theorem drop_rev {st r : List Int} {k : Nat} {b : Int} (h : st.reverse.drop k = b :: r) : ∃ hk : k < st.length, st[st.length - (k + 1)]'(by omega) = b ∧ st.reverse.drop (k + 1) = r := by
  have hk : k < st.length := by
    rcases Nat.lt_or_ge k st.length with h' | h'
    · exact h'
    · rw [List.drop_eq_nil_of_le (by simpa using h')] at h; cases h
  have hk' : k < st.reverse.length := by simpa using hk
  rw [List.drop_eq_getElem_cons hk'] at h
  injection h with h1 h2
  refine ⟨hk, ?_, h2⟩
  rw [← h1, List.getElem_reverse]
  congr 1
  omega

/-- What holds at the head of Begins' outer loop, k nodes gone over. -/
def BRel (f : List Nd) (w : World) (k : Nat) (vo : Value) (wr : World) : Prop :=
  scan (f.take k) 0 = (0, (runs (f.take k)).1.length) ∧ Chain (runs (f.take k)).2 k (runs (f.take k)).1.reverse ∧
    wr.ownsRow w.heap.size 3 1 vo k (icells (runs (f.take k)).2) ∧ Below w.heap.size w wr
/-- What it answers. -/
def BegPost (f : List Nd) (w : World) (en : Ending) (w' : World) : Prop :=
  ∃ v, en = .returned (.tuple #[v, .bool (wrong f == 0)]) ∧ w'.ownsRow w.heap.size 3 1 v (spans f).length (icells (spans f)) ∧ Below w.heap.size w w' ∧ (v = .slice none 0 0 ↔ spans f = [])
theorem beg_no {f : List Nd} {w w' : World} (h : wrong f ≠ 0) (hb : Below w.heap.size w w') : BegPost f w (.returned (.tuple #[.slice none 0 0, .bool false])) w' := by
  have hs := (spans_nil_iff f).2 h
  refine ⟨_, by rw [show (wrong f == 0) = false by simpa using h], ?_, hb, by simp [hs]⟩
  rw [hs]; exact World.ownsRow_nil _ _ _ _
theorem beg_wrong {f : List Nd} {k d : Nat} (hk : k < f.length) (hs : scan (f.take k) 0 = (0, d)) (hb : bad f[k] d ≠ 0) : wrong f ≠ 0 := by rw [(scan_bad hk hs hb).1]; exact hb
end Go.Proofs.Ytedohmcnjlhdnaa
