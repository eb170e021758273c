/- How the numbers of a formula's automaton run (layer 29); plain. -/
import Derived.Test.YtamhjgkigjpbhaaDoorMn
import Derived.Test.YtamhjgkigjpbhaaDoorMl
import Derived.Test.YtamhjgkigjpbhaaDoorAuC
namespace Go.Proofs.YtamhjgkigjpbhaaDoor

/-- How far the numbers went that were told. -/
def nxR (m : Nat) (r : List Nat) : Nat := r.foldl (fun m x => max m (x + 1)) m
def nxA (m : Nat) (rows : List (List Nat)) : Nat := rows.foldl nxR m
theorem nxR_snoc (m : Nat) (r : List Nat) (x : Nat) : nxR m (r ++ [x]) = max (nxR m r) (x + 1) := by simp [nxR, List.foldl_append]
theorem nxA_snoc (m : Nat) (rows : List (List Nat)) (r : List Nat) : nxA m (rows ++ [r]) = nxR (nxA m rows) r := by simp [nxA, List.foldl_append]
theorem addC_step (L : List Cov) (c : Cov) : (addC L c).idxOf c ≤ L.length ∧ max L.length ((addC L c).idxOf c + 1) = (addC L c).length := by
  unfold addC
  by_cases hm : c ∈ L
  · rw [if_pos hm]
    have := List.idxOf_lt_length_of_mem hm
    omega
  · rw [if_neg hm, List.idxOf_append, if_neg hm, List.length_append, List.length_singleton]
    simp
theorem rowL_take {T L : List Cov} {k : Nat} : rowL (onceC T L) (T.take k) = rowL (onceC (T.take k) L) (T.take k) := by
  have e : onceC T L = onceC (T.drop k) (onceC (T.take k) L) := by rw [← onceC_app, List.take_append_drop]
  obtain ⟨m, hm⟩ := onceC_pre (T.drop k) (onceC (T.take k) L)
  rw [e, hm]
  exact rowL_pre (fun c hc => once_has hc)
theorem row_get {T L : List Cov} {k : Nat} (hk : k < T.length) : (rowL (onceC T L) T)[k]? = some ((addC (onceC (T.take k) L) T[k]).idxOf T[k]) := by
  have h1 : (rowL (onceC T L) (T.take (k + 1)))[k]? = some ((addC (onceC (T.take k) L) T[k]).idxOf T[k]) := by
    rw [rowL_take, row_snoc hk]
    rw [List.getElem?_append_right (by simp [rowL]; omega)]
    simp [rowL, Nat.min_eq_left (Nat.le_of_lt hk)]
  have h2 : rowL (onceC T L) (T.take (k + 1)) = (rowL (onceC T L) T).take (k + 1) := by simp [rowL, List.map_take]
  rw [h2, List.getElem?_take] at h1
  simpa using h1
theorem nx_row {T L : List Cov} : ∀ k, k ≤ T.length → nxR L.length ((rowL (onceC T L) T).take k) = (onceC (T.take k) L).length
  | 0, _ => by simp [nxR, onceC]
  | k + 1, hk => by
    have hl : k < (rowL (onceC T L) T).length := by simp [rowL]; omega
    have hx : (rowL (onceC T L) T)[k] = (addC (onceC (T.take k) L) T[k]).idxOf T[k] := by
      have := row_get (L := L) (show k < T.length by omega)
      rw [List.getElem?_eq_getElem hl] at this
      exact Option.some.inj this
    rw [take_snoc _ k hl, nxR_snoc, nx_row k (by omega), hx, once_snoc (by omega)]
    exact (addC_step _ _).2
/-- The numbers rise as they are met. -/
structure Scan (m0 : Nat) (L : List Cov) (rows : List (List Nat)) : Prop where
  eq : nxA m0 rows = L.length
  lt : ∀ i, i < rows.length → i < nxA m0 (rows.take i)
  le : ∀ i k x, i < rows.length → (rows.getD i [])[k]? = some x → x ≤ nxR (nxA m0 (rows.take i)) ((rows.getD i []).take k)
theorem Scan.step {m0 : Nat} {L : List Cov} {rows : List (List Nat)} (h : Scan m0 L rows) (hlt : rows.length < L.length) (T : List Cov) : Scan m0 (onceC T L) (rows ++ [rowL (onceC T L) T]) := by
  have hnew : nxA m0 (rows ++ [rowL (onceC T L) T]) = (onceC T L).length := by
    rw [nxA_snoc, h.eq]
    have := nx_row (T := T) (L := L) T.length (Nat.le_refl _)
    rw [List.take_length, List.take_of_length_le (by simp [rowL])] at this
    exact this
  have htk : ∀ i, i ≤ rows.length → (rows ++ [rowL (onceC T L) T]).take i = rows.take i := fun i hi => by rw [List.take_append_of_le_length hi]
  refine ⟨hnew, fun i hi => ?_, fun i k x hi hx => ?_⟩
  · rw [List.length_append, List.length_singleton] at hi
    rw [htk i (by omega)]
    by_cases hil : i < rows.length
    · exact h.lt i hil
    · have : i = rows.length := by omega
      subst this
      rw [List.take_length, h.eq]; exact hlt
  · rw [List.length_append, List.length_singleton] at hi
    rw [htk i (by omega)]
    by_cases hil : i < rows.length
    · have hg : (rows ++ [rowL (onceC T L) T]).getD i [] = rows.getD i [] := by
        rw [List.getD_eq_getElem?_getD, List.getElem?_append_left hil, ← List.getD_eq_getElem?_getD]
      rw [hg] at hx ⊢
      exact h.le i k x hil hx
    · have : i = rows.length := by omega
      subst this
      have hg : (rows ++ [rowL (onceC T L) T]).getD rows.length [] = rowL (onceC T L) T := by rw [List.getD_eq_getElem?_getD, List.getElem?_append_right (Nat.le_refl _)]; simp
      rw [hg] at hx ⊢
      rw [List.take_length, h.eq]
      have hk : k < T.length := by have := (List.getElem?_eq_some_iff.1 hx).1; simpa [rowL] using this
      rw [row_get hk] at hx
      rw [nx_row k (Nat.le_of_lt hk), ← Option.some.inj hx]
      exact (addC_step _ _).1
theorem tabIt_scan {f : List Nd} {m0 : Nat} : ∀ (k : Nat) (L : List Cov) (rows : List (List Nat)), Scan m0 L rows → ∀ L' rows', tabIt f k L rows = some (L', rows') → Scan m0 L' rows' ∧ (L.length ≤ 256 → L'.length ≤ 256)
  | 0, _, _, _, _, _, h => by cases h
  | k + 1, L, rows, hi, L', rows', h => by
    unfold tabIt at h
    split at h
    · next hlt =>
      split at h
      · cases h
      · next hb =>
        obtain ⟨a, b⟩ := tabIt_scan k _ _ (hi.step hlt _) L' rows' h
        exact ⟨a, fun _ => b (by omega)⟩
    · injection h with h
      injection h with h1 h2
      subst h1; subst h2
      exact ⟨hi, fun h => h⟩
theorem tab_scan {f : List Nd} {L : List Cov} {rows : List (List Nat)} (h : tabL f = some (L, rows)) : Scan (firstL f).length L rows ∧ L.length ≤ 256 := by
  unfold tabL at h
  split at h
  · cases h
  · next hb =>
    obtain ⟨a, b⟩ := tabIt_scan _ _ _ (show Scan (firstL f).length (firstL f) [] from ⟨rfl, fun i hi => by simp at hi, fun i k x hi => by simp at hi⟩) L rows h
    exact ⟨a, b (by omega)⟩
theorem meets_lt (f : List Nd) (now : List Int) : meetsN f now < 2 ^ (utl 0 f).length := by
  unfold meetsN
  split
  · refine Nat.lt_pow_two_of_testBit _ (fun i hi => ?_)
    rw [meets_bit]
    simp; omega
  · exact Nat.two_pow_pos _
end Go.Proofs.YtamhjgkigjpbhaaDoor
