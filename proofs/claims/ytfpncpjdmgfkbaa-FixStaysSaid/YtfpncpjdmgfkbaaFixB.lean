/- Whether nodes are a lasso, as it is told step by step. -/
import Derived.Test.YtfpncpjdmgfkbaaFixT
import Derived.Test.YtfpncpjdmgfkbaaFx4
namespace Go.Proofs.Ytfpncpjdmgfkbaa

def begB (init : List Int) (a0 : Int) : Bool := init.any (fun i => i == a0)
def leadB (n : Nat) (E : List (List Nd)) (a t : Int) : Bool := isNd n a && (isNd n t && edgeB (E.getD a.toNat []) t)
def chB (n : Nat) (E : List (List Nd)) (W : List Int) (k : Nat) : Bool := (List.range k).all (fun i => leadB n E (W.getD i 0) (W.getD (i + 1) 0))
def metB (loop : List Int) (s : List Bool) : Bool := loop.any (fun x => hasB s x)
def isB (n : Nat) (E : List (List Nd)) (init : List Int) (sets : List (List Bool)) (stem loop : List Int) : Bool :=
  !loop.isEmpty && (begB init ((stem ++ loop).getD 0 0) && (chB n E (stem ++ loop ++ loop.take 1) (stem ++ loop).length && sets.all (metB loop)))
theorem edgeB_iff {l : List Nd} {b : Int} : edgeB l b = true ↔ b ∈ tgts l := by
  rw [edgeB, List.any_eq_true, tgts, List.mem_map]
  constructor
  · rintro ⟨e, he, h⟩; exact ⟨e, he, by simpa using h⟩
  · rintro ⟨e, he, h⟩; exact ⟨e, he, by simpa using h⟩
theorem begB_succ {l : List Int} {k : Nat} (hk : k < l.length) (a : Int) : begB (l.take (k + 1)) a = (begB (l.take k) a || l[k] == a) := by
  rw [begB, begB, take_snoc l k hk, List.any_append]; simp
theorem chB_succ (n : Nat) (E : List (List Nd)) (W : List Int) (k : Nat) : chB n E W (k + 1) = (chB n E W k && leadB n E (W.getD k 0) (W.getD (k + 1) 0)) := by
  rw [chB, chB, List.range_succ, List.all_append]; simp
theorem chB_not {n : Nat} {E : List (List Nd)} {W : List Int} {k m : Nat} (hk : k < m) (h : leadB n E (W.getD k 0) (W.getD (k + 1) 0) = false) : chB n E W m = false := by
  rw [chB, List.all_eq_false]
  exact ⟨k, List.mem_range.2 hk, by rw [h]; decide⟩
theorem metB_succ {l : List Int} {k : Nat} (hk : k < l.length) (s : List Bool) : metB (l.take (k + 1)) s = (metB (l.take k) s || hasB s l[k]) := by
  rw [metB, metB, take_snoc l k hk, List.any_append]; simp
theorem loop_W {stem loop : List Int} (h : loop ≠ []) : stem ++ loop ++ loop.take 1 = stem ++ loop ++ [loop.getD 0 0] := by
  cases loop with
  | nil => exact absurd rfl h
  | cons a l => simp
theorem W_at {L : List Int} {x : Int} {k : Nat} (h : k < L.length) : (L ++ [x]).getD k 0 = L[k] := by
  simp [List.getD, List.getElem?_append_left h, h]
theorem W_end {L : List Int} {x : Int} {k : Nat} (h : k = L.length) : (L ++ [x]).getD k 0 = x := by
  subst h; simp [List.getD]
theorem isB_iff {n : Nat} {E : List (List Nd)} {init : List Int} {sets : List (List Bool)} {stem loop : List Int} : isB n E init sets stem loop = true ↔ IsL n E init sets stem loop := by
  rw [isB, Bool.and_eq_true, Bool.and_eq_true, Bool.and_eq_true]
  have hget : ∀ {L : List Int} {i : Nat} {x : Int}, L[i]? = some x → L.getD i 0 = x := fun h => by rw [List.getD, h]; rfl
  constructor
  · rintro ⟨h1, h2, h3, h4⟩
    have hne : loop ≠ [] := by rintro rfl; simp at h1
    have hlp : 0 < loop.length := List.length_pos_iff.2 hne
    rw [chB, List.all_eq_true] at h3
    have hW := loop_W (stem := stem) hne
    have hWl : (stem ++ loop ++ loop.take 1).length = (stem ++ loop).length + 1 := by rw [hW]; simp; omega
    refine ⟨hne, fun x hx => ?_, ?_, fun i x y hx hy => ?_, fun s hs => ?_⟩
    · obtain ⟨i, hi⟩ := List.getElem?_of_mem hx
      have hil := (List.getElem?_eq_some_iff.1 hi).1
      have := h3 i (List.mem_range.2 hil)
      rw [leadB, Bool.and_eq_true] at this
      rw [hget (L := stem ++ loop ++ loop.take 1) (x := x) (by rw [List.getElem?_append_left hil]; exact hi)] at this
      exact this.1
    · have h0 : (stem ++ loop)[0]? = some ((stem ++ loop)[0]'(by simp; omega)) := List.getElem?_eq_getElem _
      refine ⟨_, h0, ?_⟩
      rw [hget h0, begB, List.any_eq_true] at h2
      obtain ⟨i, hi, h⟩ := h2
      have : i = (stem ++ loop)[0]'(by simp; omega) := by simpa using h
      rw [← this]; exact hi
    · have hyl := (List.getElem?_eq_some_iff.1 hy).1
      have := h3 i (List.mem_range.2 (by omega))
      rw [hget hx, hget hy, leadB, Bool.and_eq_true, Bool.and_eq_true] at this
      exact edgeB_iff.1 this.2.2
    · have := List.all_eq_true.1 h4 s hs
      rw [metB, List.any_eq_true] at this
      exact this
  · intro h
    have hne := h.ne
    have hlp : 0 < loop.length := List.length_pos_iff.2 hne
    have hW := loop_W (stem := stem) hne
    have hWl : (stem ++ loop ++ loop.take 1).length = (stem ++ loop).length + 1 := by rw [hW]; simp; omega
    refine ⟨by cases loop with | nil => exact absurd rfl hne | cons a l => rfl, ?_, ?_, ?_⟩
    · obtain ⟨x, h0, hi⟩ := h.begins
      rw [hget h0, begB, List.any_eq_true]
      exact ⟨x, hi, by simp⟩
    · rw [chB, List.all_eq_true]
      intro i hi
      have hil := List.mem_range.1 hi
      have hx : (stem ++ loop ++ loop.take 1)[i]? = some ((stem ++ loop ++ loop.take 1)[i]'(by omega)) := List.getElem?_eq_getElem _
      have hy : (stem ++ loop ++ loop.take 1)[i + 1]? = some ((stem ++ loop ++ loop.take 1)[i + 1]'(by omega)) := List.getElem?_eq_getElem _
      have hmem : ∀ x ∈ stem ++ loop ++ loop.take 1, isNd n x = true := by
        intro x hx
        rcases List.mem_append.1 hx with h' | h'
        · exact h.nd x h'
        · exact h.nd x (List.mem_append_right _ (List.mem_of_mem_take h'))
      rw [hget hx, hget hy, leadB, Bool.and_eq_true, Bool.and_eq_true]
      exact ⟨hmem _ (List.mem_of_getElem? hx), hmem _ (List.mem_of_getElem? hy), edgeB_iff.2 (h.chain i _ _ hx hy)⟩
    · rw [List.all_eq_true]
      intro s hs
      rw [metB, List.any_eq_true]
      exact h.met s hs
end Go.Proofs.Ytfpncpjdmgfkbaa
