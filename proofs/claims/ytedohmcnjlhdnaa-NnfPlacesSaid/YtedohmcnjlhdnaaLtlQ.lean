/- Where parts begin: how they lie side by side. Plain. -/
import Derived.Test.YtedohmcnjlhdnaaLtlP
namespace Go.Proofs.Ytedohmcnjlhdnaa

/-- Parts that lie side by side, from place i down to 0: the begins of a stack, the top first. -/
def Chain (o : List Int) : Nat → List Int → Prop
  | i, [] => i = 0
  | i, b :: r => ∃ k : Nat, b = k ∧ k < i ∧ o[i - 1]? = some b ∧ Chain o k r
theorem Chain.more {o : List Int} (x : Int) : ∀ (r : List Int) (i : Nat), i ≤ o.length → Chain o i r → Chain (o ++ [x]) i r
  | [], i, _, h => h
  | b :: r, i, hi, ⟨k, hb, hk, ho, hc⟩ => ⟨k, hb, hk, by rw [List.getElem?_append_left (by omega)]; exact ho, Chain.more x r k (by omega) hc⟩

theorem runs2_take (f : List Nd) : ∀ k, (runs (f.take k)).2 = (runs f).2.take k := by
  intro k
  have h : ∀ (l : List Nd) (s : List Int × List Int), s.2 = (l.foldl stp s).2.take s.2.length := by
    intro l
    induction l with
    | nil => intro s; simp
    | cons x l ih =>
      intro s
      rw [List.foldl_cons]
      have := ih (stp s x)
      have hl : (stp s x).2.length = s.2.length + 1 := by simp [stp]
      have h2 : s.2 = (stp s x).2.take s.2.length := by simp [stp]
      rw [hl] at this
      conv => lhs; rw [h2, this]
      rw [List.take_take, Nat.min_eq_left (by omega)]
  have h1 := h (f.drop k) (runs (f.take k))
  have h2 : (f.drop k).foldl stp (runs (f.take k)) = runs f := by
    unfold runs
    rw [← List.foldl_append, List.take_append_drop]
  rw [h2, runs_len] at h1
  rw [h1]
  by_cases hk : k ≤ f.length
  · rw [List.length_take, Nat.min_eq_left hk]
  · rw [List.length_take, Nat.min_eq_right (by omega), List.take_of_length_le (by rw [runs_len]; exact Nat.le_refl _), List.take_of_length_le (by rw [runs_len]; omega)]

/-- What a node's begin, and the begins ahead of it, have to do with one another. -/
def Lies (s : List Int) (x : Nd) (i : Nat) : Prop :=
  (takes x.op = 0 ∧ s[i]? = some (i : Int)) ∨
  (takes x.op = 1 ∧ 1 ≤ i ∧ ∃ v : Nat, v < i ∧ s[i]? = some (v : Int) ∧ s[i - 1]? = some (v : Int)) ∨
  (takes x.op = 2 ∧ 2 ≤ i ∧ ∃ v a : Nat, v ≤ a ∧ a + 1 < i ∧ s[i]? = some (v : Int) ∧ s[i - 1]? = some ((a : Int) + 1) ∧ s[a]? = some (v : Int))

theorem chain_step {st o : List Int} {x : Nd} {i : Nat} (hi : o.length = i) (hc : Chain o i st.reverse) (hb : bad x st.length = 0) :
    Chain (stp (st, o) x).2 (i + 1) (stp (st, o) x).1.reverse ∧ Lies (stp (st, o) x).2 x i := by
  obtain ⟨h0, hle, _⟩ := good_takes hb
  have hbd := takes_bd x.op
  have ht : takes x.op = 0 ∨ takes x.op = 1 ∨ takes x.op = 2 := by omega
  rcases ht with ht | ht | ht
  · have e : stp (st, o) x = (st ++ [(i : Int)], o ++ [(i : Int)]) := by simp [stp, ht, hi]
    rw [e]
    refine ⟨?_, .inl ⟨ht, by simp [hi]⟩⟩
    simp only [List.reverse_append, List.reverse_cons, List.reverse_nil, List.nil_append, List.singleton_append]
    exact ⟨i, rfl, by omega, by simp [hi], Chain.more _ _ _ (by omega) hc⟩
  · obtain ⟨st', c, rfl⟩ : ∃ st' c, st = st' ++ [c] := by
      have hne : st ≠ [] := by rintro rfl; simp [ht] at hle
      exact ⟨st.dropLast, st.getLast hne, (List.dropLast_concat_getLast hne).symm⟩
    have e : stp (st' ++ [c], o) x = (st' ++ [c], o ++ [c]) := by simp [stp, ht]
    rw [e]
    simp only [List.reverse_append, List.reverse_cons, List.reverse_nil, List.nil_append, List.singleton_append] at hc ⊢
    obtain ⟨k, hk, hki, ho, hr⟩ := hc
    refine ⟨⟨k, hk, by omega, by simp [← hi], Chain.more _ _ _ (by omega) hr⟩, .inr (.inl ⟨ht, by omega, k, hki, by rw [← hk]; simp [← hi], ?_⟩)⟩
    rw [← hk, List.getElem?_append_left (by omega)]; exact ho
  · obtain ⟨st', c, d, rfl⟩ : ∃ st' c d, st = st' ++ [c, d] := by
      have h2 : 2 ≤ st.length := by omega
      refine ⟨st.take (st.length - 2), st[st.length - 2], st[st.length - 1], ?_⟩
      conv => lhs; rw [← List.take_append_drop (st.length - 2) st]
      congr 1
      rw [List.drop_eq_getElem_cons (by omega)]
      congr 1
      have : st.length - 2 + 1 = st.length - 1 := by omega
      rw [this, List.drop_eq_getElem_cons (by omega), List.drop_eq_nil_of_le (by omega)]
    have e : stp (st' ++ [c, d], o) x = (st' ++ [c], o ++ [c]) := by
      have h1 : (st' ++ [c, d]).length - 2 = st'.length := by simp
      simp [stp, ht]
    rw [e]
    simp only [List.reverse_append, List.reverse_cons, List.reverse_nil, List.nil_append, List.cons_append] at hc ⊢
    obtain ⟨kd, hkd, hkdi, hod, kc, hkc, hkcd, hoc, hr⟩ := hc
    refine ⟨⟨kc, hkc, by omega, by simp [← hi], Chain.more _ _ _ (by omega) hr⟩, .inr (.inr ⟨ht, by omega, kc, kd - 1, by omega, by omega, by rw [← hkc]; simp [← hi], ?_, ?_⟩)⟩
    · rw [List.getElem?_append_left (by omega), hod, hkd]; congr 1; omega
    · rw [← hkc, List.getElem?_append_left (by omega)]; exact hoc

theorem chain_all {f : List Nd} (hw : wrong f = 0) : ∀ k, k ≤ f.length → Chain (runs (f.take k)).2 k (runs (f.take k)).1.reverse := by
  intro k
  induction k with
  | zero => intro _; simp [runs, Chain]
  | succ k ih =>
    intro hk
    have hkl : k < f.length := by omega
    rw [runs_snoc hkl]
    have hl : (runs (f.take k)).2.length = k := by rw [runs_len, List.length_take]; omega
    exact (chain_step (st := (runs (f.take k)).1) (o := (runs (f.take k)).2) hl (ih (by omega)) (good_at hw hkl).2).1

theorem lies_all {f : List Nd} (hw : wrong f = 0) {k : Nat} (hk : k < f.length) : Lies (spans f) f[k] k := by
  have hl : (runs (f.take k)).2.length = k := by rw [runs_len, List.length_take]; omega
  have h := (chain_step (st := (runs (f.take k)).1) (o := (runs (f.take k)).2) hl (chain_all hw k (by omega)) (good_at hw hk).2).2
  have e : (stp ((runs (f.take k)).1, (runs (f.take k)).2) f[k]).2 = (runs (f.take (k + 1))).2 := by rw [runs_snoc hk]
  rw [e, runs2_take] at h
  have hs : spans f = (runs f).2 := by simp [spans, hw]
  rw [hs]
  have up : ∀ j v, j ≤ k → ((runs f).2.take (k + 1))[j]? = some v → (runs f).2[j]? = some v := by
    intro j v hj hjv
    rw [List.getElem?_take, if_pos (by omega)] at hjv
    exact hjv
  rcases h with ⟨a, b⟩ | ⟨a, b, v, c, d, e⟩ | ⟨a, b, v, q, c, d, e, g, h⟩
  · exact .inl ⟨a, up _ _ (Nat.le_refl _) b⟩
  · exact .inr (.inl ⟨a, b, v, c, up _ _ (Nat.le_refl _) d, up _ _ (by omega) e⟩)
  · exact .inr (.inr ⟨a, b, v, q, c, d, up _ _ (Nat.le_refl _) e, up _ _ (by omega) g, up _ _ (by omega) h⟩)

theorem last_zero {f : List Nd} (hw : wrong f = 0) : 0 < f.length ∧ (spans f)[f.length - 1]? = some 0 := by
  have hne : f ≠ [] := by rintro rfl; simp [wrong_nil] at hw
  have hpos : 0 < f.length := List.length_pos_iff.2 hne
  refine ⟨hpos, ?_⟩
  have hs : spans f = (runs f).2 := by simp [spans, hw]
  have hc := chain_all hw f.length (Nat.le_refl _)
  rw [List.take_of_length_le (Nat.le_refl _)] at hc
  have h1 : (runs f).1.length ≤ 1 := by
    rw [wrong_run hne] at hw
    split at hw
    · split at hw
      · omega
      · omega
    · rename_i h; exact absurd hw h
  rw [hs]
  match h : (runs f).1.reverse, hc with
  | [], hc => simp only [Chain] at hc; omega
  | [b], hc =>
    obtain ⟨k, hb, _, ho, h0⟩ := hc
    simp only [Chain] at h0
    subst h0
    rw [ho, hb]; rfl
  | b :: c :: r, _ =>
    have := congrArg List.length h
    simp at this
    omega
end Go.Proofs.Ytedohmcnjlhdnaa
