/- The stack of forms on the way. Plain. -/
import Derived.Test.YtkikkplpalabhaaMs
namespace Go.Proofs.Ytkikkplpalabhaa

theorem isNl_all : ∀ (ts : List Tr) (p : Int), (∀ t ∈ ts, t.ok) → isNl p (ts.flatMap Tr.flat) = true → ∀ t ∈ ts, t.nnf
  | [], _, _, _ => by simp
  | t :: ts, p, hok, h => by
    rw [List.flatMap_cons, isNl_append, Bool.and_eq_true] at h
    intro u hu
    rcases List.mem_cons.1 hu with rfl | hu
    · exact (isNl_flat u p (hok u List.mem_cons_self)).1 h.1
    · exact isNl_all ts _ (fun t ht => hok t (List.mem_cons_of_mem _ ht)) h.2 u hu
theorem isNl_take {f : List Nd} {p : Int} (h : isNl p f = true) (k : Nat) : isNl p (f.take k) = true := by
  rw [← List.take_append_drop k f, isNl_append, Bool.and_eq_true] at h
  exact h.1
theorem ostep_trees : ∀ (ts : List Tr) (st : List (List Nd)), (∀ t ∈ ts, t.ok ∧ t.nnf) → (ts.flatMap Tr.flat).foldl ostep st = st ++ ts.map fun t => (onceT t).flat
  | [], st, _ => by simp
  | t :: ts, st, h => by
    have ht := h t List.mem_cons_self
    rw [List.flatMap_cons, List.foldl_append, ostep_flat t st ht.1 ht.2, ostep_trees ts _ (fun u hu => h u (List.mem_cons_of_mem _ hu))]
    simp
theorem size_sum : ∀ (ts : List Tr) t, t ∈ ts → t.size ≤ (ts.flatMap Tr.flat).length
  | u :: ts, t, h => by
    rw [List.flatMap_cons, List.length_append, u.flat_len]
    rcases List.mem_cons.1 h with rfl | h
    · omega
    · have := size_sum ts t h; omega
/-- The stack ahead of node k. -/
def stkL (f : List Nd) (k : Nat) : List (List Nd) := (f.take k).foldl ostep []
theorem stkL_step {f : List Nd} {k : Nat} (hk : k < f.length) : stkL f (k + 1) = ostep (stkL f k) f[k] := by
  rw [stkL, take_snoc f k hk, List.foldl_append]; rfl
/-- What a round meets. -/
structure StkOk (f : List Nd) (k : Nat) (st : List (List Nd)) : Prop where
  tree : ∀ r ∈ st, ∃ t : Tr, Fine t ∧ r = t.flat ∧ r.length ≤ k
  len : scan (f.take k) 0 = (0, st.length)
  le : st.length ≤ k
theorem stkL_ok {f : List Nd} (h : isN f = true) {k : Nat} (hk : k ≤ f.length) : StkOk f k (stkL f k) := by
  have hw := isN_good h
  have hs := scan_good hw
  obtain ⟨ts, hok, hfl, hsc⟩ := parse_take f (by rw [hs]) k hk
  have hn : isNl 0 f = true := by simp [isN, hw] at h; exact h
  have hnn := isNl_all ts 0 hok (by rw [← hfl]; exact isNl_take hn k)
  have he : stkL f k = ts.map fun t => (onceT t).flat := by
    rw [stkL, hfl, ostep_trees ts [] (fun t ht => ⟨hok t ht, hnn t ht⟩)]; rfl
  have hlen : (ts.flatMap Tr.flat).length ≤ k := by rw [← hfl, List.length_take]; omega
  refine ⟨fun r hr => ?_, ?_, ?_⟩
  · rw [he] at hr
    obtain ⟨t, ht, rfl⟩ := List.mem_map.1 hr
    have ho := onceT_once t (hok t ht) (hnn t ht)
    refine ⟨_, ho.fine, rfl, ?_⟩
    rw [Tr.flat_len]
    have := ho.size
    have := size_sum ts t ht
    omega
  · rw [he, hsc, List.length_map]
  · have hr := runs_stack hsc
    have := runs1_le (f.take k)
    rw [List.length_take] at this
    rw [he, List.length_map]; omega
/-- The node that comes next. -/
structure NextOk (f : List Nd) (k : Nat) (x : Nd) (d : Nat) : Prop where
  op : x.op = 1 ∨ x.op = 2 ∨ x.op = 3 ∨ (x.op = 4 ∧ 1 ≤ d) ∨ (x.op = 8 ∧ 1 ≤ d) ∨ ((x.op = 5 ∨ x.op = 6 ∨ x.op = 9 ∨ x.op = 10) ∧ 2 ≤ d)
theorem next_ok {f : List Nd} (h : isN f = true) {k : Nat} (hk : k < f.length) {st : List (List Nd)} (hs : StkOk f k st) : NextOk f k f[k] st.length := by
  have hw := isN_good h
  have hb : bad f[k] st.length = 0 := by
    rcases Decidable.em (bad f[k] st.length = 0) with h' | h'
    · exact h'
    · have := (scan_bad hk hs.len h').1
      rw [hw] at this
      exact absurd this.symm h'
  obtain ⟨h0, hle, _⟩ := good_takes hb
  have hn : isNl 0 f = true := by simp [isN, hw] at h; exact h
  have ho : okN (lastOp 0 (f.take k)) f[k] = true := by
    rcases Bool.eq_false_or_eq_true (okN (lastOp 0 (f.take k)) f[k]) with h' | h'
    · exact h'
    · have := isNl_no hk h'
      rw [this] at h; cases h
  refine ⟨?_⟩
  have hbd := takes_bd f[k].op
  have h3 : takes f[k].op = 0 ∨ takes f[k].op = 1 ∨ takes f[k].op = 2 := by omega
  generalize f[k] = x at *
  rcases h3 with h3 | h3 | h3
  · rcases takes_zero h3 with e | e | e <;> simp [e]
  · rcases takes_one h3 with e | e | e | e
    · rw [h3] at hle; simp [e]; omega
    · rw [h3] at hle; simp [e]; omega
    · simp [okN, e] at ho
    · simp [okN, e] at ho
  · rcases takes_two h3 with e | e | e | e | e
    · rw [h3] at hle; simp [e]; omega
    · rw [h3] at hle; simp [e]; omega
    · simp [okN, e] at ho
    · rw [h3] at hle; simp [e]; omega
    · rw [h3] at hle; simp [e]; omega
theorem stkL_end {f : List Nd} (h : isN f = true) : stkL f f.length = [onceL f] := by
  obtain ⟨t, h1, h2, rfl⟩ := isN_tree h
  rw [stkL, List.take_of_length_le (Nat.le_refl _), ostep_flat t [] h1 h2, onceL_flat h1 h2]; rfl
theorem fine_len {t : Tr} : 0 < t.flat.length := by rw [Tr.flat_len]; exact t.size_pos
end Go.Proofs.Ytkikkplpalabhaa
