/- Arguments opened: rows of numbers and of bools, structs; and how many bytes they take. No program in sight. -/
import Derived.Test.YtedohmcnjlhdnaaOpen
import Derived.SizedLaws
import Derived.Lib.SmallJoins
namespace Go.Proofs.Ytedohmcnjlhdnaa
open Go.ChangeShapes Go.WideShapes Go.RowKit Go.Deep

/-- No string, slice or map within takes more than the reach. -/
def Small {H : Type} (P : Program) (t : TypeId) (d : DataW H) : Prop := ∀ n ∈ d.weights P t, n ≤ reachBytes

section
variable {H : Type} {enc : TypeId × Value → H} {P : Program} {w : World} {base : Nat} {spare : Nat → Bool} {held : Bool}

theorem small_arg {ts : List TypeId} {ds : List (DataW H)} (h : (DataW.weightsEach P ts ds).all (· ≤ reachBytes) = true) {j : Nat} {t : TypeId} {d : DataW H} (ht : ts[j]? = some t) (hd : ds[j]? = some d) : Small P t d :=
  fun n hn => of_decide_eq_true (List.all_eq_true.1 h n (DataW.weights_mem_each ht hd n hn))
theorem small_agg {t : TypeId} {fs : Array Field} {parts : List (DataW H)} (hs : P.underlying t = some (.struct fs)) (h : Small P t (.agg parts)) {i : Nat} {f : Field} {d : DataW H} (hf : fs[i]? = some f) (hd : parts[i]? = some d) : Small P f.type d :=
  fun n hn => h n (by
    simp only [DataW.weights, hs]
    exact DataW.weights_mem_each (j := i) (t := f.type) (by rw [List.getElem?_map, Array.getElem?_toList, hf]; rfl) hd n hn)
theorem weightsAll_mem {e : TypeId} {d : DataW H} : ∀ {E : List (DataW H)}, d ∈ E → ∀ n ∈ d.weights P e, n ∈ DataW.weightsAll P e E
  | x :: E, hd, n, hn => by
    simp only [DataW.weightsAll, List.mem_append]
    rcases List.mem_cons.1 hd with rfl | h
    · exact .inl hn
    · exact .inr (weightsAll_mem h n hn)
theorem small_slice {t e : TypeId} {E S : List (DataW H)} (ht : P.underlying t = some (.slice e)) (h : Small P t (.slice E S)) : E.length * P.bytesOf e ≤ reachBytes ∧ ∀ d ∈ E, Small P e d := by
  constructor
  · have := h ((E.length + S.length) * P.bytesOf e) (by simp [DataW.weights, ht])
    exact Nat.le_trans (Nat.mul_le_mul_right _ (Nat.le_add_right _ _)) this
  · intro d hd n hn
    refine h n ?_
    simp only [DataW.weights, ht, List.mem_cons, List.mem_append]
    exact .inr (.inl (weightsAll_mem hd n hn))

theorem choose_map {β : Type} (f : β → Value) (G : β → Prop) : ∀ {xs : List Value}, (∀ v ∈ xs, ∃ b, v = f b ∧ G b) → ∃ l : List β, xs = l.map f ∧ ∀ b ∈ l, G b
  | [], _ => ⟨[], rfl, by simp⟩
  | v :: r, h => by
    obtain ⟨b, hb, hg⟩ := h v (by simp)
    obtain ⟨l, hl, hgl⟩ := choose_map f G (xs := r) (fun v hv => h v (by simp [hv]))
    exact ⟨b :: l, by rw [hb, hl]; rfl, by simpa using ⟨hg, hgl⟩⟩
theorem choose_rel {α β : Type} (R : α → β → Prop) : ∀ {xs : List α}, (∀ v ∈ xs, ∃ b, R v b) → ∃ l : List β, l.length = xs.length ∧ ∀ (j : Nat) v, xs[j]? = some v → ∃ b, l[j]? = some b ∧ R v b
  | [], _ => ⟨[], rfl, by simp⟩
  | v :: r, h => by
    obtain ⟨b, hb⟩ := h v (by simp)
    obtain ⟨l, hl, hr⟩ := choose_rel R (xs := r) (fun v hv => h v (by simp [hv]))
    refine ⟨b :: l, by simp [hl], fun j u hj => ?_⟩
    cases j with
    | zero => simp at hj; subst hj; exact ⟨b, rfl, hb⟩
    | succ j => simp at hj; simpa using hr j u hj

/-- A slice of elements of one cell each. -/
theorem open_row1 {t e : TypeId} {fuel : Nat} {cs : List Value} {x : DataW H × List MemPlace} (ht : P.underlying t = some (.slice e)) (hc : P.cellsOf e = 1) (h : DataW.trod enc P w base spare held fuel t cs = some x) (hs : Small P t x.1) :
    ∃ (A : Option Addr) (c : Nat) (xs : List Value), cs = [.slice A xs.length c] ∧ Sl w w.heap.size 1 A xs.length c xs ∧ xs.length * P.bytesOf e ≤ reachBytes ∧
      ∀ v ∈ xs, ∃ n d p, DataW.trod enc P w base spare held n e [v] = some (d, p) ∧ Small P e d := by
  rcases open_slice1 ht hc h with ⟨hcs, _⟩ | ⟨a, len, cap, m, n, V, D, Pl, hcs, hb, hl, hm, hmm, hx, hi⟩
  · exact ⟨none, 0, [], hcs, Sl.none_ _ _ _, by simp, by simp⟩
  · have hlm : len ≤ m := by rw [hmm]; split <;> omega
    rw [hx] at hs
    obtain ⟨hs1, hs2⟩ := small_slice ht hs
    refine ⟨some a, cap, (List.range len).map V, by simp [hcs], ⟨by simp, by simpa using hl, hm, (fun h => by cases h), rd_of_cells fun j u hj => ?_⟩, by simpa using hs1, fun v hv => ?_⟩
    · simp only [List.getElem?_map] at hj
      by_cases hlt : j < len
      · rw [List.getElem?_range hlt] at hj
        simp at hj
        rw [← hj]; exact (hi j (by omega)).1
      · rw [List.getElem?_eq_none (by simp; omega)] at hj; cases hj
    · obtain ⟨i, hi', rfl⟩ := List.mem_map.1 hv
      have hil := List.mem_range.1 hi'
      exact ⟨n, D i, Pl i, (hi i (by omega)).2, hs2 _ (List.mem_map.2 ⟨i, hi', rfl⟩)⟩

/-- A slice of numbers. -/
theorem open_nums {t e : TypeId} {k : IntKind} {fuel : Nat} {cs : List Value} {x : DataW H × List MemPlace} (ht : P.underlying t = some (.slice e)) (hc : P.cellsOf e = 1) (he : P.underlying e = some (.int k)) (h : DataW.trod enc P w base spare held fuel t cs = some x) (hs : Small P t x.1) :
    ∃ (A : Option Addr) (c : Nat) (l : List Int), cs = [.slice A l.length c] ∧ Sl w w.heap.size 1 A l.length c (l.map (.int k)) ∧ l.length * P.bytesOf e ≤ reachBytes ∧ ∀ n ∈ l, (Lit.int k n).wf = true := by
  obtain ⟨A, c, xs, h1, h2, h3, h4⟩ := open_row1 ht hc h hs
  obtain ⟨l, rfl, hl⟩ := choose_map (Value.int k) (fun n => (Lit.int k n).wf = true) (xs := xs) (fun v hv => by
    obtain ⟨n, d, p, hd, _⟩ := h4 v hv
    obtain ⟨q, hq, _, wq⟩ := DataW.trod_int he hd
    simp at hq
    exact ⟨q, hq, wq⟩)
  simp only [List.length_map] at h1 h2 h3
  exact ⟨A, c, l, h1, h2, h3, hl⟩
/-- A slice of bools. -/
theorem open_bools' {t e : TypeId} {fuel : Nat} {cs : List Value} {x : DataW H × List MemPlace} (ht : P.underlying t = some (.slice e)) (hc : P.cellsOf e = 1) (he : P.underlying e = some .bool) (h : DataW.trod enc P w base spare held fuel t cs = some x) (hs : Small P t x.1) :
    ∃ (A : Option Addr) (c : Nat) (l : List Bool), cs = [.slice A l.length c] ∧ Sl w w.heap.size 1 A l.length c (l.map .bool) ∧ l.length * P.bytesOf e ≤ reachBytes := by
  obtain ⟨A, c, xs, h1, h2, h3, h4⟩ := open_row1 ht hc h hs
  obtain ⟨l, rfl, hl⟩ := choose_map Value.bool (fun _ => True) (xs := xs) (fun v hv => by
    obtain ⟨n, d, p, hd, _⟩ := h4 v hv
    obtain ⟨q, hq, _⟩ := DataW.trod_bool he hd
    simp at hq
    exact ⟨q, hq, trivial⟩)
  simp only [List.length_map] at h1 h2 h3
  exact ⟨A, c, l, h1, h2, h3⟩
/-- A slice of nodes. -/
theorem open_nodes' {t e : TypeId} {f0 f1 : Field} {fuel : Nat} {cs : List Value} {x : DataW H × List MemPlace} (ht : P.underlying t = some (.slice e)) (he : P.underlying e = some (.struct #[f0, f1]))
    (hone : oneCellFields P #[f0, f1] = true) (hC : P.cellsOf e = 2) (h0 : P.underlying f0.type = some (.int .i64)) (h1 : P.underlying f1.type = some (.int .i64))
    (h : DataW.trod enc P w base spare held fuel t cs = some x) (hs : Small P t x.1) :
    ∃ (A : Option Addr) (c : Nat) (f : List Nd), cs = [.slice A f.length c] ∧ Sl w w.heap.size 2 A f.length c (ncells f) ∧ (∀ x ∈ f, NdOk x) ∧ f.length * P.bytesOf e ≤ reachBytes := by
  obtain ⟨A, c, f, a1, a2, a3, a4⟩ := open_nodes ht he hone hC h0 h1 h
  refine ⟨A, c, f, a1, a2, a3, ?_⟩
  rcases a4 with a4 | ⟨E, S, a4, a5⟩
  · rw [a4]; omega
  · rw [a4] at hs
    rw [← a5]; exact (small_slice ht hs).1
/-- A struct of two slices of numbers. -/
theorem open_two {r : Reach} {b0 : Nat} {t t0 t1 e0 e1 : TypeId} {f0 f1 : Field} {k0 k1 : IntKind} {v : Value} {d : DataW H} {p : List MemPlace} (hs : P.underlying t = some (.struct #[f0, f1])) (hone : oneCellFields P #[f0, f1] = true) (hC : P.cellsOf t = 2)
    (e0f : f0.type = t0) (e1f : f1.type = t1) (ht0 : P.underlying t0 = some (.slice e0)) (ht1 : P.underlying t1 = some (.slice e1)) (hc0 : P.cellsOf e0 = 1) (hc1 : P.cellsOf e1 = 1) (he0 : P.underlying e0 = some (.int k0)) (he1 : P.underlying e1 = some (.int k1))
    (hv : Value.okWide P w r b0 t v) (h : DataW.Trod enc P w base spare held t v d p) (hsm : Small P t d) :
    ∃ (A : Option Addr) (c : Nat) (l : List Int) (B : Option Addr) (c' : Nat) (m : List Int), v = .agg #[.slice A l.length c, .slice B m.length c'] ∧ Sl w w.heap.size 1 A l.length c (l.map (.int k0)) ∧ Sl w w.heap.size 1 B m.length c' (m.map (.int k1)) ∧
      l.length * P.bytesOf e0 ≤ reachBytes ∧ m.length * P.bytesOf e1 ≤ reachBytes ∧ (∀ n ∈ l, (Lit.int k0 n).wf = true) ∧ ∀ n ∈ m, (Lit.int k1 n).wf = true := by
  subst e0f; subst e1f
  obtain ⟨v0, v1, y0, y1, n, rfl, rfl, _, h0, h1⟩ := Joins.open_agg2 hs hone hC hv h
  obtain ⟨A, c, l, a1, a2, a3, a4⟩ := open_nums ht0 hc0 he0 h0 (small_agg hs hsm (i := 0) rfl rfl)
  obtain ⟨B, c', m, b1, b2, b3, b4⟩ := open_nums ht1 hc1 he1 h1 (small_agg hs hsm (i := 1) rfl rfl)
  simp at a1 b1
  subst a1; subst b1
  exact ⟨A, c, l, B, c', m, rfl, a2, b2, a3, b3, a4, b4⟩
end
end Go.Proofs.Ytedohmcnjlhdnaa
