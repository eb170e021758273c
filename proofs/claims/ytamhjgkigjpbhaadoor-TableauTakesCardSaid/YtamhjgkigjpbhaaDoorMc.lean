/- Texts of one kind, in one file. -/
import Derived.Test.YtamhjgkigjpbhaaDoorMa
import Derived.ProofKit
import Derived.Deep.Slices
import Derived.Deep.Fields
import Derived.SizedLaws
import Derived.Lib.SmallJoins
/- (XOpen) Arguments opened: a list of nodes, a list of numbers. No program in sight. -/
namespace Go.Proofs.YtamhjgkigjpbhaaDoor
open Go.ChangeShapes Go.WideShapes Go.RowKit Go.Deep

section
variable {H : Type} {enc : TypeId × Value → H} {P : Program} {w : World} {base : Nat} {spare : Nat → Bool} {held : Bool}

/-- A row of plain cells that came in: one address for all. -/
theorem rd_of_cells {a : Addr} {xs : List Value} (h : ∀ j u, xs[j]? = some u → w.cell? (a.add j) = some u) : Rd w w.heap.size (some a) xs := by
  rcases xs with _ | ⟨x, r⟩
  · exact .inl rfl
  · have h0 := h 0 x rfl
    have hs := World.cell?_spot h0
    have hb := World.block_lt_of_cell? w _ h0
    obtain ⟨b, off, spot⟩ := a
    have hspot : spot = none := by simpa [Addr.add] using hs
    subst hspot
    refine .inr ⟨b, off, rfl, by simpa [Addr.add] using hb, fun j u hj => ?_⟩
    have hadd : (⟨b, off, none⟩ : Addr).add j = ⟨b, off + j, none⟩ := by
      unfold Addr.add
      split
      · rename_i h; subst h; rfl
      · rfl
    rw [← hadd]
    exact h j u hj

/-- A node's numbers fit an int. -/
def NdOk (x : Nd) : Prop := (Lit.int .i64 x.op).wf = true ∧ (Lit.int .i64 x.n).wf = true

theorem open_nodes {t e : TypeId} {f0 f1 : Field} {fuel : Nat} {cs : List Value} {x : DataW H × List MemPlace} (ht : P.underlying t = some (.slice e)) (he : P.underlying e = some (.struct #[f0, f1]))
    (hone : oneCellFields P #[f0, f1] = true) (hC : P.cellsOf e = 2) (h0 : P.underlying f0.type = some (.int .i64)) (h1 : P.underlying f1.type = some (.int .i64))
    (h : DataW.trod enc P w base spare held fuel t cs = some x) :
    ∃ (A : Option Addr) (c : Nat) (f : List Nd), cs = [.slice A f.length c] ∧ Sl w w.heap.size 2 A f.length c (ncells f) ∧ (∀ x ∈ f, NdOk x) ∧ (f.length = 0 ∨ ∃ E S, x.1 = .slice E S ∧ E.length = f.length) := by
  rcases open_slice ht h with ⟨hcs, _⟩ | ⟨a, len, cap, m, n, D, Pl, hcs, hb, hl, hm, hmm, hx, hi⟩
  · exact ⟨none, 0, [], hcs, Sl.none_ _ _ _, by simp, .inl rfl⟩
  · have hlm : len ≤ m := by rw [hmm]; split <;> omega
    have key : ∀ i, i < len → ∃ y : Nd, w.cell? (a.add (i * 2)) = some (.int .i64 y.op) ∧ w.cell? (a.add (i * 2 + 1)) = some (.int .i64 y.n) ∧ NdOk y := by
      intro i hlt
      obtain ⟨cs', hc, hd⟩ := hi i (by omega)
      rw [hC] at hc
      obtain ⟨_, hcl, hat⟩ := World.cells?_some hc
      obtain ⟨ys, n', _, _, _, hyl, hf⟩ := DataW.trod_struct he hd
      have hyl2 : ys.length = 2 := hyl
      obtain ⟨o0, k0⟩ := hone_of hone 0 f0 rfl
      obtain ⟨o1, k1⟩ := hone_of hone 1 f1 rfl
      match cs', hcl with
      | [u, v], _ =>
        have e0 := hf 0 f0 rfl
        have e1 := hf 1 f1 rfl
        rw [o0, k0] at e0
        rw [o1, k1] at e1
        have g0 := hat 0 (by omega)
        have g1 := hat 1 (by omega)
        rw [add_add] at g0 g1
        obtain ⟨q, hq⟩ : ∃ q, ys[0]? = some q := by
          rw [List.getElem?_eq_getElem (by omega)]; exact ⟨_, rfl⟩
        obtain ⟨q', hq'⟩ : ∃ q, ys[1]? = some q := by
          rw [List.getElem?_eq_getElem (by omega)]; exact ⟨_, rfl⟩
        rw [hq] at e0
        rw [hq'] at e1
        obtain ⟨p, hp, _, wp⟩ := DataW.trod_int h0 e0
        obtain ⟨p', hp', _, wp'⟩ := DataW.trod_int h1 e1
        simp at hp hp'
        subst hp; subst hp'
        exact ⟨⟨p, p'⟩, by simpa using g0, by simpa using g1, wp, wp'⟩
    have key2 : ∀ k, k ≤ len → ∃ f : List Nd, f.length = k ∧ (∀ i (hi : i < f.length), w.cell? (a.add (i * 2)) = some (.int .i64 f[i].op) ∧ w.cell? (a.add (i * 2 + 1)) = some (.int .i64 f[i].n)) ∧ ∀ x ∈ f, NdOk x := by
      intro k
      induction k with
      | zero => intro _; exact ⟨[], rfl, fun i hi => by simp at hi, by simp⟩
      | succ k ih =>
        intro hk
        obtain ⟨f, hf, hc, hok⟩ := ih (by omega)
        obtain ⟨y, h1, h2, h3⟩ := key k (by omega)
        refine ⟨f ++ [y], by simp [hf], fun i hi => ?_, fun x hx => ?_⟩
        · by_cases hik : i < f.length
          · rw [List.getElem_append_left hik]; exact hc i hik
          · have : i = f.length := by simp at hi; omega
            subst this
            rw [List.getElem_append_right (Nat.le_refl _)]
            simp only [Nat.sub_self, List.getElem_cons_zero]
            rw [hf]; exact ⟨h1, h2⟩
        · simp only [List.mem_append, List.mem_singleton] at hx
          rcases hx with hx | rfl
          · exact hok x hx
          · exact h3
    obtain ⟨f, hf, hc, hok⟩ := key2 len (Nat.le_refl _)
    refine ⟨some a, cap, f, by rw [hcs, hf], ⟨ncells_len f, by omega, hm, (fun h => by cases h), rd_of_cells fun j u hj => ?_⟩, hok, .inr ⟨_, _, by rw [hx], by simp [hf]⟩⟩
    have hjl : j < (ncells f).length := (List.getElem?_eq_some_iff.1 hj).1
    rw [ncells_len] at hjl
    obtain ⟨i, hi⟩ : ∃ i, j = i * 2 ∨ j = i * 2 + 1 := ⟨j / 2, by omega⟩
    rcases hi with rfl | rfl
    · have hif : i < f.length := by omega
      rw [ncells0] at hj
      simp [hif] at hj
      rw [← hj]; exact (hc i hif).1
    · have hif : i < f.length := by omega
      rw [ncells1] at hj
      simp [hif] at hj
      rw [← hj]; exact (hc i hif).2
end
end Go.Proofs.YtamhjgkigjpbhaaDoor

/- (XOpen2) Arguments opened: rows of numbers and of bools, structs; and how many bytes they take. No program in sight. -/
namespace Go.Proofs.YtamhjgkigjpbhaaDoor
open Go.ChangeShapes Go.WideShapes Go.RowKit Go.Deep

/-- No string, slice or map within takes more than the reach. -/
def Small {H : Type} (P : Program) (t : TypeId) (d : DataW H) : Prop := ∀ n ∈ d.weights P t, n ≤ reachBytes

section
variable {H : Type} {enc : TypeId × Value → H} {P : Program} {w : World} {base : Nat} {spare : Nat → Bool} {held : Bool}

theorem small_arg {ts : List TypeId} {ds : List (DataW H)} (h : (DataW.weightsEach P ts ds).all (· ≤ reachBytes) = true) {j : Nat} {t : TypeId} {d : DataW H} (ht : ts[j]? = some t) (hd : ds[j]? = some d) : Small P t d :=
  fun n hn => of_decide_eq_true (List.all_eq_true.1 h n (DataW.weights_mem_each ht hd n hn))
theorem small_agg {t : TypeId} {fs : Array Field} {parts : List (DataW H)} (hs : P.underlying t = some (.struct fs)) (h : Small P t (.agg parts)) {i : Nat} {f : Field} {d : DataW H} (hf : fs[i]? = some f) (hd : parts[i]? = some d) : Small P f.type d :=
  fun n hn => h n (by
    simp only [DataW.weights, hs]
    exact DataW.weights_mem_each (j := i) (t := f.type) (by rw [List.getElem?_map, Array.getElem?_toList, hf]; rfl) hd n hn)
theorem weightsAll_mem {e : TypeId} {d : DataW H} : ∀ {E : List (DataW H)}, d ∈ E → ∀ n ∈ d.weights P e, n ∈ DataW.weightsAll P e E
  | x :: E, hd, n, hn => by
    simp only [DataW.weightsAll, List.mem_append]
    rcases List.mem_cons.1 hd with rfl | h
    · exact .inl hn
    · exact .inr (weightsAll_mem h n hn)
theorem small_slice {t e : TypeId} {E S : List (DataW H)} (ht : P.underlying t = some (.slice e)) (h : Small P t (.slice E S)) : E.length * P.bytesOf e ≤ reachBytes ∧ ∀ d ∈ E, Small P e d := by
  constructor
  · have := h ((E.length + S.length) * P.bytesOf e) (by simp [DataW.weights, ht])
    exact Nat.le_trans (Nat.mul_le_mul_right _ (Nat.le_add_right _ _)) this
  · intro d hd n hn
    refine h n ?_
    simp only [DataW.weights, ht, List.mem_cons, List.mem_append]
    exact .inr (.inl (weightsAll_mem hd n hn))

theorem choose_map {β : Type} (f : β → Value) (G : β → Prop) : ∀ {xs : List Value}, (∀ v ∈ xs, ∃ b, v = f b ∧ G b) → ∃ l : List β, xs = l.map f ∧ ∀ b ∈ l, G b
  | [], _ => ⟨[], rfl, by simp⟩
  | v :: r, h => by
    obtain ⟨b, hb, hg⟩ := h v (by simp)
    obtain ⟨l, hl, hgl⟩ := choose_map f G (xs := r) (fun v hv => h v (by simp [hv]))
    exact ⟨b :: l, by rw [hb, hl]; rfl, by simpa using ⟨hg, hgl⟩⟩
/-- A slice of elements of one cell each. -/
theorem open_row1 {t e : TypeId} {fuel : Nat} {cs : List Value} {x : DataW H × List MemPlace} (ht : P.underlying t = some (.slice e)) (hc : P.cellsOf e = 1) (h : DataW.trod enc P w base spare held fuel t cs = some x) (hs : Small P t x.1) :
    ∃ (A : Option Addr) (c : Nat) (xs : List Value), cs = [.slice A xs.length c] ∧ Sl w w.heap.size 1 A xs.length c xs ∧ xs.length * P.bytesOf e ≤ reachBytes ∧
      ∀ v ∈ xs, ∃ n d p, DataW.trod enc P w base spare held n e [v] = some (d, p) ∧ Small P e d := by
  rcases open_slice1 ht hc h with ⟨hcs, _⟩ | ⟨a, len, cap, m, n, V, D, Pl, hcs, hb, hl, hm, hmm, hx, hi⟩
  · exact ⟨none, 0, [], hcs, Sl.none_ _ _ _, by simp, by simp⟩
  · have hlm : len ≤ m := by rw [hmm]; split <;> omega
    rw [hx] at hs
    obtain ⟨hs1, hs2⟩ := small_slice ht hs
    refine ⟨some a, cap, (List.range len).map V, by simp [hcs], ⟨by simp, by simpa using hl, hm, (fun h => by cases h), rd_of_cells fun j u hj => ?_⟩, by simpa using hs1, fun v hv => ?_⟩
    · simp only [List.getElem?_map] at hj
      by_cases hlt : j < len
      · rw [List.getElem?_range hlt] at hj
        simp at hj
        rw [← hj]; exact (hi j (by omega)).1
      · rw [List.getElem?_eq_none (by simp; omega)] at hj; cases hj
    · obtain ⟨i, hi', rfl⟩ := List.mem_map.1 hv
      have hil := List.mem_range.1 hi'
      exact ⟨n, D i, Pl i, (hi i (by omega)).2, hs2 _ (List.mem_map.2 ⟨i, hi', rfl⟩)⟩

/-- A slice of numbers. -/
theorem open_nums {t e : TypeId} {k : IntKind} {fuel : Nat} {cs : List Value} {x : DataW H × List MemPlace} (ht : P.underlying t = some (.slice e)) (hc : P.cellsOf e = 1) (he : P.underlying e = some (.int k)) (h : DataW.trod enc P w base spare held fuel t cs = some x) (hs : Small P t x.1) :
    ∃ (A : Option Addr) (c : Nat) (l : List Int), cs = [.slice A l.length c] ∧ Sl w w.heap.size 1 A l.length c (l.map (.int k)) ∧ l.length * P.bytesOf e ≤ reachBytes ∧ ∀ n ∈ l, (Lit.int k n).wf = true := by
  obtain ⟨A, c, xs, h1, h2, h3, h4⟩ := open_row1 ht hc h hs
  obtain ⟨l, rfl, hl⟩ := choose_map (Value.int k) (fun n => (Lit.int k n).wf = true) (xs := xs) (fun v hv => by
    obtain ⟨n, d, p, hd, _⟩ := h4 v hv
    obtain ⟨q, hq, _, wq⟩ := DataW.trod_int he hd
    simp at hq
    exact ⟨q, hq, wq⟩)
  simp only [List.length_map] at h1 h2 h3
  exact ⟨A, c, l, h1, h2, h3, hl⟩
/-- A slice of nodes. -/
theorem open_nodes' {t e : TypeId} {f0 f1 : Field} {fuel : Nat} {cs : List Value} {x : DataW H × List MemPlace} (ht : P.underlying t = some (.slice e)) (he : P.underlying e = some (.struct #[f0, f1]))
    (hone : oneCellFields P #[f0, f1] = true) (hC : P.cellsOf e = 2) (h0 : P.underlying f0.type = some (.int .i64)) (h1 : P.underlying f1.type = some (.int .i64))
    (h : DataW.trod enc P w base spare held fuel t cs = some x) (hs : Small P t x.1) :
    ∃ (A : Option Addr) (c : Nat) (f : List Nd), cs = [.slice A f.length c] ∧ Sl w w.heap.size 2 A f.length c (ncells f) ∧ (∀ x ∈ f, NdOk x) ∧ f.length * P.bytesOf e ≤ reachBytes := by
  obtain ⟨A, c, f, a1, a2, a3, a4⟩ := open_nodes ht he hone hC h0 h1 h
  refine ⟨A, c, f, a1, a2, a3, ?_⟩
  rcases a4 with a4 | ⟨E, S, a4, a5⟩
  · rw [a4]; omega
  · rw [a4] at hs
    rw [← a5]; exact (small_slice ht hs).1
/-- A struct of two slices of numbers. -/
theorem open_two {r : Reach} {b0 : Nat} {t t0 t1 e0 e1 : TypeId} {f0 f1 : Field} {k0 k1 : IntKind} {v : Value} {d : DataW H} {p : List MemPlace} (hs : P.underlying t = some (.struct #[f0, f1])) (hone : oneCellFields P #[f0, f1] = true) (hC : P.cellsOf t = 2)
    (e0f : f0.type = t0) (e1f : f1.type = t1) (ht0 : P.underlying t0 = some (.slice e0)) (ht1 : P.underlying t1 = some (.slice e1)) (hc0 : P.cellsOf e0 = 1) (hc1 : P.cellsOf e1 = 1) (he0 : P.underlying e0 = some (.int k0)) (he1 : P.underlying e1 = some (.int k1))
    (hv : Value.okWide P w r b0 t v) (h : DataW.Trod enc P w base spare held t v d p) (hsm : Small P t d) :
    ∃ (A : Option Addr) (c : Nat) (l : List Int) (B : Option Addr) (c' : Nat) (m : List Int), v = .agg #[.slice A l.length c, .slice B m.length c'] ∧ Sl w w.heap.size 1 A l.length c (l.map (.int k0)) ∧ Sl w w.heap.size 1 B m.length c' (m.map (.int k1)) ∧
      l.length * P.bytesOf e0 ≤ reachBytes ∧ m.length * P.bytesOf e1 ≤ reachBytes ∧ (∀ n ∈ l, (Lit.int k0 n).wf = true) ∧ ∀ n ∈ m, (Lit.int k1 n).wf = true := by
  subst e0f; subst e1f
  obtain ⟨v0, v1, y0, y1, n, rfl, rfl, _, h0, h1⟩ := Joins.open_agg2 hs hone hC hv h
  obtain ⟨A, c, l, a1, a2, a3, a4⟩ := open_nums ht0 hc0 he0 h0 (small_agg hs hsm (i := 0) rfl rfl)
  obtain ⟨B, c', m, b1, b2, b3, b4⟩ := open_nums ht1 hc1 he1 h1 (small_agg hs hsm (i := 1) rfl rfl)
  simp at a1 b1
  subst a1; subst b1
  exact ⟨A, c, l, B, c', m, rfl, a2, b2, a3, b3, a4, b4⟩
end
end Go.Proofs.YtamhjgkigjpbhaaDoor

/- (XRows2) Memory: slices of slices, read, or owned and written row by row. No program in sight. -/
namespace Go.Proofs.YtamhjgkigjpbhaaDoor
open Go.RowKit

/-- '.slice A n c' is a slice of slices; row j reads as the cells L[j]. -/
def Sl2 (w : World) (B size : Nat) (A : Option Addr) (n c : Nat) (L : List (List Value)) : Prop :=
  ∃ vs : List Value, Sl w B 1 A n c vs ∧ vs.length = L.length ∧ ∀ (j : Nat) ys, L[j]? = some ys → ∃ A' n' c', vs[j]? = some (.slice A' n' c') ∧ Sl w B size A' n' c' ys
section
variable {w w' w1 : World} {B B' size n c : Nat} {A : Option Addr} {L : List (List Value)}
theorem Sl2.below (h : Sl2 w B size A n c L) (hb : Below B' w w') (hB : B ≤ B') : Sl2 w' B size A n c L := by
  obtain ⟨vs, h1, h2, h3⟩ := h
  refine ⟨vs, h1.below hb hB, h2, fun j ys hj => ?_⟩
  obtain ⟨A', n', c', a, b⟩ := h3 j ys hj
  exact ⟨A', n', c', a, b.below hb hB⟩
theorem Sl2.up (h : Sl2 w B size A n c L) (hB : B ≤ B') : Sl2 w B' size A n c L := by
  obtain ⟨vs, h1, h2, h3⟩ := h
  refine ⟨vs, h1.up hB, h2, fun j ys hj => ?_⟩
  obtain ⟨A', n', c', a, b⟩ := h3 j ys hj
  exact ⟨A', n', c', a, b.up hB⟩
theorem Sl2.len (h : Sl2 w B size A n c L) : n = L.length := by
  obtain ⟨vs, h1, h2, _⟩ := h
  have := h1.len
  omega
theorem Sl2.cap (h : Sl2 w B size A n c L) : n ≤ c := h.choose_spec.1.cap
theorem Sl2.max (h : Sl2 w B size A n c L) : c ≤ maxLen := h.choose_spec.1.max
theorem Sl2.at_ (h : Sl2 w B size A n c L) {j : Nat} {ys : List Value} (hj : L[j]? = some ys) : ∃ b o A' n' c', A = some ⟨b, o, none⟩ ∧ b < B ∧ w.cell? ⟨b, o + j, none⟩ = some (.slice A' n' c') ∧ Sl w B size A' n' c' ys := by
  obtain ⟨vs, h1, h2, h3⟩ := h
  obtain ⟨A', n', c', a, b⟩ := h3 j ys hj
  obtain ⟨bb, o, hA, hb, hc⟩ := h1.rd.at_ a
  exact ⟨bb, o, A', n', c', hA, hb, hc, b⟩
theorem Sl2.none_ (w : World) (B size : Nat) : Sl2 w B size none 0 0 [] := ⟨[], Sl.none_ _ _ _, rfl, by simp⟩
end

/-- v is a slice of slices of the call's own; its rows lie apart from each other. -/
structure Own2 (w : World) (base te tr size : Nat) (v : Value) (L : List (List Value)) (vs : List Value) : Prop where
  main : w.ownsRow base tr 1 v L.length vs
  len : vs.length = L.length
  row : ∀ (j : Nat) ys, L[j]? = some ys → ∃ u n, vs[j]? = some u ∧ w.ownsRow base te size u n ys
  dis : ∀ (i j : Nat) u u' g, i ≠ j → vs[i]? = some u → vs[j]? = some u' → u.ownBlock = some g → u'.ownBlock ≠ some g
section
variable {w w' w1 w2 : World} {base te tr size g m cap : Nat} {v : Value} {L : List (List Value)} {vs : List Value} {S : Nat → Prop}

theorem Own2.tch (h : Own2 w base te tr size v L vs) (ht : Tch S w w') (hm : ∀ g, v.ownBlock = some g → ¬ S g) (hr : ∀ (j : Nat) u g, vs[j]? = some u → u.ownBlock = some g → ¬ S g) : Own2 w' base te tr size v L vs :=
  ⟨own_tch h.main ht hm, h.len, fun j ys hj => by
    obtain ⟨u, n, hu, ho⟩ := h.row j ys hj
    exact ⟨u, n, hu, own_tch ho ht (fun g hg => hr j u g hu hg)⟩, h.dis⟩
theorem Own2.rowlt (h : Own2 w base te tr size v L vs) {j : Nat} {u : Value} (hu : vs[j]? = some u) : ∀ g, u.ownBlock = some g → base ≤ g ∧ g < w.heap.size := by
  have hj : j < L.length := by rw [← h.len]; exact (List.getElem?_eq_some_iff.1 hu).1
  obtain ⟨u', n, hu', ho⟩ := h.row j L[j] (by simp [hj])
  rw [hu] at hu'
  cases hu'
  exact ho.lt
theorem Own2.below (h : Own2 w base te tr size v L vs) (hb : Below w.heap.size w w') : Own2 w' base te tr size v L vs :=
  h.tch (Tch.of_below hb) (fun g hg => by have := (h.main.lt g hg).2; omega) (fun j u g hu hg => by have := (h.rowlt hu g hg).2; omega)
theorem Own2.rebase (h : Own2 w base te tr size v L vs) {base' : Nat} (hb : base' ≤ base) : Own2 w base' te tr size v L vs :=
  ⟨own_base h.main hb, h.len, fun j ys hj => by obtain ⟨u, n, hu, ho⟩ := h.row j ys hj; exact ⟨u, n, hu, own_base ho hb⟩, h.dis⟩
theorem Own2.sl2 (h : Own2 w base te tr size v L vs) : ∃ A c, v = .slice A L.length c ∧ Sl2 w w.heap.size size A L.length c L := by
  obtain ⟨A, c, rfl, hs⟩ := own_sl h.main
  refine ⟨A, c, rfl, vs, hs, h.len, fun j ys hj => ?_⟩
  obtain ⟨u, n, hu, ho⟩ := h.row j ys hj
  obtain ⟨A', c', rfl, hs'⟩ := own_sl ho
  exact ⟨A', _, c', hu, hs'⟩
theorem Own2.form (h : Own2 w base te tr size v L vs) (hn : 0 < L.length) : ∃ g cap, v = .slice (some ⟨g, 0, none⟩) L.length cap ∧ base ≤ g ∧ g < w.heap.size := by
  obtain ⟨g, cap, hv, h1, h2, _⟩ := own_form h.main hn
  exact ⟨g, cap, hv, h1, h2⟩
theorem Own2.cell (h : Own2 w base te tr size (.slice (some ⟨g, 0, none⟩) m cap) L vs) {j : Nat} {u : Value} (hu : vs[j]? = some u) : w.cell? ⟨g, j, none⟩ = some u := by
  have hj : j < L.length := by rw [← h.len]; exact (List.getElem?_eq_some_iff.1 hu).1
  have hm := h.main
  obtain ⟨A, c, hv, _⟩ := own_sl hm
  cases hv
  rw [hm.cellAt j (by omega)]; exact hu
/-- Row j is grown, or made anew, and stored back. -/
theorem Own2.put (h : Own2 w base te tr size (.slice (some ⟨g, 0, none⟩) m cap) L vs) (hne : te ≠ tr) {j n' : Nat} {u u' : Value} {ys' : List Value} (hu : vs[j]? = some u) (_hb : base ≤ w.heap.size)
    (hown : w1.ownsRow base te size u' n' ys') (ht : Tch (fun k => u.ownBlock = some k) w w1) (hat : ∀ g', u'.ownBlock = some g' → u.ownBlock = some g' ∨ w.heap.size ≤ g') :
    Own2 (w1.setCell ⟨g, j, none⟩ u') base te tr size (.slice (some ⟨g, 0, none⟩) m cap) (L.set j ys') (vs.set j u') ∧ Tch (fun k => k = g ∨ u.ownBlock = some k) w (w1.setCell ⟨g, j, none⟩ u') := by
  have hjv : j < vs.length := (List.getElem?_eq_some_iff.1 hu).1
  have hj : j < L.length := by rw [← h.len]; exact hjv
  have hm0 := h.main
  obtain ⟨A, c, hv, _⟩ := own_sl hm0
  cases hv
  obtain ⟨u0, n0, hu0, ho0⟩ := h.row j L[j] (by simp [hj])
  rw [hu] at hu0; cases hu0
  have hglt := (hm0.lt g rfl).2
  -- the main row behind the append
  have hm1 : w1.ownsRow base tr 1 (.slice (some ⟨g, 0, none⟩) L.length cap) L.length vs :=
    own_tch hm0 ht (fun k hk hk' => own_ne ho0 hm0 hne k hk' hk)
  have hst := hm1.stored j u'
  have hu'g : ∀ k, u'.ownBlock = some k → k ≠ g := by
    intro k hk e
    subst e
    rcases hat k hk with h1 | h1
    · exact own_ne ho0 hm0 hne k h1 rfl
    · omega
  have hset : Tch (fun k => k = g) w1 (w1.setCell ⟨g, j, none⟩ u') := (Tch.refl (fun k => k = g) w1).setCell (p := ⟨g, j, none⟩) (fun _ => rfl) u'
  refine ⟨⟨by simpa using hst.1, by simp [h.len], fun i ys hi => ?_, fun i k a b q hik ha hb hq => ?_⟩, ?_⟩
  · by_cases e : j = i
    · subst e
      rw [List.getElem?_set_self hj] at hi
      cases hi
      exact ⟨u', n', List.getElem?_set_self hjv, own_tch hown hset (fun k hk => hu'g k hk)⟩
    · rw [List.getElem?_set_ne e] at hi
      obtain ⟨a, na, ha, hoa⟩ := h.row i ys hi
      refine ⟨a, na, by rw [List.getElem?_set_ne e]; exact ha, ?_⟩
      have h1 := own_tch hoa ht (fun k hk hk' => h.dis i j a u k (fun h => e h.symm) ha hu hk hk')
      exact own_tch h1 hset (fun k hk e' => own_ne hoa hm0 hne k hk (by rw [e']; rfl))
  · by_cases ei : j = i
    · subst ei
      rw [List.getElem?_set_self hjv] at ha
      cases ha
      rw [List.getElem?_set_ne hik] at hb
      rcases hat q hq with h1 | h1
      · exact h.dis j k u b q hik hu hb h1
      · intro hb'; have := (h.rowlt hb q hb').2; omega
    · rw [List.getElem?_set_ne ei] at ha
      by_cases ek : j = k
      · subst ek
        rw [List.getElem?_set_self hjv] at hb
        cases hb
        intro hb'
        rcases hat q hb' with h1 | h1
        · exact h.dis i j a u q hik ha hu hq h1
        · have := (h.rowlt ha q hq).2; omega
      · rw [List.getElem?_set_ne ek] at hb
        exact h.dis i k a b q hik ha hb hq
  · exact Tch.trans (ht.mono (fun _ _ h => .inr h)) hset (fun _ _ h => .inl h)
theorem Own2.nil (w : World) (base te tr size : Nat) : Own2 w base te tr size (.slice none 0 0) [] [] := ⟨World.ownsRow_nil w _ _ _, rfl, by simp, by simp⟩
/-- Rows that are all nil. -/
theorem Own2.fresh {n : Nat} (h : w.ownsRow base tr 1 v n (List.replicate n (.slice none 0 0))) : Own2 w base te tr size v (List.replicate n []) (List.replicate n (.slice none 0 0)) :=
  ⟨by simpa using h, by simp, fun j ys hj => by
    have hjn : j < n := by
      have := (List.getElem?_eq_some_iff.1 hj).1
      simpa using this
    simp [hjn] at hj
    subst hj
    exact ⟨_, 0, by simp [hjn], World.ownsRow_nil w _ _ _⟩, fun i j a b g _ ha _ hg => by
    have := List.mem_of_getElem? ha
    rw [List.mem_replicate] at this
    rw [this.2] at hg
    simp [Value.ownBlock] at hg⟩
end
end Go.Proofs.YtamhjgkigjpbhaaDoor
