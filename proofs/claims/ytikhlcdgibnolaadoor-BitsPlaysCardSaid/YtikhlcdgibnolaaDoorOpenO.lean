/- Slices of structs of a kind and a number, opened. -/
import Derived.Test.YtikhlcdgibnolaaDoorMc
namespace Go.Proofs.YtikhlcdgibnolaaDoor
open Go.ChangeShapes Go.WideShapes Go.ChangeAt Go.RowKit Go.Deep

/-- The cells of nodes. -/
def ocells (f : List Nd) : List Value := f.flatMap fun x => [.int .u8 x.op, .int .i64 x.n]
theorem ocells_len (f : List Nd) : (ocells f).length = f.length * 2 := by
  induction f with
  | nil => rfl
  | cons x r ih => simp [ocells] at ih ⊢; omega
theorem ocells0 (f : List Nd) (k : Nat) : (ocells f)[k * 2]? = f[k]?.map fun x => .int .u8 x.op := by
  induction f generalizing k with
  | nil => simp [ocells]
  | cons x r ih => cases k with
    | zero => simp [ocells]
    | succ k => have := ih k; simp [ocells, Nat.succ_mul] at this ⊢; exact this
theorem ocells1 (f : List Nd) (k : Nat) : (ocells f)[k * 2 + 1]? = f[k]?.map fun x => .int .i64 x.n := by
  induction f generalizing k with
  | nil => simp [ocells]
  | cons x r ih => cases k with
    | zero => simp [ocells]
    | succ k => have := ih k; simp [ocells, Nat.succ_mul] at this ⊢; exact this
theorem rd_op {w : World} {B : Nat} {A : Option Addr} {f : List Nd} (h : Rd w B A (ocells f)) {k : Nat} (hk : k < f.length) :
    ∃ b off, A = some ⟨b, off, none⟩ ∧ b < B ∧ w.cell? ⟨b, off + k * 2, none⟩ = some (.int .u8 f[k].op) ∧ w.cell? ⟨b, off + k * 2 + 1, none⟩ = some (.int .i64 f[k].n) := by
  rcases h with h | ⟨b, off, hA, hb, hc⟩
  · have := ocells0 f k; rw [h] at this; simp [hk] at this
  · exact ⟨b, off, hA, hb, hc _ _ (by rw [ocells0]; simp [hk]), by rw [Nat.add_assoc]; exact hc _ _ (by rw [ocells1]; simp [hk])⟩
def OpOk (x : Nd) : Prop := (Lit.int .u8 x.op).wf = true ∧ (Lit.int .i64 x.n).wf = true
section
variable {H : Type} {enc : TypeId × Value → H} {P : Program} {w : World} {base : Nat} {spare : Nat → Bool} {held : Bool}
theorem open_ops {t e : TypeId} {f0 f1 : Field} {fuel : Nat} {cs : List Value} {x : DataW H × List MemPlace} (ht : P.underlying t = some (.slice e)) (he : P.underlying e = some (.struct #[f0, f1]))
    (hone : oneCellFields P #[f0, f1] = true) (hC : P.cellsOf e = 2) (h0 : P.underlying f0.type = some (.int .u8)) (h1 : P.underlying f1.type = some (.int .i64))
    (h : DataW.trod enc P w base spare held fuel t cs = some x) :
    ∃ (A : Option Addr) (c : Nat) (f : List Nd), cs = [.slice A f.length c] ∧ Sl w w.heap.size 2 A f.length c (ocells f) ∧ (∀ x ∈ f, OpOk x) ∧ (f.length = 0 ∨ ∃ E S, x.1 = .slice E S ∧ E.length = f.length) := by
  rcases open_slice ht h with ⟨hcs, _⟩ | ⟨a, len, cap, m, n, D, Pl, hcs, hb, hl, hm, hmm, hx, hi⟩
  · exact ⟨none, 0, [], hcs, Sl.none_ _ _ _, by simp, .inl rfl⟩
  · have hlm : len ≤ m := by rw [hmm]; split <;> omega
    have key : ∀ i, i < len → ∃ y : Nd, w.cell? (a.add (i * 2)) = some (.int .u8 y.op) ∧ w.cell? (a.add (i * 2 + 1)) = some (.int .i64 y.n) ∧ OpOk y := by
      intro i hlt
      obtain ⟨cs', hc, hd⟩ := hi i (by omega)
      rw [hC] at hc
      obtain ⟨_, hcl, hat⟩ := World.cells?_some hc
      obtain ⟨ys, n', _, _, _, hyl, hf⟩ := DataW.trod_struct he hd
      have hyl2 : ys.length = 2 := hyl
      obtain ⟨o0, k0⟩ := hone_of hone 0 f0 rfl
      obtain ⟨o1, k1⟩ := hone_of hone 1 f1 rfl
      match cs', hcl with
      | [u, v], _ =>
        have e0 := hf 0 f0 rfl
        have e1 := hf 1 f1 rfl
        rw [o0, k0] at e0
        rw [o1, k1] at e1
        have g0 := hat 0 (by omega)
        have g1 := hat 1 (by omega)
        rw [add_add] at g0 g1
        obtain ⟨q, hq⟩ : ∃ q, ys[0]? = some q := by
          rw [List.getElem?_eq_getElem (by omega)]; exact ⟨_, rfl⟩
        obtain ⟨q', hq'⟩ : ∃ q, ys[1]? = some q := by
          rw [List.getElem?_eq_getElem (by omega)]; exact ⟨_, rfl⟩
        rw [hq] at e0
        rw [hq'] at e1
        obtain ⟨p, hp, _, wp⟩ := DataW.trod_int h0 e0
        obtain ⟨p', hp', _, wp'⟩ := DataW.trod_int h1 e1
        simp at hp hp'
        subst hp; subst hp'
        exact ⟨⟨p, p'⟩, by simpa using g0, by simpa using g1, wp, wp'⟩
    have key2 : ∀ k, k ≤ len → ∃ f : List Nd, f.length = k ∧ (∀ i (hi : i < f.length), w.cell? (a.add (i * 2)) = some (.int .u8 f[i].op) ∧ w.cell? (a.add (i * 2 + 1)) = some (.int .i64 f[i].n)) ∧ ∀ x ∈ f, OpOk x := by
      intro k
      induction k with
      | zero => intro _; exact ⟨[], rfl, fun i hi => by simp at hi, by simp⟩
      | succ k ih =>
        intro hk
        obtain ⟨f, hf, hc, hok⟩ := ih (by omega)
        obtain ⟨y, h1, h2, h3⟩ := key k (by omega)
        refine ⟨f ++ [y], by simp [hf], fun i hi => ?_, fun x hx => ?_⟩
        · by_cases hik : i < f.length
          · rw [List.getElem_append_left hik]; exact hc i hik
          · have : i = f.length := by simp at hi; omega
            subst this
            rw [List.getElem_append_right (Nat.le_refl _)]
            simp only [Nat.sub_self, List.getElem_cons_zero]
            rw [hf]; exact ⟨h1, h2⟩
        · simp only [List.mem_append, List.mem_singleton] at hx
          rcases hx with hx | rfl
          · exact hok x hx
          · exact h3
    obtain ⟨f, hf, hc, hok⟩ := key2 len (Nat.le_refl _)
    refine ⟨some a, cap, f, by rw [hcs, hf], ⟨ocells_len f, by omega, hm, (fun h => by cases h), rd_of_cells fun j u hj => ?_⟩, hok, .inr ⟨_, _, by rw [hx], by simp [hf]⟩⟩
    have hjl : j < (ocells f).length := (List.getElem?_eq_some_iff.1 hj).1
    rw [ocells_len] at hjl
    obtain ⟨i, hi⟩ : ∃ i, j = i * 2 ∨ j = i * 2 + 1 := ⟨j / 2, by omega⟩
    rcases hi with rfl | rfl
    · have hif : i < f.length := by omega
      rw [ocells0] at hj
      simp [hif] at hj
      rw [← hj]; exact (hc i hif).1
    · have hif : i < f.length := by omega
      rw [ocells1] at hj
      simp [hif] at hj
      rw [← hj]; exact (hc i hif).2
theorem open_ops' {t e : TypeId} {f0 f1 : Field} {fuel : Nat} {cs : List Value} {x : DataW H × List MemPlace} (ht : P.underlying t = some (.slice e)) (he : P.underlying e = some (.struct #[f0, f1]))
    (hone : oneCellFields P #[f0, f1] = true) (hC : P.cellsOf e = 2) (h0 : P.underlying f0.type = some (.int .u8)) (h1 : P.underlying f1.type = some (.int .i64))
    (h : DataW.trod enc P w base spare held fuel t cs = some x) (hs : Small P t x.1) :
    ∃ (A : Option Addr) (c : Nat) (f : List Nd), cs = [.slice A f.length c] ∧ Sl w w.heap.size 2 A f.length c (ocells f) ∧ (∀ x ∈ f, OpOk x) ∧ f.length * P.bytesOf e ≤ reachBytes := by
  obtain ⟨A, c, f, a1, a2, a3, a4⟩ := open_ops ht he hone hC h0 h1 h
  refine ⟨A, c, f, a1, a2, a3, ?_⟩
  rcases a4 with a4 | ⟨E, S, a4, a5⟩
  · rw [a4]; omega
  · rw [a4] at hs
    rw [← a5]; exact (small_slice ht hs).1
end
end Go.Proofs.YtikhlcdgibnolaaDoor
