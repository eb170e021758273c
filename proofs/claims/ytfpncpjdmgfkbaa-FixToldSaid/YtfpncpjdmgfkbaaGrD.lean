/- Memory of layer 6: distances under way. -/
import Derived.Test.YtfpncpjdmgfkbaaMb
import Derived.Test.YtfpncpjdmgfkbaaGr13
import Derived.Test.YtfpncpjdmgfkbaaBits
namespace Go.Proofs.Ytfpncpjdmgfkbaa
open Go.RowKit

theorem own_seti {w : World} {base q ne t : Nat} {D : List Int} {d : Int} (h : w.ownsRow base 3 1 (.slice (some ⟨q, 0, none⟩) ne ne) ne (icells D)) :
    (w.setCell ⟨q, t, none⟩ (.int .i64 d)).ownsRow base 3 1 (.slice (some ⟨q, 0, none⟩) ne ne) ne (icells (D.set t d)) := by
  have := (h.stored t (.int .i64 d)).1
  rw [icells, List.map_set]; exact this
theorem own_geti {w : World} {base q ne t : Nat} {D : List Int} (h : w.ownsRow base 3 1 (.slice (some ⟨q, 0, none⟩) ne ne) ne (icells D)) (ht : t < ne) :
    w.cell? ⟨q, t, none⟩ = some (.int .i64 (D.getD t 0)) ∧ w.frozen? ⟨q, t, none⟩ = false ∧ q < w.heap.size ∧ D.length = ne := by
  have hl : D.length = ne := by have := h.1; simpa [icells] using this
  refine ⟨?_, h.frozenAt t, (h.lt q rfl).2, hl⟩
  rw [h.cellAt t (by omega)]
  simp [icells, List.getD, hl, ht]
theorem tch_cell {w : World} (b o : Nat) (v : Value) : Tch (fun k => k = b) w (w.setCell ⟨b, o, none⟩ v) := Tch.setCell (S := fun k => k = b) (p := ⟨b, o, none⟩) (Tch.refl _ w) (fun _ => rfl) v
/-- A path, or that there is none. -/
def PPost (w : World) (p : List Int × Bool) (en : Ending) (w' : World) : Prop := ∃ v, en = .returned (.tuple #[v, .bool p.2]) ∧ w'.ownsRow w.heap.size 3 1 v p.1.length (icells p.1) ∧ Below w.heap.size w w'
theorem below_alW {w : World} (o : Obj) : Below w.heap.size w (w.alloc o) := (Below.refl _ _).alloc (Nat.le_refl _) _
/-- What distances write. -/
def DS (qf qd B : Nat) : Nat → Prop := fun k => k = qf ∨ k = qd ∨ B ≤ k
/-- Distances under way: the row of distances, the next wave, the set of those done. -/
structure DRel (wR : World) (qf qd Sd ne : Nat) (v : Value) (s : List Int × List Int) (p : Nat) (wr : World) : Prop where
  far : wr.ownsRow 0 3 1 (.slice (some ⟨qf, 0, none⟩) ne ne) ne (icells s.1)
  nx : wr.ownsRow wR.heap.size 3 1 v (s.2.drop p).length (icells (s.2.drop p))
  dn : ∃ W, BSet Sd qd ne W wr
  t : Tch (DS qf qd wR.heap.size) wR wr
def DNum (wR : World) (qf qd Sd : Nat) : Prop := qf < wR.heap.size ∧ qd < wR.heap.size ∧ Sd < wR.heap.size ∧ Sd ≠ qf ∧ Sd ≠ qd ∧ qf ≠ qd
section
variable {wR w w' w1 w2 : World} {qf qd Sd ne p : Nat} {v : Value} {s : List Int × List Int}
theorem DRel.below (h : DRel wR qf qd Sd ne v s p w) (hb : Below w.heap.size w w') : DRel wR qf qd Sd ne v s p w' := by
  obtain ⟨W, hW⟩ := h.dn
  refine ⟨own_below h.far hb, own_below h.nx hb, ⟨W, hW.below hb⟩, Tch.trans h.t (Tch.of_below hb) (fun i hi hS => ?_)⟩
  have := h.t.size; omega
theorem DRel.put {W : List Nat} (hN : DNum wR qf qd Sd) (h : DRel wR qf qd Sd ne v s p w) (hW : BSet Sd qd ne W w') (ht : Tch (fun k => k = qd) w w') : DRel wR qf qd Sd ne v s p w' := by
  obtain ⟨n1, n2, n3, n4, n5, n6⟩ := hN
  exact ⟨own_tch h.far ht (fun g hg => by simp [Value.ownBlock] at hg; omega), own_tch h.nx ht (fun g hg e => by have := (h.nx.lt g hg).1; omega), ⟨W, hW⟩, Tch.trans h.t ht (fun _ _ e => .inr (.inl e))⟩
/-- A distance is told. -/
theorem DRel.tell {t : Nat} {d : Int} (hN : DNum wR qf qd Sd) (h : DRel wR qf qd Sd ne v s p w) :
    (w.setCell ⟨qf, t, none⟩ (.int .i64 d)).ownsRow 0 3 1 (.slice (some ⟨qf, 0, none⟩) ne ne) ne (icells (s.1.set t d)) ∧ (w.setCell ⟨qf, t, none⟩ (.int .i64 d)).ownsRow wR.heap.size 3 1 v (s.2.drop p).length (icells (s.2.drop p)) ∧
      (∃ W, BSet Sd qd ne W (w.setCell ⟨qf, t, none⟩ (.int .i64 d))) ∧ Tch (DS qf qd wR.heap.size) wR (w.setCell ⟨qf, t, none⟩ (.int .i64 d)) := by
  obtain ⟨n1, n2, n3, n4, n5, n6⟩ := hN
  have ht := tch_cell (w := w) qf t (.int .i64 d)
  obtain ⟨W, hW⟩ := h.dn
  exact ⟨own_seti h.far, own_tch h.nx ht (fun g hg e => by have := (h.nx.lt g hg).1; omega), ⟨W, hW.tch ht n4 (fun e => n6 e.symm)⟩, Tch.trans h.t ht (fun _ _ e => .inl e)⟩
/-- A node that was told is opened. -/
theorem DRel.open {t : Nat} {d : Int} {v' : Value} {o : Obj} (hN : DNum wR qf qd Sd) (hf : w.ownsRow 0 3 1 (.slice (some ⟨qf, 0, none⟩) ne ne) ne (icells (s.1.set t d))) (hn : w.ownsRow wR.heap.size 3 1 v (s.2.drop p).length (icells (s.2.drop p)))
    (hd : ∃ W, BSet Sd qd ne W w) (ht : Tch (DS qf qd wR.heap.size) wR w) (hp : p ≤ s.2.length)
    (hw : w1 = w.alloc o) (hown : w2.ownsRow wR.heap.size 3 1 v' ((s.2.drop p).length + 1) (icells (s.2.drop p) ++ [.int .i64 t])) (ht2 : Tch (fun k => v.ownBlock = some k) w1 w2) :
    DRel wR qf qd Sd ne v' (s.1.set t d, s.2 ++ [(t : Int)]) p w2 := by
  subst hw
  obtain ⟨n1, n2, n3, n4, n5, n6⟩ := hN
  obtain ⟨W, hW⟩ := hd
  have ht' : Tch (fun k => v.ownBlock = some k) w w2 := Tch.trans ((Tch.refl _ w).alloc _) ht2 (fun _ _ h => h)
  have hlt : ∀ k, v.ownBlock = some k → wR.heap.size ≤ k := fun k hk => (hn.lt k hk).1
  refine ⟨own_tch hf ht' (fun g hg e => by have := hlt g e; simp [Value.ownBlock] at hg; omega), ?_, ⟨W, hW.tch ht' (fun e => by have := hlt _ e; omega) (fun e => by have := hlt _ e; omega)⟩, Tch.trans ht ht' (fun _ _ e => .inr (.inr (hlt _ e)))⟩
  dsimp only
  rw [List.drop_append_of_le_length hp, icells_append, List.length_append]
  exact hown
/-- The rows of edges, through all of it. -/
theorem rows0 {W0 : World} {bT me de a nw kw : Nat} {be : Option Addr} {T : List (List Nd)} {vs xw : List Value} (hO : Own2 W0 bT 42 34 2 (.slice be me de) (T.map ncells) vs) (ha : a < T.length) (hqf : qf < bT) (hq : W0.ownsRow 0 60 1 (.slice (some ⟨qd, 0, none⟩) kw kw) nw xw) :
    ∃ b A' c', be = some ⟨b, 0, none⟩ ∧ W0.cell? ⟨b, a, none⟩ = some (.slice A' (T[a]).length c') ∧ ¬ DS qf qd W0.heap.size b ∧ W0.ownsRow bT 42 2 (.slice A' (T[a]).length c') (T[a]).length (ncells T[a]) ∧
      (∀ g, (Value.slice A' (T[a]).length c').ownBlock = some g → ¬ DS qf qd W0.heap.size g) := by
  have hlm : 0 < (T.map ncells).length := by rw [List.length_map]; omega
  obtain ⟨g, cap, hv, hg1, hg2⟩ := hO.form hlm
  cases hv
  obtain ⟨u, n, hu, ho⟩ := hO.row a (ncells T[a]) (by simp [ha])
  have hn : n = (T[a]).length := by have := ho.1; rw [ncells_len] at this; omega
  subst hn
  obtain ⟨A', c', rfl, _⟩ := own_sl ho
  have hgq : g ≠ qd := fun e => own_ne hO.main hq (by decide) g rfl (by rw [e]; rfl)
  refine ⟨g, A', c', rfl, hO.cell hu, fun h => by rcases h with h | h | h <;> omega, ho, fun k hk h => ?_⟩
  have := ho.lt k hk
  rcases h with h | h | h
  · omega
  · exact own_ne ho hq (by decide) k hk (by rw [h]; rfl)
  · omega
theorem dvisF_le {d : Int} : ∀ (l : List Int) (s : List Int × List Int), (l.foldl (dvis d) s).2.length ≤ s.2.length + l.length
  | [], s => by simp
  | x :: l, s => by
    have h1 := dvisF_le (d := d) l (dvis d s x)
    have h2 : (dvis d s x).2.length ≤ s.2.length + 1 := by unfold dvis; split <;> simp
    rw [List.foldl_cons, List.length_cons]; omega
theorem DS.up {qf qd B B' i : Nat} (hi : i < B) (hB : B ≤ B') (h : DS qf qd B' i) : DS qf qd B i := by rcases h with h | h | h; exact .inl h; exact .inr (.inl h); omega
/-- Distances between two waves. -/
def ORel (wD : World) (qf qd Sd ne bw : Nat) (v : Value) (s : List Int × List Int) (k : Nat) (wr : World) : Prop :=
  wr.ownsRow 0 3 1 (.slice (some ⟨qf, 0, none⟩) ne ne) ne (icells s.1) ∧ wr.ownsRow bw 3 1 v (s.2.drop k).length (icells (s.2.drop k)) ∧ (∃ W, BSet Sd qd ne W wr) ∧ Tch (DS qf qd wD.heap.size) wD wr
/-- The wave, read while the next one is made. -/
theorem wave_keep {bw n : Nat} {xs : List Value} {W : List Nat} (h : wR.ownsRow bw 3 1 v n xs) (hW : BSet Sd qd ne W wR) (hq : qf < bw) (ht : Tch (DS qf qd wR.heap.size) wR w) : w.ownsRow bw 3 1 v n xs :=
  own_tch h ht (fun g hg hS => by
    have := h.lt g hg
    rcases hS with e | e | e
    · omega
    · exact own_ne h hW.2.1 (by decide) g hg (by rw [e]; rfl)
    · omega)
end
end Go.Proofs.Ytfpncpjdmgfkbaa
