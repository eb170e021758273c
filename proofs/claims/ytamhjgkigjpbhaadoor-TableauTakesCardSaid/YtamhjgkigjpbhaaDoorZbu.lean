/- Texts that stand one behind the other, in one file. -/
import Derived.Test.YtamhjgkigjpbhaaDoorZbo
import Derived.Test.YtamhjgkigjpbhaaDoorZbt
import Derived.Deep.RegionHeld3

/- The shortest form of a word, as the program finds it. -/
namespace Go.Proofs.YtamhjgkigjpbhaaDoor

/-- The stem rolled up so far. -/
structure NI (st lo : List Int) (m a : Nat) : Prop where
  le : m ≤ st.length
  lt : a < periodL lo
  ro : roll (seqW st lo) (periodL lo) st.length = roll (seqW st lo) (periodL lo) m
  at_ : ∀ j, j < periodL lo → seqW st lo (m + j) = lo.getD ((a + j) % periodL lo) 0
theorem NI.start {st lo : List Int} (h : lo ≠ []) : NI st lo st.length 0 := by
  have p1 := period_spec h
  refine ⟨Nat.le_refl _, p1.1, rfl, fun j hj => ?_⟩
  have hjl : j < lo.length := by have := p1.2.1; omega
  rw [seqW_loop (by omega), show st.length + j - st.length = j by omega, Nat.mod_eq_of_lt hjl, Nat.zero_add, Nat.mod_eq_of_lt hj]
theorem NI.last {st lo : List Int} {m a : Nat} (hi : NI st lo (m + 1) a) : seqW st lo (m + periodL lo) = lo.getD ((a + periodL lo - 1) % periodL lo) 0 := by
  have hp := hi.lt
  have := hi.at_ (periodL lo - 1) (by omega)
  rw [show m + 1 + (periodL lo - 1) = m + periodL lo by omega, show a + (periodL lo - 1) = a + periodL lo - 1 by omega] at this
  exact this
theorem NI.step {st lo : List Int} {m a : Nat} (hi : NI st lo (m + 1) a) (he : st.getD m 0 = lo.getD ((a + periodL lo - 1) % periodL lo) 0) : NI st lo m ((a + periodL lo - 1) % periodL lo) := by
  have hp := hi.lt
  have hle := hi.le
  have hs : seqW st lo m = st.getD m 0 := seqW_stem (by omega)
  have e : seqW st lo m = seqW st lo (m + periodL lo) := by rw [hi.last, hs, he]
  refine ⟨by omega, Nat.mod_lt _ (by omega), ?_, fun j hj => ?_⟩
  · rw [hi.ro, roll, if_pos e]
  · rw [Nat.mod_add_mod]
    rcases j with _ | j
    · rw [Nat.add_zero, Nat.add_zero, e, hi.last]
    · have := hi.at_ j (by omega)
      rw [show m + (j + 1) = m + 1 + j by omega, this, show a + periodL lo - 1 + (j + 1) = a + j + periodL lo by omega, Nat.add_mod_right]
theorem NI.zero {st lo : List Int} {a : Nat} (hi : NI st lo 0 a) : stemN st lo = 0 := by rw [stemN, hi.ro, roll]
end Go.Proofs.YtamhjgkigjpbhaaDoor

/- The walks of layer 27: the closures of truth. -/
namespace Go.Proofs.YtamhjgkigjpbhaaDoor
open Go.RowKit

def wbit (st lo : List Int) (m : Int) (k : Nat) : Bool := (Go.bits .and .u64 (seqW st lo k / 2 ^ m.toNat) 1 == 1)
/-- A box that holds a row of bools. -/
structure BBox (w : World) (bx : Nat) (n : Nat) (l : List Bool) : Prop where
  ex : ∃ A c, w.cell? ⟨bx, 0, none⟩ = some (.slice A n c) ∧ Sl w w.heap.size 1 A n c (bcells l) ∧ bx < w.heap.size
theorem BBox.below {w w' : World} {bx n : Nat} {l : List Bool} (h : BBox w bx n l) (hb : Below w.heap.size w w') : BBox w' bx n l := by
  obtain ⟨A, c, h1, h2, h3⟩ := h.ex
  exact ⟨A, c, (hb.cell (p := ⟨bx, 0, none⟩) h3).trans h1, (h2.below hb (Nat.le_refl _)).up hb.size, Nat.lt_of_lt_of_le h3 hb.size⟩
theorem BBox.at_ {w : World} {bx n : Nat} {l : List Bool} (h : BBox w bx n l) {k : Nat} (hk : k < n) : ∃ b o c, w.cell? ⟨bx, 0, none⟩ = some (.slice (some ⟨b, o, none⟩) n c) ∧ w.cell? ⟨b, o + k, none⟩ = some (.bool (l.getD k false)) := by
  obtain ⟨A, c, h1, h2, h3⟩ := h.ex
  have hl : l.length = n := by have := h2.len; rw [bcells_len] at this; omega
  obtain ⟨b, o, rfl, _, hc⟩ := h2.rd.at_ (bcells_at (i := k) (l := l) (by omega))
  exact ⟨b, o, c, h1, hc⟩
/-- The boxes of a lasso and of a node. -/
def LBox (w : World) (lb : Nat) (A1 A2 : Option Addr) (n1 c1 n2 c2 : Nat) : Prop :=
  lb < w.heap.size ∧ w.cell? ⟨lb, 0, none⟩ = some (.slice A1 n1 c1) ∧ w.cell? ⟨lb, 1, none⟩ = some (.slice A2 n2 c2) ∧ w.cell? ⟨lb, 2, none⟩ = some (.int .i64 ((n1 + n2 : Nat) : Int)) ∧ w.cell? ⟨lb, 3, none⟩ = some (.int .i64 (n1 : Int))
theorem LBox.below {w w' : World} {lb n1 c1 n2 c2 : Nat} {A1 A2 : Option Addr} (h : LBox w lb A1 A2 n1 c1 n2 c2) (hb : Below w.heap.size w w') : LBox w' lb A1 A2 n1 c1 n2 c2 :=
  ⟨Nat.lt_of_lt_of_le h.1 hb.size, (hb.cell (p := ⟨lb, 0, none⟩) h.1).trans h.2.1, (hb.cell (p := ⟨lb, 1, none⟩) h.1).trans h.2.2.1, (hb.cell (p := ⟨lb, 2, none⟩) h.1).trans h.2.2.2.1, (hb.cell (p := ⟨lb, 3, none⟩) h.1).trans h.2.2.2.2⟩
end Go.Proofs.YtamhjgkigjpbhaaDoor

/- The walk of layer 27: truth. -/
namespace Go.Proofs.YtamhjgkigjpbhaaDoor
open Go.RowKit

theorem place_row {bits : Int → Nat → Bool} {n lp : Nat} {x : Nd} {a b : List Bool} (h : ¬ (x.op = 9 ∨ x.op = 10 ∨ x.op = 11 ∨ x.op = 12)) : placesL bits n lp x a b = (List.range n).map (place1 (bits x.n) x n lp a b) := by
  simp only [not_or] at h
  rw [placesL, if_neg h.1, if_neg h.2.1, if_neg h.2.2.1, if_neg h.2.2.2]
end Go.Proofs.YtamhjgkigjpbhaaDoor

/- Truth on a word: the stack of rows on the way. Plain. -/
namespace Go.Proofs.YtamhjgkigjpbhaaDoor

section
variable {bits : Int → Nat → Bool} {n lp : Nat} {f : List Nd}
def tfold (bits : Int → Nat → Bool) (n lp : Nat) (f : List Nd) (k : Nat) : List (List Bool) × List (List Bool) := (f.take k).foldl (tstep bits n lp) ([], [])
theorem tfold_step {k : Nat} (hk : k < f.length) : tfold bits n lp f (k + 1) = tstep bits n lp (tfold bits n lp f k) f[k] := by
  rw [tfold, take_snoc f k hk, List.foldl_append]; rfl
structure TOkW (bits : Int → Nat → Bool) (n lp : Nat) (f : List Nd) (k : Nat) : Prop where
  len : (tfold bits n lp f k).1.length = (runs (f.take k)).1.length
  row : ∀ r ∈ (tfold bits n lp f k).1, r.length = n
  all : (tfold bits n lp f k).2.length = k
  rows : ∀ r ∈ (tfold bits n lp f k).2, r.length = n
theorem tfold_ok (hw : wrong f = 0) : ∀ k, k ≤ f.length → TOkW bits n lp f k
  | 0, _ => ⟨by simp [tfold, runs], by simp [tfold], by simp [tfold], by simp [tfold]⟩
  | k + 1, hk => by
    have hkl : k < f.length := by omega
    obtain ⟨h1, h2, h3, h4⟩ := tfold_ok hw k (by omega)
    obtain ⟨hs, hb⟩ := good_at hw hkl
    obtain ⟨h0, hle, _⟩ := good_takes hb
    have hbd := takes_bd f[k].op
    have hr := runs_snoc hkl
    have hrow : (placesL bits n lp f[k] (if takes f[k].op = 1 then (tfold bits n lp f k).1.getD ((tfold bits n lp f k).1.length - 1) [] else if takes f[k].op = 2 then (tfold bits n lp f k).1.getD ((tfold bits n lp f k).1.length - 2) [] else []) (if takes f[k].op = 2 then (tfold bits n lp f k).1.getD ((tfold bits n lp f k).1.length - 1) [] else [])).length = n := by
      refine placesL_len (fun ht => ?_)
      have hget : ∀ j, j < (tfold bits n lp f k).1.length → ((tfold bits n lp f k).1.getD j []).length = n := fun j hj => by
        rw [List.getD_eq_getElem?_getD, List.getElem?_eq_getElem hj]; exact h2 _ (List.getElem_mem hj)
      by_cases h1' : takes f[k].op = 1
      · rw [if_pos h1']; exact hget _ (by omega)
      · rw [if_neg h1', if_pos (by omega)]; exact hget _ (by omega)
    refine ⟨?_, ?_, ?_, ?_⟩
    · rw [tfold_step hkl, hr, tstep, stp]
      simp only [List.length_append, List.length_take, List.length_cons, List.length_nil]
      omega
    · rw [tfold_step hkl]
      intro r hr'
      simp only [tstep, List.mem_append, List.mem_singleton] at hr'
      rcases hr' with h | h
      · exact h2 r (List.mem_of_mem_take h)
      · rw [h]; exact hrow
    · rw [tfold_step hkl, tstep]; simp [h3]
    · rw [tfold_step hkl]
      intro r hr'
      simp only [tstep, List.mem_append, List.mem_singleton] at hr'
      rcases hr' with h | h
      · exact h4 r h
      · rw [h]; exact hrow
/-- What the node at k takes, and what it finds. -/
theorem tfold_takes (hw : wrong f = 0) {k : Nat} (hk : k < f.length) : 0 ≤ takes f[k].op ∧ takes f[k].op ≤ ((tfold bits n lp f k).1.length : Int) ∧ (f[k].op = 3 → 0 ≤ f[k].n ∧ f[k].n < 8) := by
  rw [(tfold_ok (bits := bits) (n := n) (lp := lp) hw k (by omega)).len]
  exact good_takes (good_at hw hk).2
theorem tfold_end : (tfold bits n lp f f.length).2 = rowsF bits n lp f := by rw [tfold, List.take_of_length_le (Nat.le_refl _)]; rfl
end
/-- P27.2, by what a place's set has. -/
def truthW (bits : Int → Nat → Bool) (f : List Nd) (st lo : List Int) : List (List Bool) := if lo ≠ [] ∧ wrong f = 0 then rowsF bits (st.length + lo.length) st.length f else []
end Go.Proofs.YtamhjgkigjpbhaaDoor

/- Rows on a stack in memory, read but not owned, beside rows that are owned. -/
namespace Go.Proofs.YtamhjgkigjpbhaaDoor
open Go.RowKit

/-- The block of an address holds bools. -/
def Bb (w : World) (A : Option Addr) : Prop := ∀ a, A = some a → ∃ cs, w.heap[a.block]? = some (.cells cs 4 (0, 0))
theorem Bb.below {w w' : World} {A : Option Addr} (h : Bb w A) (hb : Below w.heap.size w w') : Bb w' A := fun a ha => by
  obtain ⟨cs, hc⟩ := h a ha
  exact ⟨cs, (hb.block _ (lt_of_block hc)).trans hc⟩
theorem own_bb {w : World} {base size n c m : Nat} {A : Option Addr} {xs : List Value} (h : w.ownsRow base 4 size (.slice A m c) n xs) : Bb w A := fun a ha => by
  rcases h.2 with ⟨h0, _⟩ | ⟨g, cap, cur, hv, _, hh, _⟩
  · cases h0; cases ha
  · cases hv; cases ha; exact ⟨cur, hh⟩
theorem cell_blkW {w w' : World} {b o : Nat} (h : w'.heap[b]? = w.heap[b]?) : w'.cell? ⟨b, o, none⟩ = w.cell? ⟨b, o, none⟩ := by
  simp [World.cell?, h]
theorem Sl.blkW {S : Nat → Prop} {w w' : World} {B B' size n c : Nat} {A : Option Addr} {xs : List Value} (h : Sl w B size A n c xs) (ht : Tch S w w') (hs : ∀ a, A = some a → ¬ S a.block) (hB : B ≤ w.heap.size) (hB' : B ≤ B') : Sl w' B' size A n c xs := by
  refine { h with rd := ?_ }
  rcases h.rd with h0 | ⟨b, off, hA, hb, hc⟩
  · exact .inl h0
  · refine .inr ⟨b, off, hA, by omega, fun j u hj => ?_⟩
    rw [cell_blkW (ht.block b (by omega) (hs _ hA))]
    exact hc j u hj
/-- The stack: rows of n bools, read. -/
def LSk (w : World) (B n : Nat) (v : Value) (st : List (List Bool)) (vs : List Value) : Prop :=
  w.ownsRow B 73 1 v st.length vs ∧ ∀ (j : Nat) r, st[j]? = some r → ∃ A c, vs[j]? = some (.slice A n c) ∧ Sl w w.heap.size 1 A n c (bcells r) ∧ Bb w A
section
variable {w w1 w2 : World} {B n m c g cap : Nat} {v v2 : Value} {st : List (List Bool)} {vs : List Value} {A : Option Addr} {r : List Bool} {S : Nat → Prop}
theorem LSk.nil (w : World) (B n : Nat) : LSk w B n (.slice none 0 0) [] [] := ⟨World.ownsRow_nil _ _ _ _, by simp⟩
/-- Rows of bools lie in no block of rows of rows. -/
theorem bb_apart {xs : List Value} {k : Nat} (h : w.ownsRow B 73 1 v k xs) (hA : Bb w A) : ∀ a, A = some a → v.ownBlock ≠ some a.block := fun a ha hg => by
  obtain ⟨cs, hc⟩ := hA a ha
  exact own_ne_blk h hc (by decide) hg
theorem LSk.tch (h : LSk w B n v st vs) (ht : Tch S w w1) (h1 : ∀ g, v.ownBlock = some g → ¬ S g) (h2 : ∀ A : Option Addr, Bb w A → ∀ a, A = some a → ¬ S a.block) : LSk w1 B n v st vs := by
  refine ⟨own_tch h.1 ht h1, fun j r hj => ?_⟩
  obtain ⟨A, c, a, b, d⟩ := h.2 j r hj
  refine ⟨A, c, a, b.blkW ht (h2 A d) (Nat.le_refl _) ht.size, fun x hx => ?_⟩
  obtain ⟨cs, hc⟩ := d x hx
  exact ⟨cs, ht.blk hc (h2 A d x hx)⟩
theorem LSk.below (h : LSk w B n v st vs) (hb : Below w.heap.size w w1) : LSk w1 B n v st vs :=
  h.tch (Tch.of_below hb) (fun g hg => by have := (h.1.lt g hg).2; omega) (fun A hA a ha => by
    obtain ⟨cs, hc⟩ := hA a ha
    have := lt_of_block hc
    omega)
theorem LSk.cut (h : LSk w B n (.slice A m c) st vs) {k : Nat} (hk : k ≤ st.length) : LSk w B n (.slice A k c) (st.take k) (vs.take k) := by
  have hn : m = st.length := by
    obtain ⟨A', c', hv, _⟩ := own_any h.1
    cases hv; rfl
  subst hn
  have h1 := own_cut_any h.1 hk
  rw [Nat.mul_one] at h1
  refine ⟨by rw [List.length_take, Nat.min_eq_left hk]; exact h1, fun j r hj => ?_⟩
  rw [List.getElem?_take] at hj
  split at hj
  · rename_i hjk
    obtain ⟨A', c', a, b, d⟩ := h.2 j r hj
    exact ⟨A', c', by rw [List.getElem?_take, if_pos hjk]; exact a, b, d⟩
  · cases hj
theorem LSk.push (h : LSk w B n v st vs) (hr : Sl w w.heap.size 1 A n c (bcells r)) (hA : Bb w A) (hown : w2.ownsRow B 73 1 v2 (st.length + 1) (vs ++ [.slice A n c])) (ht : Tch (fun k => v.ownBlock = some k) w w2) :
    LSk w2 B n v2 (st ++ [r]) (vs ++ [.slice A n c]) := by
  have hlen : vs.length = st.length := by rw [h.1.1]; simp
  have keep : ∀ (A' : Option Addr) c' (r' : List Bool), Sl w w.heap.size 1 A' n c' (bcells r') → Bb w A' → Sl w2 w2.heap.size 1 A' n c' (bcells r') ∧ Bb w2 A' := fun A' c' r' hs hn => by
    refine ⟨hs.blkW ht (bb_apart h.1 hn) (Nat.le_refl _) ht.size, fun a ha => ?_⟩
    obtain ⟨cs, hc⟩ := hn a ha
    exact ⟨cs, ht.blk hc (bb_apart h.1 hn a ha)⟩
  refine ⟨by simpa using hown, fun j r' hj => ?_⟩
  by_cases hlt : j < st.length
  · rw [List.getElem?_append_left hlt] at hj
    obtain ⟨A', c', a, b, d⟩ := h.2 j r' hj
    exact ⟨A', c', by rw [List.getElem?_append_left (by omega)]; exact a, (keep A' c' r' b d).1, (keep A' c' r' b d).2⟩
  · have hj' : j = st.length := by
      have := (List.getElem?_eq_some_iff.1 hj).1
      simp at this; omega
    subst hj'
    rw [List.getElem?_append_right (Nat.le_refl _)] at hj
    simp at hj
    subst hj
    exact ⟨A, c, by rw [List.getElem?_append_right (by omega), hlen]; simp, (keep A c r hr hA).1, (keep A c r hr hA).2⟩
theorem LSk.at_ (h : LSk w B n (.slice (some ⟨g, 0, none⟩) m cap) st vs) {j : Nat} (hj : j < st.length) : ∃ A c, w.cell? ⟨g, j, none⟩ = some (.slice A n c) ∧ Sl w w.heap.size 1 A n c (bcells st[j]) := by
  obtain ⟨A, c, a, b, _⟩ := h.2 j st[j] (by simp [hj])
  have hn : m = st.length := by
    obtain ⟨A', c', hv, _⟩ := own_any h.1
    cases hv; rfl
  subst hn
  exact ⟨A, c, by rw [h.1.cellAt j (by omega)]; exact a, b⟩
/-- Rows that are owned stay where only a row of rows is touched. -/
theorem Grid.tch {w0 : World} {R : List (List Bool)} (h : Grid w0 w v R) (ht : Tch S w w1) (hS : ∀ g, S g → w0.heap.size ≤ g) (h1 : ∀ g, v.ownBlock = some g → ¬ S g) (h2 : ∀ A : Option Addr, Bb w A → ∀ a, A = some a → ¬ S a.block) : Grid w0 w1 v R := by
  obtain ⟨us, a, b, d⟩ := h
  refine ⟨us, own_tch a ht h1, fun j r hj => ?_, d.trans (ht.below d.size (fun g hg hs => by have := hS g hs; omega))⟩
  obtain ⟨u, hu, ho⟩ := b j r hj
  refine ⟨u, hu, own_tch ho ht (fun g hg => ?_)⟩
  obtain ⟨A', c', rfl, _⟩ := own_sl ho
  rcases A' with _ | ad
  · simp [Value.ownBlock] at hg
  · have hbb := own_bb ho
    have : g = ad.block := by simp [Value.ownBlock] at hg; exact hg.symm
    rw [this]
    exact h2 _ hbb ad rfl
end
end Go.Proofs.YtamhjgkigjpbhaaDoor
