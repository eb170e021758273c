/- Rows on a stack in memory, read but not owned, beside rows that are owned. -/
import Derived.Test.YtkikkplpalabhaaWk7
import Derived.Test.YtkikkplpalabhaaWdT
namespace Go.Proofs.Ytkikkplpalabhaa
open Go.RowKit

theorem truth_any (x : Nd) (A1 A2 Aa Ab : Option Addr) (n1 c1 n2 c2 na ca nb cb : Nat) (st lo : List Int) (a b : List Bool) (w : World) (h : WRd w w.heap.size A1 A2 n1 c1 n2 c2 st lo) (hl : n1 + n2 ≤ 60000) (h2 : 0 < n2) (ht : TArg w (n1 + n2) x.op Aa Ab na ca nb cb a b) (h0 : 0 ≤ takes x.op) (h3 : x.op = 3 → 0 ≤ x.n ∧ x.n < 8) :
    Calls Try.prog 65 #[lassoV A1 A2 n1 c1 n2 c2, .agg #[.int .i64 x.op, .int .i64 x.n], .slice Aa na ca, .slice Ab nb cb] w (NewRow w 4 1 (n1 + n2) (bcells (placesL (wbit st lo) (n1 + n2) n1 x a b)) False) := by
  obtain ⟨op, m⟩ := x
  dsimp only at *
  have hc : op = 1 ∨ op = 2 ∨ op = 3 ∨ op = 4 ∨ op = 5 ∨ op = 6 ∨ op = 7 ∨ op = 8 ∨ op = 9 ∨ op = 10 ∨ op = 11 ∨ op = 12 := by
    unfold takes at h0; (repeat' split at h0) <;> omega
  rcases hc with rfl | rfl | rfl | rfl | rfl | rfl | rfl | rfl | rfl | rfl | rfl | rfl
  · exact truth1_any A1 A2 Aa Ab n1 c1 n2 c2 na ca nb cb m st lo a b w h hl h2 ht
  · exact truth2_any A1 A2 Aa Ab n1 c1 n2 c2 na ca nb cb m st lo a b w h hl h2 ht
  · exact truth3_any A1 A2 Aa Ab n1 c1 n2 c2 na ca nb cb m st lo a b w h hl h2 ht (h3 rfl)
  · exact truth4_any A1 A2 Aa Ab n1 c1 n2 c2 na ca nb cb m st lo a b w h hl h2 ht
  · exact truth5_any A1 A2 Aa Ab n1 c1 n2 c2 na ca nb cb m st lo a b w h hl h2 ht
  · exact truth6_any A1 A2 Aa Ab n1 c1 n2 c2 na ca nb cb m st lo a b w h hl h2 ht
  · exact truth7_any A1 A2 Aa Ab n1 c1 n2 c2 na ca nb cb m st lo a b w h hl h2 ht
  · exact truth8_any A1 A2 Aa Ab n1 c1 n2 c2 na ca nb cb m st lo a b w h hl h2 ht
  · exact truth9_any A1 A2 Aa Ab n1 c1 n2 c2 na ca nb cb m st lo a b w h hl h2 ht
  · exact truth10_any A1 A2 Aa Ab n1 c1 n2 c2 na ca nb cb m st lo a b w h hl h2 ht
  · exact truth11_any A1 A2 Aa Ab n1 c1 n2 c2 na ca nb cb m st lo a b w h hl h2 ht
  · exact truth12_any A1 A2 Aa Ab n1 c1 n2 c2 na ca nb cb m st lo a b w h hl h2 ht

/-- The block of an address holds bools. -/
def Bb (w : World) (A : Option Addr) : Prop := ∀ a, A = some a → ∃ cs, w.heap[a.block]? = some (.cells cs 4 (0, 0))
theorem Bb.below {w w' : World} {A : Option Addr} (h : Bb w A) (hb : Below w.heap.size w w') : Bb w' A := fun a ha => by
  obtain ⟨cs, hc⟩ := h a ha
  exact ⟨cs, (hb.block _ (lt_of_block hc)).trans hc⟩
theorem own_bb {w : World} {base size n c m : Nat} {A : Option Addr} {xs : List Value} (h : w.ownsRow base 4 size (.slice A m c) n xs) : Bb w A := fun a ha => by
  rcases h.2 with ⟨h0, _⟩ | ⟨g, cap, cur, hv, _, hh, _⟩
  · cases h0; cases ha
  · cases hv; cases ha; exact ⟨cur, hh⟩
theorem cell_blkW {w w' : World} {b o : Nat} (h : w'.heap[b]? = w.heap[b]?) : w'.cell? ⟨b, o, none⟩ = w.cell? ⟨b, o, none⟩ := by
  simp [World.cell?, h]
theorem Sl.blkW {S : Nat → Prop} {w w' : World} {B B' size n c : Nat} {A : Option Addr} {xs : List Value} (h : Sl w B size A n c xs) (ht : Tch S w w') (hs : ∀ a, A = some a → ¬ S a.block) (hB : B ≤ w.heap.size) (hB' : B ≤ B') : Sl w' B' size A n c xs := by
  refine { h with rd := ?_ }
  rcases h.rd with h0 | ⟨b, off, hA, hb, hc⟩
  · exact .inl h0
  · refine .inr ⟨b, off, hA, by omega, fun j u hj => ?_⟩
    rw [cell_blkW (ht.block b (by omega) (hs _ hA))]
    exact hc j u hj
/-- The stack: rows of n bools, read. -/
def LSk (w : World) (B n : Nat) (v : Value) (st : List (List Bool)) (vs : List Value) : Prop :=
  w.ownsRow B 50 1 v st.length vs ∧ ∀ (j : Nat) r, st[j]? = some r → ∃ A c, vs[j]? = some (.slice A n c) ∧ Sl w w.heap.size 1 A n c (bcells r) ∧ Bb w A
section
variable {w w1 w2 : World} {B n m c g cap : Nat} {v v2 : Value} {st : List (List Bool)} {vs : List Value} {A : Option Addr} {r : List Bool} {S : Nat → Prop}
theorem LSk.nil (w : World) (B n : Nat) : LSk w B n (.slice none 0 0) [] [] := ⟨World.ownsRow_nil _ _ _ _, by simp⟩
/-- Rows of bools lie in no block of rows of rows. -/
theorem bb_apart {xs : List Value} {k : Nat} (h : w.ownsRow B 50 1 v k xs) (hA : Bb w A) : ∀ a, A = some a → v.ownBlock ≠ some a.block := fun a ha hg => by
  obtain ⟨cs, hc⟩ := hA a ha
  exact own_ne_blk h hc (by decide) hg
theorem LSk.tch (h : LSk w B n v st vs) (ht : Tch S w w1) (h1 : ∀ g, v.ownBlock = some g → ¬ S g) (h2 : ∀ A : Option Addr, Bb w A → ∀ a, A = some a → ¬ S a.block) : LSk w1 B n v st vs := by
  refine ⟨own_tch h.1 ht h1, fun j r hj => ?_⟩
  obtain ⟨A, c, a, b, d⟩ := h.2 j r hj
  refine ⟨A, c, a, b.blkW ht (h2 A d) (Nat.le_refl _) ht.size, fun x hx => ?_⟩
  obtain ⟨cs, hc⟩ := d x hx
  exact ⟨cs, ht.blk hc (h2 A d x hx)⟩
theorem LSk.below (h : LSk w B n v st vs) (hb : Below w.heap.size w w1) : LSk w1 B n v st vs :=
  h.tch (Tch.of_below hb) (fun g hg => by have := (h.1.lt g hg).2; omega) (fun A hA a ha => by
    obtain ⟨cs, hc⟩ := hA a ha
    have := lt_of_block hc
    omega)
theorem LSk.cut (h : LSk w B n (.slice A m c) st vs) {k : Nat} (hk : k ≤ st.length) : LSk w B n (.slice A k c) (st.take k) (vs.take k) := by
  have hn : m = st.length := by
    obtain ⟨A', c', hv, _⟩ := own_any h.1
    cases hv; rfl
  subst hn
  have h1 := own_cut_any h.1 hk
  rw [Nat.mul_one] at h1
  refine ⟨by rw [List.length_take, Nat.min_eq_left hk]; exact h1, fun j r hj => ?_⟩
  rw [List.getElem?_take] at hj
  split at hj
  · rename_i hjk
    obtain ⟨A', c', a, b, d⟩ := h.2 j r hj
    exact ⟨A', c', by rw [List.getElem?_take, if_pos hjk]; exact a, b, d⟩
  · cases hj
theorem LSk.push (h : LSk w B n v st vs) (hr : Sl w w.heap.size 1 A n c (bcells r)) (hA : Bb w A) (hown : w2.ownsRow B 50 1 v2 (st.length + 1) (vs ++ [.slice A n c])) (ht : Tch (fun k => v.ownBlock = some k) w w2) :
    LSk w2 B n v2 (st ++ [r]) (vs ++ [.slice A n c]) := by
  have hlen : vs.length = st.length := by rw [h.1.1]; simp
  have keep : ∀ (A' : Option Addr) c' (r' : List Bool), Sl w w.heap.size 1 A' n c' (bcells r') → Bb w A' → Sl w2 w2.heap.size 1 A' n c' (bcells r') ∧ Bb w2 A' := fun A' c' r' hs hn => by
    refine ⟨hs.blkW ht (bb_apart h.1 hn) (Nat.le_refl _) ht.size, fun a ha => ?_⟩
    obtain ⟨cs, hc⟩ := hn a ha
    exact ⟨cs, ht.blk hc (bb_apart h.1 hn a ha)⟩
  refine ⟨by simpa using hown, fun j r' hj => ?_⟩
  by_cases hlt : j < st.length
  · rw [List.getElem?_append_left hlt] at hj
    obtain ⟨A', c', a, b, d⟩ := h.2 j r' hj
    exact ⟨A', c', by rw [List.getElem?_append_left (by omega)]; exact a, (keep A' c' r' b d).1, (keep A' c' r' b d).2⟩
  · have hj' : j = st.length := by
      have := (List.getElem?_eq_some_iff.1 hj).1
      simp at this; omega
    subst hj'
    rw [List.getElem?_append_right (Nat.le_refl _)] at hj
    simp at hj
    subst hj
    exact ⟨A, c, by rw [List.getElem?_append_right (by omega), hlen]; simp, (keep A c r hr hA).1, (keep A c r hr hA).2⟩
theorem LSk.at_ (h : LSk w B n (.slice (some ⟨g, 0, none⟩) m cap) st vs) {j : Nat} (hj : j < st.length) : ∃ A c, w.cell? ⟨g, j, none⟩ = some (.slice A n c) ∧ Sl w w.heap.size 1 A n c (bcells st[j]) := by
  obtain ⟨A, c, a, b, _⟩ := h.2 j st[j] (by simp [hj])
  have hn : m = st.length := by
    obtain ⟨A', c', hv, _⟩ := own_any h.1
    cases hv; rfl
  subst hn
  exact ⟨A, c, by rw [h.1.cellAt j (by omega)]; exact a, b⟩
/-- Rows that are owned stay where only a row of rows is touched. -/
theorem Grid.tch {w0 : World} {R : List (List Bool)} (h : Grid w0 w v R) (ht : Tch S w w1) (hS : ∀ g, S g → w0.heap.size ≤ g) (h1 : ∀ g, v.ownBlock = some g → ¬ S g) (h2 : ∀ A : Option Addr, Bb w A → ∀ a, A = some a → ¬ S a.block) : Grid w0 w1 v R := by
  obtain ⟨us, a, b, d⟩ := h
  refine ⟨us, own_tch a ht h1, fun j r hj => ?_, d.trans (ht.below d.size (fun g hg hs => by have := hS g hs; omega))⟩
  obtain ⟨u, hu, ho⟩ := b j r hj
  refine ⟨u, hu, own_tch ho ht (fun g hg => ?_)⟩
  obtain ⟨A', c', rfl, _⟩ := own_sl ho
  rcases A' with _ | ad
  · simp [Value.ownBlock] at hg
  · have hbb := own_bb ho
    have : g = ad.block := by simp [Value.ownBlock] at hg; exact hg.symm
    rw [this]
    exact h2 _ hbb ad rfl
end
end Go.Proofs.Ytkikkplpalabhaa
