/- The stack of forms in memory. -/
import Derived.Test.YtkikkplpalabhaaSm6
import Derived.Test.YtkikkplpalabhaaStkP
namespace Go.Proofs.Ytkikkplpalabhaa
open Go.RowKit

theorem sliceS : SliceT Try.prog 65 66 1 24 :=
  SliceT.mk (z := .slice none 0 0) Try.underlying65 (by kernel_rfl) (by decide) (by decide)
theorem cell_blk {w w' : World} {b o : Nat} (h : w'.heap[b]? = w.heap[b]?) : w'.cell? ⟨b, o, none⟩ = w.cell? ⟨b, o, none⟩ := by
  simp [World.cell?, h]
/-- What lies in a block that is not touched. -/
theorem Sl.blk {S : Nat → Prop} {w w' : World} {B B' size n c : Nat} {A : Option Addr} {xs : List Value} (h : Sl w B size A n c xs) (ht : Tch S w w') (hs : ∀ a, A = some a → ¬ S a.block) (hB : B ≤ w.heap.size) (hB' : B ≤ B') : Sl w' B' size A n c xs := by
  refine { h with rd := ?_ }
  rcases h.rd with h0 | ⟨b, off, hA, hb, hc⟩
  · exact .inl h0
  · refine .inr ⟨b, off, hA, by omega, fun j u hj => ?_⟩
    rw [cell_blk (ht.block b (by omega) (hs _ hA))]
    exact hc j u hj
def Stk (w : World) (B : Nat) (v : Value) (st : List (List Nd)) (vs : List Value) : Prop :=
  w.ownsRow B 66 1 v st.length vs ∧ ∀ (j : Nat) r, st[j]? = some r → ∃ A c, vs[j]? = some (.slice A r.length c) ∧ Sl w w.heap.size 2 A r.length c (ncells r) ∧ Nb w A
section
variable {w w1 w2 : World} {B n c g cap : Nat} {v v2 : Value} {st : List (List Nd)} {vs : List Value} {A : Option Addr} {r : List Nd}
theorem Stk.below (h : Stk w B v st vs) (hb : Below w.heap.size w w1) : Stk w1 B v st vs := by
  refine ⟨own_below h.1 hb, fun j r hj => ?_⟩
  obtain ⟨A, c, h1, h2, h3⟩ := h.2 j r hj
  exact ⟨A, c, h1, (h2.below hb (Nat.le_refl _)).up hb.size, h3.below hb⟩
theorem Stk.nil (w : World) (B : Nat) : Stk w B (.slice none 0 0) [] [] := ⟨World.ownsRow_nil _ _ _ _, by simp⟩
theorem Stk.cut (h : Stk w B (.slice A n c) st vs) {k : Nat} (hk : k ≤ st.length) : Stk w B (.slice A k c) (st.take k) (vs.take k) := by
  have hn : n = st.length := by
    obtain ⟨A', c', hv, _⟩ := own_any h.1
    cases hv; rfl
  subst hn
  have h1 := own_cut_any h.1 hk
  rw [Nat.mul_one] at h1
  refine ⟨by rw [List.length_take, Nat.min_eq_left hk]; exact h1, fun j r hj => ?_⟩
  rw [List.getElem?_take] at hj
  split at hj
  · rename_i hjk
    obtain ⟨A', c', a, b, d⟩ := h.2 j r hj
    exact ⟨A', c', by rw [List.getElem?_take, if_pos hjk]; exact a, b, d⟩
  · cases hj
/-- Nodes lie in no block of the stack's. -/
theorem Stk.apart (h : Stk w B v st vs) (hA : Nb w A) : ∀ a, A = some a → v.ownBlock ≠ some a.block := fun a ha hg => by
  obtain ⟨cs, hc⟩ := hA a ha
  exact own_ne_blk h.1 hc (by decide) hg
theorem Stk.push (h : Stk w B v st vs) (hr : Sl w w.heap.size 2 A r.length c (ncells r)) (hA : Nb w A) (hown : w2.ownsRow B 66 1 v2 (st.length + 1) (vs ++ [.slice A r.length c])) (ht : Tch (fun k => v.ownBlock = some k) w w2) :
    Stk w2 B v2 (st ++ [r]) (vs ++ [.slice A r.length c]) := by
  have hlen : vs.length = st.length := by rw [h.1.1]; simp
  have keep : ∀ (A' : Option Addr) c' (r' : List Nd), Sl w w.heap.size 2 A' r'.length c' (ncells r') → Nb w A' → Sl w2 w2.heap.size 2 A' r'.length c' (ncells r') ∧ Nb w2 A' := fun A' c' r' hs hn => by
    refine ⟨hs.blk ht (h.apart hn) (Nat.le_refl _) ht.size, fun a ha => ?_⟩
    obtain ⟨cs, hc⟩ := hn a ha
    exact ⟨cs, ht.blk hc (h.apart hn a ha)⟩
  refine ⟨by simpa using hown, fun j r' hj => ?_⟩
  by_cases hlt : j < st.length
  · rw [List.getElem?_append_left hlt] at hj
    obtain ⟨A', c', a, b, d⟩ := h.2 j r' hj
    exact ⟨A', c', by rw [List.getElem?_append_left (by omega)]; exact a, (keep A' c' r' b d).1, (keep A' c' r' b d).2⟩
  · have hj' : j = st.length := by
      have := (List.getElem?_eq_some_iff.1 hj).1
      simp at this; omega
    subst hj'
    rw [List.getElem?_append_right (Nat.le_refl _)] at hj
    simp at hj
    subst hj
    exact ⟨A, c, by rw [List.getElem?_append_right (by omega), hlen]; simp, (keep A c r hr hA).1, (keep A c r hr hA).2⟩
theorem Stk.set (h : Stk w B (.slice (some ⟨g, 0, none⟩) n cap) st vs) (j : Nat) (hr : Sl w w.heap.size 2 A r.length c (ncells r)) (hA : Nb w A) :
    Stk (w.setCell ⟨g, j, none⟩ (.slice A r.length c)) B (.slice (some ⟨g, 0, none⟩) n cap) (st.set j r) (vs.set j (.slice A r.length c)) := by
  have hn : n = st.length := by
    obtain ⟨A', c', hv, _⟩ := own_any h.1
    cases hv; rfl
  subst hn
  have ht : Tch (fun k => k = g) w (w.setCell ⟨g, j, none⟩ (.slice A r.length c)) := Tch.setCell (S := fun k => k = g) (p := ⟨g, j, none⟩) (Tch.refl _ w) (fun _ => rfl) _
  have keep : ∀ (A' : Option Addr) c' (r' : List Nd), Sl w w.heap.size 2 A' r'.length c' (ncells r') → Nb w A' → Sl (w.setCell ⟨g, j, none⟩ (.slice A r.length c)) (w.setCell ⟨g, j, none⟩ (.slice A r.length c)).heap.size 2 A' r'.length c' (ncells r') ∧ Nb (w.setCell ⟨g, j, none⟩ (.slice A r.length c)) A' := fun A' c' r' hs hn => by
    have hap : ∀ a, A' = some a → ¬ (a.block = g) := fun a ha e => h.apart hn a ha (by rw [e]; rfl)
    refine ⟨hs.blk ht hap (Nat.le_refl _) ht.size, fun a ha => ?_⟩
    obtain ⟨cs, hc⟩ := hn a ha
    exact ⟨cs, ht.blk hc (hap a ha)⟩
  refine ⟨by rw [List.length_set]; exact (h.1.stored j _).1, fun i r' hi => ?_⟩
  have hlen : vs.length = st.length := by rw [h.1.1]; simp
  by_cases e : j = i
  · subst e
    have hlt : j < st.length := by have := (List.getElem?_eq_some_iff.1 hi).1; simpa using this
    rw [List.getElem?_set_self hlt] at hi
    cases hi
    exact ⟨A, c, List.getElem?_set_self (by omega), (keep A c r hr hA).1, (keep A c r hr hA).2⟩
  · rw [List.getElem?_set_ne e] at hi
    obtain ⟨A', c', a, b, d⟩ := h.2 i r' hi
    exact ⟨A', c', by rw [List.getElem?_set_ne e]; exact a, (keep A' c' r' b d).1, (keep A' c' r' b d).2⟩
/-- A form on the stack is read. -/
theorem Stk.at_ (h : Stk w B (.slice (some ⟨g, 0, none⟩) n cap) st vs) {j : Nat} (hj : j < st.length) : ∃ A c, w.cell? ⟨g, j, none⟩ = some (.slice A st[j].length c) ∧ Sl w w.heap.size 2 A st[j].length c (ncells st[j]) ∧ Nb w A := by
  obtain ⟨A, c, a, b, d⟩ := h.2 j st[j] (by simp [hj])
  have hn : n = st.length := by
    obtain ⟨A', c', hv, _⟩ := own_any h.1
    cases hv; rfl
  subst hn
  exact ⟨A, c, by rw [h.1.cellAt j (by omega)]; exact a, b, d⟩
theorem Stk.form (h : Stk w B v st vs) (hn : 0 < st.length) : ∃ g cap, v = .slice (some ⟨g, 0, none⟩) st.length cap ∧ B ≤ g ∧ g < w.heap.size ∧ st.length ≤ cap ∧ cap ≤ maxLen := own_form h.1 hn
end
end Go.Proofs.Ytkikkplpalabhaa
