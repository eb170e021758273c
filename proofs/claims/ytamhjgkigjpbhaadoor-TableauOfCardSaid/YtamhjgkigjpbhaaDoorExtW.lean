/- A region's append of a whole slice. -/
import Derived.Test.YtamhjgkigjpbhaaDoorMa
import Derived.Test.YtamhjgkigjpbhaaDoorMe
namespace Go.Proofs.YtamhjgkigjpbhaaDoor
open Go.RowKit

section
variable {P : Program} {ops : Array Oper} {rest : List Oper} {o : Oper} {a : Act} {Q : Exit → Act → World → Prop} {w : World}
/-- A region's 'append(v, xs...)': 'append(v, xs...)', v nil or owned, xs whatever: nil, empty or not. -/
theorem step_extend {K : Act → World → Prop} {E : Prop} (hgd : o.guard = none) (s x : Operand) (t : TypeId) (ho : o.op = .call { callee := .builtin .append, args := #[s, x], argTypes := #[t, t] })
    (base e size bytes : Nat) (T : SliceT P t e size bytes) (v : Value) (n : Nat) (xs : List Value) (hown : w.ownsRow base e size v n xs) (hs : a.eval s = v)
    (B : Nat) (A : Option Addr) (m c : Nat) (news : List Value) (hx : a.eval x = .slice A m c) (hr : Sl w B size A m c news) (h1 : ∀ u ∈ news, u.oneCell' = true)
    (hn : n + m ≤ 1000000000000) (hby : bytes ≤ 128) (hbase : base ≤ w.heap.size)
    (h : ∀ v' w', w'.ownsRow base e size v' (n + m) (xs ++ news) → Tch (fun k => v.ownBlock = some k) w w' → (v'.ownBlock = v.ownBlock ∨ v'.ownBlock = some w.heap.size) → (v' = .slice none 0 0 ↔ v = .slice none 0 0 ∧ m = 0) → K (a.put o.dst v') w') :
    if Region.wanted o (yielded ops a.tmps) = true then Oper.wp P o a w K Q else E := by
  have hw : Region.wanted o (yielded ops a.tmps) = true := by simp [Region.wanted, hgd]
  rw [if_pos hw]
  obtain ⟨ht, hsz, i, z, hi, hz, hs1, hb1, hz1⟩ := T
  have hbb : (n + m) * bytes ≤ 140737488355328 := by
    have : (n + m) * bytes ≤ 1000000000000 * 128 := Nat.mul_le_mul hn hby
    omega
  rcases A with _ | ad
  · have hc : c = 0 := hr.nil rfl
    have hm : m = 0 := by have := hr.cap; omega
    subst hc; subst hm
    have hnews : news = [] := List.eq_nil_of_length_eq_zero (by rw [hr.len]; simp)
    subst hnews
    have hrun := run_append_owned_none (P := P) (w := w) base t o.type e i size ht hi v n xs hown
    unfold Oper.wp execOp
    simp only [ho, resolve, invoke, builtin, Sem.run_bind, Sem.run_pure, Result.andThen_ok, List.map_toArray, List.map_cons, List.map_nil, hs, hx, hrun]
    exact h v w (by simpa using hown) (Tch.refl _ _) (.inl rfl) (by simp)
  · have hnews : ∀ j u, news[j]? = some u → w.cell? (ad.add j) = some u := by
      intro j u hu
      obtain ⟨b, off, hA, _, hc⟩ := hr.rd.at_ hu
      cases hA
      have hadd : (⟨b, off, none⟩ : Addr).add j = ⟨b, off + j, none⟩ := by
        unfold Addr.add
        split
        · rename_i h; subst h; rfl
        · rfl
      rw [hadd]; exact hc
    obtain ⟨v', w', hrun, h2, h3, h4, h5⟩ := run_append_own_at (P := P) w base t o.type e i z size bytes ht hi hz hs1 hb1 hz1 hsz v n xs hown ad m c news hr.len hnews h1 (by unfold maxLen; omega) hbb hbase
    unfold Oper.wp execOp
    simp only [ho, resolve, invoke, builtin, Sem.run_bind, Sem.run_pure, Result.andThen_ok, List.map_toArray, List.map_cons, List.map_nil, hs, hx, hrun]
    exact h v' w' h2 (Tch.of_grown h3) h5 h4
/-- A region's empty literal: an owned row of none. -/
theorem step_empty {K : Act → World → Prop} {E : Prop} (hgd : o.guard = none) (t : TypeId) (ho : o.op = .buildSlice t 0 #[])
    (e size bytes : Nat) (T : SliceT P t e size bytes)
    (h : ∀ w' v', v' = .slice (some ⟨w.heap.size, 0, none⟩) 0 0 → w'.ownsRow w.heap.size e size v' 0 [] → Below w.heap.size w w' → w'.heap.size = w.heap.size + 1 → K (a.put o.dst v') w') :
    if Region.wanted o (yielded ops a.tmps) = true then Oper.wp P o a w K Q else E := by
  have hw : Region.wanted o (yielded ops a.tmps) = true := by simp [Region.wanted, hgd]
  rw [if_pos hw]
  obtain ⟨ht, hsz, i, z, hi, hz, hs1, hb1, hz1⟩ := T
  have hk := h (w.alloc (.cells #[] e)) _ rfl (World.ownsRow_made w #[] 0 (Nat.le_refl _) (by unfold maxLen; omega) (by simp)) ((Below.refl w.heap.size w).alloc (Nat.le_refl _) _) (by simp)
  unfold Oper.wp execOp
  simp only [ho]
  simp [Instr.buildSlice, go_sem, run_underlying ht, sizeOf, typeInfo, hi]
  exact hk
/-- A region's new variable: a block of its own. -/
theorem step_new {K : Act → World → Prop} {E : Prop} (hgd : o.guard = none) (t : TypeId) (ho : o.op = .alloc t) (z : Value) (cs : Array Value) (hi : (P.info? t).map (fun i => i.zero) = some (some z)) (hc : z.cells = cs)
    (h : ∀ w' g, w'.heap[g]? = some (.cells cs t (0, 0)) → w.heap.size ≤ g → Below w.heap.size w w' → K (a.put o.dst (.pointer (some ⟨g, 0, none⟩))) w') :
    if Region.wanted o (yielded ops a.tmps) = true then Oper.wp P o a w K Q else E := by
  have hw : Region.wanted o (yielded ops a.tmps) = true := by simp [Region.wanted, hgd]
  rw [if_pos hw]
  subst hc
  obtain ⟨i, h1, h2⟩ := Option.map_eq_some_iff.1 hi
  have hk := h (w.alloc (.cells z.cells t)) w.heap.size (heap_alloc_new w _) (Nat.le_refl _) ((Below.refl w.heap.size w).alloc (Nat.le_refl _) _)
  unfold Oper.wp execOp
  simp only [ho]
  simp [Instr.alloc, newVar, newRow, zeroValue, go_sem, typeInfo, h1, h2]
  exact hk
/-- A region's 'append(T{}, xs...)': the empty literal's block is held, never written. -/
theorem step_ext0 {K : Act → World → Prop} {E : Prop} (hgd : o.guard = none) (s x : Operand) (t : TypeId) (ho : o.op = .call { callee := .builtin .append, args := #[s, x], argTypes := #[t, t] })
    (base e size bytes : Nat) (T : SliceT P t e size bytes) (k : Nat) (hs : a.eval s = .slice (some ⟨k, 0, none⟩) 0 0)
    (B : Nat) (A : Option Addr) (m c : Nat) (news : List Value) (hx : a.eval x = .slice A m c) (hr : Sl w B size A m c news) (h1 : ∀ u ∈ news, u.oneCell' = true)
    (hn : m ≤ 1000000000000) (hby : bytes ≤ 128) (hbase : base ≤ w.heap.size) (hk : w.heap[k]? = some (.cells #[] e (0, 0))) (hbk : base ≤ k)
    (h : ∀ v' w', w'.ownsRow base e size v' m news → Below w.heap.size w w' → K (a.put o.dst v') w') :
    if Region.wanted o (yielded ops a.tmps) = true then Oper.wp P o a w K Q else E := by
  have hown : w.ownsRow base e size (.slice (some ⟨k, 0, none⟩) 0 0) 0 [] :=
    ⟨by simp, .inr ⟨k, 0, #[], rfl, hbk, hk, Nat.le_refl _, by unfold maxLen; omega, by simp, by simp⟩⟩
  have hw : Region.wanted o (yielded ops a.tmps) = true := by simp [Region.wanted, hgd]
  rw [if_pos hw]
  obtain ⟨ht, hsz, i, z, hi, hz, hs1, hb1, hz1⟩ := T
  have hbb : (0 + m) * bytes ≤ 140737488355328 := by
    have : (0 + m) * bytes ≤ 1000000000000 * 128 := Nat.mul_le_mul (by omega) hby
    omega
  rcases A with _ | ad
  · have hc : c = 0 := hr.nil rfl
    have hm : m = 0 := by have := hr.cap; omega
    subst hc; subst hm
    have hnews : news = [] := List.eq_nil_of_length_eq_zero (by rw [hr.len]; simp)
    subst hnews
    have hrun := run_append_owned_none (P := P) (w := w) base t o.type e i size ht hi _ 0 [] hown
    unfold Oper.wp execOp
    simp only [ho, resolve, invoke, builtin, Sem.run_bind, Sem.run_pure, Result.andThen_ok, List.map_toArray, List.map_cons, List.map_nil, hs, hx, hrun]
    exact h _ w hown (Below.refl _ _)
  · have hnews : ∀ j u, news[j]? = some u → w.cell? (ad.add j) = some u := by
      intro j u hu
      obtain ⟨b, off, hA, _, hc⟩ := hr.rd.at_ hu
      cases hA
      have hadd : (⟨b, off, none⟩ : Addr).add j = ⟨b, off + j, none⟩ := by
        unfold Addr.add
        split
        · rename_i h; subst h; rfl
        · rfl
      rw [hadd]; exact hc
    by_cases hm : m = 0
    · subst hm
      have hnews0 : news = [] := List.eq_nil_of_length_eq_zero (by rw [hr.len]; simp)
      subst hnews0
      have hrun := run_append_room_cells (P := P) w t o.type e i ht hi k 0 0 0 ad 0 c [] (by simp) (by simp) (by simp) (Nat.le_refl _) (by simp) (by simp)
      unfold Oper.wp execOp
      simp only [ho, resolve, invoke, builtin, Sem.run_bind, Sem.run_pure, Result.andThen_ok, List.map_toArray, List.map_cons, List.map_nil, hs, hx, hrun]
      exact h _ w hown (Below.refl _ _)
    · obtain ⟨v', w', hrun, h2, h3⟩ := run_append_arg_grows (P := P) w t o.type e i z size bytes ht hi hz hs1 hb1 hz1 hsz ⟨k, 0, none⟩ 0 0 [] (by simp) (by simp) ad m c news hr.len hnews (by omega) (by unfold maxLen; omega) hbb
      unfold Oper.wp execOp
      simp only [ho, resolve, invoke, builtin, Sem.run_bind, Sem.run_pure, Result.andThen_ok, List.map_toArray, List.map_cons, List.map_nil, hs, hx, hrun]
      rw [Nat.zero_add, List.nil_append] at h2
      exact h v' w' (own_base h2 hbase) ((Tch.of_grown h3).below (Nat.le_refl _) (fun _ _ e => by cases e))
theorem own_tchE {w w' : World} {base e e' size size' n m : Nat} {v u : Value} {xs ys : List Value} (h : w.ownsRow base e' size' v n xs) (hE : w.ownsRow base e size u m ys) (ht : Tch (fun k => u.ownBlock = some k) w w') (hne : e' ≠ e) : w'.ownsRow base e' size' v n xs :=
  own_tch h ht (fun k hk hS => own_ne h hE hne k hk hS)
theorem blk_tchE {w w' : World} {base e t size m g : Nat} {u : Value} {ys : List Value} {cs : Array Value} (h : w.heap[g]? = some (.cells cs t (0, 0))) (hE : w.ownsRow base e size u m ys) (ht : Tch (fun k => u.ownBlock = some k) w w') (hne : e ≠ t) : w'.heap[g]? = some (.cells cs t (0, 0)) :=
  ht.blk h (own_ne_blk hE h hne)
theorem below_tchE {w0 w w' : World} {base e size m : Nat} {u : Value} {ys : List Value} (h : Below base w0 w) (hE : w.ownsRow base e size u m ys) (ht : Tch (fun k => u.ownBlock = some k) w w') (hb : base ≤ w0.heap.size) : Below base w0 w' :=
  h.trans (ht.below (by have := h.size; omega) (fun k hk hS => by have := (hE.lt k hS).1; omega))
theorem belowR {base : Nat} {w0 w w' : World} (h : Below base w0 w) (hb : base ≤ w0.heap.size) (h2 : Below w.heap.size w w') : Below base w0 w' :=
  h.trans (h2.mono (by have := h.size; omega))
end
end Go.Proofs.YtamhjgkigjpbhaaDoor
