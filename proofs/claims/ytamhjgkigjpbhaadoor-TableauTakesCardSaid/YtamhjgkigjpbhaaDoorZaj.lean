/- Texts that stand one behind the other, in one file. -/
import Derived.Test.YtamhjgkigjpbhaaDoorMa
import Derived.Test.YtamhjgkigjpbhaaDoorMe
import Derived.Test.YtamhjgkigjpbhaaDoorZah
import Derived.Test.YtamhjgkigjpbhaaDoorProg
import Derived.Outline
import Derived.Test.YtamhjgkigjpbhaaDoorZag

/- A region's append of a whole slice. -/
namespace Go.Proofs.YtamhjgkigjpbhaaDoor
open Go.RowKit

section
variable {P : Program} {ops : Array Oper} {rest : List Oper} {o : Oper} {a : Act} {Q : Exit → Act → World → Prop} {w : World}
/-- A region's 'append(v, xs...)': 'append(v, xs...)', v nil or owned, xs whatever: nil, empty or not. -/
theorem step_extend {K : Act → World → Prop} {E : Prop} (hgd : o.guard = none) (s x : Operand) (t : TypeId) (ho : o.op = .call { callee := .builtin .append, args := #[s, x], argTypes := #[t, t] })
    (base e size bytes : Nat) (T : SliceT P t e size bytes) (v : Value) (n : Nat) (xs : List Value) (hown : w.ownsRow base e size v n xs) (hs : a.eval s = v)
    (B : Nat) (A : Option Addr) (m c : Nat) (news : List Value) (hx : a.eval x = .slice A m c) (hr : Sl w B size A m c news) (h1 : ∀ u ∈ news, u.oneCell' = true)
    (hn : n + m ≤ 1000000000000) (hby : bytes ≤ 128) (hbase : base ≤ w.heap.size)
    (h : ∀ v' w', w'.ownsRow base e size v' (n + m) (xs ++ news) → Tch (fun k => v.ownBlock = some k) w w' → (v'.ownBlock = v.ownBlock ∨ v'.ownBlock = some w.heap.size) → (v' = .slice none 0 0 ↔ v = .slice none 0 0 ∧ m = 0) → K (a.put o.dst v') w') :
    if Region.wanted o (yielded ops a.tmps) = true then Oper.wp P o a w K Q else E := by
  have hw : Region.wanted o (yielded ops a.tmps) = true := by simp [Region.wanted, hgd]
  rw [if_pos hw]
  obtain ⟨ht, hsz, i, z, hi, hz, hs1, hb1, hz1⟩ := T
  have hbb : (n + m) * bytes ≤ 140737488355328 := by
    have : (n + m) * bytes ≤ 1000000000000 * 128 := Nat.mul_le_mul hn hby
    omega
  rcases A with _ | ad
  · have hc : c = 0 := hr.nil rfl
    have hm : m = 0 := by have := hr.cap; omega
    subst hc; subst hm
    have hnews : news = [] := List.eq_nil_of_length_eq_zero (by rw [hr.len]; simp)
    subst hnews
    have hrun := run_append_owned_none (P := P) (w := w) base t o.type e i size ht hi v n xs hown
    unfold Oper.wp execOp
    simp only [ho, resolve, invoke, builtin, Sem.run_bind, Sem.run_pure, Result.andThen_ok, List.map_toArray, List.map_cons, List.map_nil, hs, hx, hrun]
    exact h v w (by simpa using hown) (Tch.refl _ _) (.inl rfl) (by simp)
  · have hnews : ∀ j u, news[j]? = some u → w.cell? (ad.add j) = some u := by
      intro j u hu
      obtain ⟨b, off, hA, _, hc⟩ := hr.rd.at_ hu
      cases hA
      have hadd : (⟨b, off, none⟩ : Addr).add j = ⟨b, off + j, none⟩ := by
        unfold Addr.add
        split
        · rename_i h; subst h; rfl
        · rfl
      rw [hadd]; exact hc
    obtain ⟨v', w', hrun, h2, h3, h4, h5⟩ := run_append_own_at (P := P) w base t o.type e i z size bytes ht hi hz hs1 hb1 hz1 hsz v n xs hown ad m c news hr.len hnews h1 (by unfold maxLen; omega) hbb hbase
    unfold Oper.wp execOp
    simp only [ho, resolve, invoke, builtin, Sem.run_bind, Sem.run_pure, Result.andThen_ok, List.map_toArray, List.map_cons, List.map_nil, hs, hx, hrun]
    exact h v' w' h2 (Tch.of_grown h3) h5 h4
/-- A region's 'append(T{}, xs...)': the empty literal's block is held, never written. -/
theorem step_ext0 {K : Act → World → Prop} {E : Prop} (hgd : o.guard = none) (s x : Operand) (t : TypeId) (ho : o.op = .call { callee := .builtin .append, args := #[s, x], argTypes := #[t, t] })
    (base e size bytes : Nat) (T : SliceT P t e size bytes) (k : Nat) (hs : a.eval s = .slice (some ⟨k, 0, none⟩) 0 0)
    (B : Nat) (A : Option Addr) (m c : Nat) (news : List Value) (hx : a.eval x = .slice A m c) (hr : Sl w B size A m c news) (h1 : ∀ u ∈ news, u.oneCell' = true)
    (hn : m ≤ 1000000000000) (hby : bytes ≤ 128) (hbase : base ≤ w.heap.size) (hk : w.heap[k]? = some (.cells #[] e (0, 0))) (hbk : base ≤ k)
    (h : ∀ v' w', w'.ownsRow base e size v' m news → Below w.heap.size w w' → K (a.put o.dst v') w') :
    if Region.wanted o (yielded ops a.tmps) = true then Oper.wp P o a w K Q else E := by
  have hown : w.ownsRow base e size (.slice (some ⟨k, 0, none⟩) 0 0) 0 [] :=
    ⟨by simp, .inr ⟨k, 0, #[], rfl, hbk, hk, Nat.le_refl _, by unfold maxLen; omega, by simp, by simp⟩⟩
  have hw : Region.wanted o (yielded ops a.tmps) = true := by simp [Region.wanted, hgd]
  rw [if_pos hw]
  obtain ⟨ht, hsz, i, z, hi, hz, hs1, hb1, hz1⟩ := T
  have hbb : (0 + m) * bytes ≤ 140737488355328 := by
    have : (0 + m) * bytes ≤ 1000000000000 * 128 := Nat.mul_le_mul (by omega) hby
    omega
  rcases A with _ | ad
  · have hc : c = 0 := hr.nil rfl
    have hm : m = 0 := by have := hr.cap; omega
    subst hc; subst hm
    have hnews : news = [] := List.eq_nil_of_length_eq_zero (by rw [hr.len]; simp)
    subst hnews
    have hrun := run_append_owned_none (P := P) (w := w) base t o.type e i size ht hi _ 0 [] hown
    unfold Oper.wp execOp
    simp only [ho, resolve, invoke, builtin, Sem.run_bind, Sem.run_pure, Result.andThen_ok, List.map_toArray, List.map_cons, List.map_nil, hs, hx, hrun]
    exact h _ w hown (Below.refl _ _)
  · have hnews : ∀ j u, news[j]? = some u → w.cell? (ad.add j) = some u := by
      intro j u hu
      obtain ⟨b, off, hA, _, hc⟩ := hr.rd.at_ hu
      cases hA
      have hadd : (⟨b, off, none⟩ : Addr).add j = ⟨b, off + j, none⟩ := by
        unfold Addr.add
        split
        · rename_i h; subst h; rfl
        · rfl
      rw [hadd]; exact hc
    by_cases hm : m = 0
    · subst hm
      have hnews0 : news = [] := List.eq_nil_of_length_eq_zero (by rw [hr.len]; simp)
      subst hnews0
      have hrun := run_append_room_cells (P := P) w t o.type e i ht hi k 0 0 0 ad 0 c [] (by simp) (by simp) (by simp) (Nat.le_refl _) (by simp) (by simp)
      unfold Oper.wp execOp
      simp only [ho, resolve, invoke, builtin, Sem.run_bind, Sem.run_pure, Result.andThen_ok, List.map_toArray, List.map_cons, List.map_nil, hs, hx, hrun]
      exact h _ w hown (Below.refl _ _)
    · obtain ⟨v', w', hrun, h2, h3⟩ := run_append_arg_grows (P := P) w t o.type e i z size bytes ht hi hz hs1 hb1 hz1 hsz ⟨k, 0, none⟩ 0 0 [] (by simp) (by simp) ad m c news hr.len hnews (by omega) (by unfold maxLen; omega) hbb
      unfold Oper.wp execOp
      simp only [ho, resolve, invoke, builtin, Sem.run_bind, Sem.run_pure, Result.andThen_ok, List.map_toArray, List.map_cons, List.map_nil, hs, hx, hrun]
      rw [Nat.zero_add, List.nil_append] at h2
      exact h v' w' (own_base h2 hbase) ((Tch.of_grown h3).below (Nat.le_refl _) (fun _ _ e => by cases e))
theorem own_tchE {w w' : World} {base e e' size size' n m : Nat} {v u : Value} {xs ys : List Value} (h : w.ownsRow base e' size' v n xs) (hE : w.ownsRow base e size u m ys) (ht : Tch (fun k => u.ownBlock = some k) w w') (hne : e' ≠ e) : w'.ownsRow base e' size' v n xs :=
  own_tch h ht (fun k hk hS => own_ne h hE hne k hk hS)
theorem below_tchE {w0 w w' : World} {base e size m : Nat} {u : Value} {ys : List Value} (h : Below base w0 w) (hE : w.ownsRow base e size u m ys) (ht : Tch (fun k => u.ownBlock = some k) w w') (hb : base ≤ w0.heap.size) : Below base w0 w' :=
  h.trans (ht.below (by have := h.size; omega) (fun k hk hS => by have := (hE.lt k hS).1; omega))
end
end Go.Proofs.YtamhjgkigjpbhaaDoor

/- The walks of layer 28 (cover): with. -/
namespace Go.Proofs.YtamhjgkigjpbhaaDoor
open Go.RowKit

theorem icells_one' (l : List Int) : ∀ u ∈ icells l, u.oneCell' = true := by
  intro u hu
  obtain ⟨b, _, rfl⟩ := List.mem_map.1 hu
  rfl
set_option maxHeartbeats 2000000 in
set_option maxRecDepth 100000 in
theorem with_any (x : Way) (A1 : Option Addr) (c1 : Nat) (A2 : Option Addr) (c2 : Nat) (A3 : Option Addr) (c3 : Nat) (Ap : Option Addr) (cp : Nat) (ps : List Nat) (w : World) (h : WR w x A1 c1 A2 c2 A3 c3) (hp : Sl w w.heap.size 1 Ap ps.length cp (icells (natI ps))) (hpl : ps.length ≤ 1000000) (hl : x.todo.length ≤ 1000000) :
    Calls Tryd.prog 78 #[.agg #[.int .u64 (x.need : Int), .int .u64 (x.ban : Int), .slice A1 x.now.length c1, .slice A2 x.next.length c2, .slice A3 x.todo.length c3], .slice Ap ps.length cp] w (NewWay w (x.with_ ps)) := by
  have HC := Lib.hid (fun (w' : World) (hb : Below w.heap.size w w') => cloneInt_any Ap ps.length cp (icells (natI ps)) w' w.heap.size (hp.below hb (Nat.le_refl _)) (icells_one' _) hb.size (by omega))
  have HR := Lib.hid h
  clear h
  have HX := box5 w (.cells #[.int .u64 (x.need : Int), .int .u64 (x.ban : Int), .slice A1 x.now.length c1, .slice A2 x.next.length c2, .slice A3 x.todo.length c3] 100) (.cells #[.int .u64 0, .int .u64 0, .slice none 0 0, .slice none 0 0, .slice none 0 0] 100)
  obtain ⟨W0, hW0⟩ : ∃ W0, (w.alloc (.cells #[.int .u64 (x.need : Int), .int .u64 (x.ban : Int), .slice A1 x.now.length c1, .slice A2 x.next.length c2, .slice A3 x.todo.length c3] 100)).alloc (.cells #[.int .u64 0, .int .u64 0, .slice none 0 0, .slice none 0 0, .slice none 0 0] 100) = W0 := ⟨_, rfl⟩
  rw [hW0] at HX
  obtain ⟨hb0, hx0, hx1, hxz⟩ := HX
  have k4 : W0.cell? ⟨w.heap.size, 4, none⟩ = some (.slice A3 x.todo.length c3) := by rw [cell_of_row _ _ 4 _ _ (0, 0) hx0]; rfl
  have HW0 := Lib.hid hW0
  clear hW0
  go_enter Tryd.func78, Tryd.ntmps78
  go_wp2_with fail
  rw [HW0.out]
  refine wp_region_T (S := fun w' => w'.cell? ⟨w.heap.size, 4, none⟩ = some (.slice A3 x.todo.length c3)) 6 (by kernel_rfl) (k4) (fun hS => ?_)
  refine wpAnyT_takeD (i := 0) (v := ?_) rfl (by kernel_rfl) (by kernel_rfl) (by kernel_rfl) (by kernel_rfl) (fun _ _ _ h => h) (Or.inl ⟨by kernel_rfl, ?_⟩) hS ?_
  rotate_left 1
  · (intro w' hSw; (try dsimp only at hSw); go_simp; try (with_reducible rfl))
  try simp only [Act.put, List.setIfInBounds_toArray, List.set_cons_zero, List.set_cons_succ]
  refine wpAnyT_takeD (i := 2) (v := ?_) rfl (by kernel_rfl) (by kernel_rfl) (by kernel_rfl) (by kernel_rfl) (fun _ _ _ h => h) (Or.inl ⟨by kernel_rfl, ?_⟩) hS ?_
  rotate_left 1
  · (intro w' hSw; (try dsimp only at hSw); go_simp; try (with_reducible rfl))
  try simp only [Act.put, List.setIfInBounds_toArray, List.set_cons_zero, List.set_cons_succ]
  refine wpAnyT_takeD (i := 3) (v := ?_) rfl (by kernel_rfl) (by kernel_rfl) (by kernel_rfl) (by kernel_rfl) (fun _ _ _ h => h) (Or.inl ⟨by kernel_rfl, ?_⟩) hS ?_
  rotate_left 1
  · (intro w' hSw; (try dsimp only at hSw); go_simp; try (with_reducible rfl))
  try simp only [Act.put, List.setIfInBounds_toArray, List.set_cons_zero, List.set_cons_succ]
  refine wpAnyT_oneD (i := 1) rfl (by kernel_rfl) (by decide) (fun K hK => ?_)
  go_simp
  refine Calls.mono (HC.out _ hb0.drew) ?_
  rintro e w2 ⟨v1, rfl, ho1, hb2', -⟩
  rw [show (W0.drew).heap.size = w.heap.size + 2 from hxz] at ho1
  have hb2 : Below (w.heap.size + 2) W0 w2 := by
    have := below_undrew hb2'
    rwa [show (W0.drew).heap.size = w.heap.size + 2 from hxz] at this
  clear hb2'
  have hz2 := hb2.size
  rw [hxz] at hz2
  have e4 := (hb2.cell (p := ⟨w.heap.size, 4, none⟩) (show w.heap.size < w.heap.size + 2 by omega)).trans k4
  go_wp2_with fail
  refine hK.out _ _ e4 (fun hS => ?_)
  clear hK
  try simp only [Act.put, List.setIfInBounds_toArray, List.set_cons_zero, List.set_cons_succ]
  refine wpAnyT_oneD (i := 4) rfl (by kernel_rfl) (by decide) (fun K hK => ?_)
  refine step_extend rfl (.tmp 6) (.tmp 8) 25 rfl (w.heap.size + 2) 3 1 8 sliceInt v1 ps.length (icells (natI ps)) ho1 (by rfl) w.heap.size A3 x.todo.length c3 (icells (natI x.todo)) (by rfl) (HR.out.todo.sl.below (hb0.trans (hb2.mono (by omega))) (Nat.le_refl _)) (icells_one' _) (by omega) (by omega) (by omega) ?_
  intro v2 w3 ho3 ht3 _ _
  have hb3 : Below (w.heap.size + 2) W0 w3 := hb2.trans (ht3.below (by omega) (fun k hk e => by have := (ho1.lt k e).1; omega))
  have e5 := (hb3.cell (p := ⟨w.heap.size, 4, none⟩) (show w.heap.size < w.heap.size + 2 by omega)).trans k4
  have hz3 := hb3.size
  rw [hxz] at hz3
  refine hK.out _ _ e5 (fun hS => ?_)
  clear hK
  try simp only [Act.put, List.setIfInBounds_toArray, List.set_cons_zero, List.set_cons_succ]
  refine wpAnyT_takeD (i := 5) (v := ?_) rfl (by kernel_rfl) (by kernel_rfl) (by kernel_rfl) (by kernel_rfl) (fun _ _ _ h => h) (Or.inl ⟨by kernel_rfl, ?_⟩) hS ?_
  rotate_left 1
  · (intro w' hSw; (try dsimp only at hSw); go_simp; try (with_reducible rfl))
  try simp only [Act.put, List.setIfInBounds_toArray, List.set_cons_zero, List.set_cons_succ]
  obtain ⟨A, cap, rfl, ht⟩ := TSl.of_own ho3
  have q0 := (hb3.block w.heap.size (by omega)).trans hx0
  have q1 := (hb3.block (w.heap.size + 1) (by omega)).trans hx1
  have hb03 : Below w.heap.size w w3 := hb0.trans (hb3.mono (by omega))
  have HT := Lib.hid ht
  have HB := Lib.hid hb03
  have kf := frozen_of_row _ _ 4 _ _ q0
  have j0 : w3.cell? ⟨w.heap.size, 0, none⟩ = some (.int .u64 (x.need : Int)) := by rw [cell_of_row _ _ 0 _ _ (0, 0) q0]; rfl
  have j1 : w3.cell? ⟨w.heap.size, 1, none⟩ = some (.int .u64 (x.ban : Int)) := by rw [cell_of_row _ _ 1 _ _ (0, 0) q0]; rfl
  have j2 : w3.cell? ⟨w.heap.size, 2, none⟩ = some (.slice A1 x.now.length c1) := by rw [cell_of_row _ _ 2 _ _ (0, 0) q0]; rfl
  have j3 : w3.cell? ⟨w.heap.size, 3, none⟩ = some (.slice A2 x.next.length c2) := by rw [cell_of_row _ _ 3 _ _ (0, 0) q0]; rfl
  have Q0 := Lib.hid q0
  have Q1 := Lib.hid q1
  clear q0 q1 hb03 ht ho3 ht3 hb3 hb2 ho1 hb0 hx0 hx1
  have l0 := cell_of_row _ _ 0 _ _ (0, 0) Q1.out
  have l1 := cell_of_row _ _ 1 _ _ (0, 0) Q1.out
  have l2 := cell_of_row _ _ 2 _ _ (0, 0) Q1.out
  have l3 := cell_of_row _ _ 3 _ _ (0, 0) Q1.out
  have l4 := cell_of_row _ _ 4 _ _ (0, 0) Q1.out
  have lf0 := frozen_of_row _ _ 0 _ _ Q1.out
  have lf1 := frozen_of_row _ _ 1 _ _ Q1.out
  have lf2 := frozen_of_row _ _ 2 _ _ Q1.out
  have lf3 := frozen_of_row _ _ 3 _ _ Q1.out
  have lf4 := frozen_of_row _ _ 4 _ _ Q1.out
  simp only [List.getElem?_toArray, List.getElem?_cons_zero, List.getElem?_cons_succ] at l0 l1 l2 l3 l4
  refine wpAnyT_endD rfl (by kernel_rfl) (by kernel_rfl) (fun K hK => ?_)
  go_simp
  refine hK.out _ _ ?_
  clear hK
  go_wp2_with fail
  have Q1' := (Below.heap_setCell w3 ⟨w.heap.size, 4, none⟩ (.slice A (ps.length + x.todo.length) cap) (w.heap.size + 1) (show w.heap.size + 1 ≠ w.heap.size by omega)).trans Q1.out
  refine bodyPost_ret (v := .agg #[.int .u64 (x.need : Int), .int .u64 (x.ban : Int), .slice A1 x.now.length c1, .slice A2 x.next.length c2, .slice A (ps.length + x.todo.length) cap]) ?_ rfl ?_
  · obtain ⟨F, hF, f0, f1, f2, f3, f4⟩ := way_cells (a := .int .u64 (x.need : Int)) (b := .int .u64 (x.ban : Int)) (c := .slice A1 x.now.length c1) (d := .slice A2 x.next.length c2) (e := .slice A (ps.length + x.todo.length) cap) Q1' rfl
    rw [← hF]
    clear hF
    simp [results, Tryd.results78, go_sem, f0, f1, f2, f3, f4]
  · have hbV : Below w.heap.size w (w3.setCell ⟨w.heap.size, 4, none⟩ (.slice A (ps.length + x.todo.length) cap)) := HB.out.setCell (p := ⟨w.heap.size, 4, none⟩) (Nat.le_refl _) _
    refine way_end (x := x.with_ ps) Q1' rfl hbV (by omega) ⟨HR.out.now.below hbV, HR.out.next.below hbV, ?_⟩ rfl rfl (by simp [Way.with_]) rfl rfl
    have hk := HT.out.keep ((Tch.refl (fun k => k = w.heap.size) w3).setCell (p := ⟨w.heap.size, 4, none⟩) (fun _ => rfl) (.slice A (ps.length + x.todo.length) cap)) (spares_one Q0.out (by decide))
    simpa [Way.with_, natI_append, icells_append] using hk
end Go.Proofs.YtamhjgkigjpbhaaDoor

/- The walk of layer 23: takes. -/
namespace Go.Proofs.YtamhjgkigjpbhaaDoor
open Go.RowKit

set_option maxHeartbeats 400000 in
theorem takes_any (a : Int) (w : World) :
    Calls Tryd.prog 89 #[.int .i64 a] w fun e w' => e = .returned (.int .i64 (takes a)) ∧ w = w' := by
  go_enter Tryd.func89, Tryd.ntmps89
  go_wp2
  all_goals (go_ret; exact ⟨by simp_all [takes], rfl⟩)
end Go.Proofs.YtamhjgkigjpbhaaDoor

/- The walk of layer 23: the closure of spans. -/
namespace Go.Proofs.YtamhjgkigjpbhaaDoor
open Go.RowKit

/-- What the closure of spans leaves. -/
def SpanPost (w : World) (base Bx : Nat) (vo : Value) (b : Int) (outs : List Int) (en : Ending) (w' : World) : Prop :=
  ∃ vo', en = .returned (.int .i64 b) ∧ w'.heap[Bx]? = some (.cells #[vo'] 25 (0, 0)) ∧ w'.ownsRow base 3 1 vo' (outs.length + 1) (icells (outs ++ [b])) ∧
    Tch (fun k => k = Bx ∨ vo.ownBlock = some k) w w' ∧ (vo'.ownBlock = vo.ownBlock ∨ ∃ g, w.heap.size ≤ g ∧ vo'.ownBlock = some g)

set_option maxHeartbeats 1000000 in
theorem span1_any (at_ : Int) (A : Option Addr) (m c : Nat) (parts : List Int) (hm : m = parts.length) (Bx : Nat) (vo : Value) (outs : List Int) (w : World) (B base : Nat) (hp : Sl w B 1 A m c (icells parts))
    (hbox : w.heap[Bx]? = some (.cells #[vo] 25 (0, 0))) (hown : w.ownsRow base 3 1 vo outs.length (icells outs)) (hbase : base ≤ w.heap.size) (hn : outs.length ≤ 1000000000) :
    Calls Tryd.prog 73 #[.int .i64 at_, .slice A m c, .pointer (some ⟨Bx, 0, none⟩)] w (SpanPost w base Bx vo (frm at_ parts) outs) := by
  subst hm
  have hlt := lt_of_block hbox
  have hne := own_ne_blk hown hbox (by decide)
  have key : ∀ (x : Int) (v1 : Value) (w1 : World), w1.ownsRow base 3 1 v1 (outs.length + 1) (icells outs ++ [.int .i64 x]) → Tch (fun k => vo.ownBlock = some k) (w.alloc (.cells #[.int .i64 x] 3)) w1 →
      (v1.ownBlock = vo.ownBlock ∨ v1.ownBlock = some (w.alloc (.cells #[.int .i64 x] 3)).heap.size) →
      w1.heap[Bx]? = some (.cells #[vo] 25 (0, 0)) ∧ SpanPost w base Bx vo x outs (.returned (.int .i64 x)) (w1.setCell ⟨Bx, 0, none⟩ v1) := by
    intro x v1 w1 hown1 ht1 hat1
    have hb1 : w1.heap[Bx]? = some (.cells #[vo] 25 (0, 0)) := ht1.blk ((Below.heap_alloc _ _ _ hlt).trans hbox) hne
    refine ⟨hb1, v1, rfl, one_setCell hb1, ?_, ?_, ?_⟩
    · rw [icells_append]
      exact ownsRow_setCell_other (a := ⟨Bx, 0, none⟩) hown1 (own_ne_blk hown1 hb1 (by decide)) v1
    · refine Tch.setCell (p := ⟨Bx, 0, none⟩) ?_ (fun _ => .inl rfl) v1
      exact Tch.trans ((Tch.refl (fun k => k = Bx ∨ vo.ownBlock = some k) w).alloc _) ht1 (fun i _ h => .inr h)
    · rcases hat1 with h | h
      · exact .inl h
      · exact .inr ⟨_, by simp, h⟩
  have hc0 := cell_of_one hbox
  by_cases h0 : parts = []
  · subst h0
    have hd : decide ((0 : Int) < (([] : List Int).length : Int)) = false := rfl
    go_enter Tryd.func73, Tryd.ntmps73
    go_wp2_with (at_builtin; refine wpList_push rfl (.tmp 14) (.tmp 16) 25 rfl base 3 1 8 sliceInt vo outs.length (icells outs) (hown.alloc _) rfl w.heap.size #[.int .i64 at_] rfl (heap_alloc_new w _) rfl (by simp [Value.oneCell']) (by omega) (by omega) (by simp; omega) ?_; intro v1 w1 hown1 ht1 hat1 _; obtain ⟨hb1, hpost⟩ := key _ v1 w1 hown1 ht1 hat1; have hf1 := free_of_one hb1; have hc1 := cell_of_one hb1; obtain ⟨g1, cap1, rfl, _⟩ := own_form hown1 (by omega))
    go_ret
    exact hpost
  · obtain ⟨p0, ps, rfl⟩ := List.exists_cons_of_ne_nil h0
    obtain ⟨b, off, rfl, _, hcell⟩ := rd_int hp.rd (k := 0) (by simp)
    simp only [List.getElem_cons_zero, Nat.add_zero] at hcell
    have hd : (0 : Int) < ((p0 :: ps).length : Int) := by simp
    have hd0 : 0 < (p0 :: ps).length := by simp
    generalize hlen : (p0 :: ps).length = n at *
    have Hlen := Lib.hid hlen
    clear hlen
    go_enter Tryd.func73, Tryd.ntmps73
    go_wp2_with (at_builtin; refine wpList_push rfl (.tmp 14) (.tmp 16) 25 rfl base 3 1 8 sliceInt vo outs.length (icells outs) (hown.alloc _) rfl w.heap.size #[.int .i64 p0] rfl (heap_alloc_new w _) rfl (by simp [Value.oneCell']) (by omega) (by omega) (by simp; omega) ?_; intro v1 w1 hown1 ht1 hat1 _; obtain ⟨hb1, hpost⟩ := key _ v1 w1 hown1 ht1 hat1; have hf1 := free_of_one hb1; have hc1 := cell_of_one hb1; obtain ⟨g1, cap1, rfl, _⟩ := own_form hown1 (by omega))
    go_ret
    exact hpost
end Go.Proofs.YtamhjgkigjpbhaaDoor
