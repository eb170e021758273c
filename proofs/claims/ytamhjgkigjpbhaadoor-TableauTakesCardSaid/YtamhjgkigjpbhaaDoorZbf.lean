/- Texts that stand one behind the other, in one file. -/
import Derived.Test.YtamhjgkigjpbhaaDoorGrM
import Derived.Test.YtamhjgkigjpbhaaDoorZaj
import Derived.Test.YtamhjgkigjpbhaaDoorZbd
import Derived.Test.YtamhjgkigjpbhaaDoorZad

/- Memory of layer 6: the reference's Turn (its rows of edges lie in a slot, the struct's field is nil until the end). -/
namespace Go.Proofs.YtamhjgkigjpbhaaDoor
open Go.RowKit

/-- The struct under way: its rows of edges are R. -/
def TRelR (w0 : World) (g r ni nl ne : Nat) (AA : Option Addr) (cA : Nat) (AB : Option Addr) (cB : Nat) (xi xl : List Value) (R : List (List Nd)) (wr : World) : Prop :=
  ∃ vs, wr.heap[g]? = some (.cells #[.slice AA ni cA, .slice none 0 0, .slice AB nl cB] 72 (0, 0)) ∧ Own2 wr w0.heap.size 70 68 2 (.slice (some ⟨r, 0, none⟩) ne ne) (R.map ncells) vs ∧
    wr.ownsRow w0.heap.size 3 1 (.slice AA ni cA) ni xi ∧ wr.ownsRow w0.heap.size 41 1 (.slice AB nl cB) nl xl ∧ Below w0.heap.size w0 wr
theorem TRelR.below {w0 w w' : World} {g r ni nl ne : Nat} {AA : Option Addr} {cA : Nat} {AB : Option Addr} {cB : Nat} {xi xl : List Value} {R : List (List Nd)} (h : TRelR w0 g r ni nl ne AA cA AB cB xi xl R w) (hb : Below w.heap.size w w') : TRelR w0 g r ni nl ne AA cA AB cB xi xl R w' := by
  obtain ⟨vs, h1, h2, h3, h4, h5⟩ := h
  exact ⟨vs, (hb.block g (lt_of_block h1)).trans h1, h2.below hb, own_below h3 hb, own_below h4 hb, h5.trans (hb.mono h5.size)⟩
/-- An edge more behind row t. -/
theorem TRelR.put {w0 w w1 w2 : World} {g r ni nl ne : Nat} {AA : Option Addr} {cA : Nat} {AB : Option Addr} {cB : Nat} {xi xl : List Value} {R : List (List Nd)} {t n' : Nat} {u u' : Value} {vs : List Value} {ys : List Nd} {o : Obj}
    (h1 : w.heap[g]? = some (.cells #[.slice AA ni cA, .slice none 0 0, .slice AB nl cB] 72 (0, 0))) (h2 : Own2 w w0.heap.size 70 68 2 (.slice (some ⟨r, 0, none⟩) ne ne) (R.map ncells) vs)
    (h3 : w.ownsRow w0.heap.size 3 1 (.slice AA ni cA) ni xi) (h4 : w.ownsRow w0.heap.size 41 1 (.slice AB nl cB) nl xl) (h5 : Below w0.heap.size w0 w) (hw : w1 = w.alloc o) (hu : vs[t]? = some u) (huo : ∃ n ys, w.ownsRow w0.heap.size 70 2 u n ys)
    (hown : w2.ownsRow w0.heap.size 70 2 u' n' (ncells ys)) (ht : Tch (fun k => u.ownBlock = some k) w1 w2) (hat : u'.ownBlock = u.ownBlock ∨ u'.ownBlock = some w1.heap.size) :
    TRelR w0 g r ni nl ne AA cA AB cB xi xl (R.set t ys) (w2.setCell ⟨r, t, none⟩ u') := by
  obtain ⟨n0, ys0, ho⟩ := huo
  subst hw
  have ht' : Tch (fun k => u.ownBlock = some k) w w2 := Tch.trans ((Tch.refl _ w).alloc _) ht (fun _ _ h => h)
  obtain ⟨p1, p2⟩ := h2.put (te := 70) (tr := 68) (by decide) hu h5.size hown ht' (fun g' hg' => by
    rcases hat with h | h
    · exact .inl (h ▸ hg')
    · rw [h] at hg'; cases hg'; exact .inr (by simp))
  have hug : u.ownBlock ≠ some g := own_ne_blk ho h1 (by decide)
  have hgr : g ≠ r := fun e => own_ne_blk h2.main h1 (by decide) (by rw [e]; rfl)
  refine ⟨vs.set t u', ?_, ?_, ?_, ?_, ?_⟩
  · exact p2.blk h1 (fun h => h.elim (fun h => hgr h) (fun h => hug h))
  · rw [List.map_set]; exact p1
  · exact own_tch h3 p2 (fun k hk hS => hS.elim (fun e => own_ne h3 h2.main (by decide) k hk (by rw [e]; rfl)) (fun e => own_ne h3 ho (by decide) k hk e))
  · exact own_tch h4 p2 (fun k hk hS => hS.elim (fun e => own_ne h4 h2.main (by decide) k hk (by rw [e]; rfl)) (fun e => own_ne h4 ho (by decide) k hk e))
  · refine h5.trans (p2.below h5.size (fun k hk hS => ?_))
    rcases hS with e | e
    · have := (h2.main.lt r rfl).1; omega
    · have := (ho.lt k e).1; omega
/-- Behind the append, ahead of the store. -/
theorem TRelR.grow {w0 w w1 w2 : World} {g r ni nl ne : Nat} {AA : Option Addr} {cA : Nat} {AB : Option Addr} {cB : Nat} {xi xl : List Value} {R : List (List Nd)} {t n n' : Nat} {u u' : Value} {vs ys0 : List Value} {ys : List Nd} {o : Obj}
    (h1 : w.heap[g]? = some (.cells #[.slice AA ni cA, .slice none 0 0, .slice AB nl cB] 72 (0, 0))) (h2 : Own2 w w0.heap.size 70 68 2 (.slice (some ⟨r, 0, none⟩) ne ne) (R.map ncells) vs)
    (h3 : w.ownsRow w0.heap.size 3 1 (.slice AA ni cA) ni xi) (h4 : w.ownsRow w0.heap.size 41 1 (.slice AB nl cB) nl xl) (h5 : Below w0.heap.size w0 w) (hw : w1 = w.alloc o) (hu : vs[t]? = some u) (huo : w.ownsRow w0.heap.size 70 2 u n ys0)
    (hown : w2.ownsRow w0.heap.size 70 2 u' n' (ncells ys)) (ht : Tch (fun k => u.ownBlock = some k) w1 w2) (hat : u'.ownBlock = u.ownBlock ∨ u'.ownBlock = some w1.heap.size) :
    w2.cell? ⟨g, 1, none⟩ = some (.slice none 0 0) ∧ w2.cell? ⟨r, t, none⟩ = some u ∧ w2.frozen? ⟨r, t, none⟩ = false ∧ (∀ b, b < w.heap.size → (∀ g, u.ownBlock = some g → g ≠ b) → ∀ o, w2.cell? ⟨b, o, none⟩ = w.cell? ⟨b, o, none⟩) ∧
      TRelR w0 g r ni nl ne AA cA AB cB xi xl (R.set t ys) (w2.setCell ⟨r, t, none⟩ u') := by
  have hp := TRelR.put h1 h2 h3 h4 h5 hw hu ⟨n, ys0, huo⟩ hown ht hat
  subst hw
  have ht' : Tch (fun k => u.ownBlock = some k) w w2 := Tch.trans ((Tch.refl _ w).alloc _) ht (fun _ _ h => h)
  have hug : u.ownBlock ≠ some g := own_ne_blk huo h1 (by decide)
  have hm := own_tch h2.main ht' (fun k hk hk' => own_ne huo h2.main (by decide) k hk' hk)
  have hl := h2.len'
  have htl : t < vs.length := (List.getElem?_eq_some_iff.1 hu).1
  rw [h2.len] at htl
  rw [← hl] at hm
  refine ⟨(blk3 (ht'.blk h1 hug)).1.2.1, ?_, hm.frozenAt t, fun b hb hne o => ?_, hp⟩
  · rw [hm.cellAt t (by omega)]; exact hu
  · exact World.cell?_of_block (a := ⟨b, o, none⟩) (ht'.block b hb (fun h => hne b h rfl))
theorem TRelR.start {w0 wF : World} {g ni nl ne : Nat} {AA : Option Addr} {cA : Nat} {AB : Option Addr} {cB : Nat} {xi xl : List Value} (h1 : wF.heap[g]? = some (.cells #[.slice AA ni cA, .slice none 0 0, .slice AB nl cB] 72 (0, 0)))
    (h3 : wF.ownsRow w0.heap.size 3 1 (.slice AA ni cA) ni xi) (h4 : wF.ownsRow w0.heap.size 41 1 (.slice AB nl cB) nl xl) (h5 : Below w0.heap.size w0 wF) (hne : ne ≤ 1000000000) :
    TRelR w0 g wF.heap.size ni nl ne AA cA AB cB xi xl (List.replicate ne []) (wF.alloc (.cells (madeCells #[.slice none 0 0] ne) 68)) := by
  have hb : Below wF.heap.size wF (wF.alloc (.cells (madeCells #[.slice none 0 0] ne) 68)) := (Below.refl _ wF).alloc (Nat.le_refl _) _
  refine ⟨List.replicate ne (.slice none 0 0), (hb.block g (lt_of_block h1)).trans h1, ?_, own_below h3 hb, own_below h4 hb, h5.trans (hb.mono h5.size)⟩
  rw [List.map_replicate, show ncells [] = [] from rfl]
  have hm : (madeCells #[Value.slice none 0 0] ne).toList = List.replicate ne (.slice none 0 0) := toList_madeCells_one _ _
  have hs : (madeCells #[Value.slice none 0 0] ne).size = ne := by have := congrArg List.length hm; simpa using this
  refine Own2.fresh ⟨by simp, .inr ⟨wF.heap.size, ne, _, rfl, h5.size, heap_alloc_new wF _, Nat.le_refl _, by unfold maxLen; omega, by rw [hs, Nat.mul_one], ?_⟩⟩
  rw [List.take_of_length_le (by rw [Array.length_toList, hs]; omega)]
  exact hm
/-- The rows are stored into the struct's field: it stands as a graph under way. -/
theorem TRelR.close {w0 w : World} {g r ni nl ne : Nat} {AA : Option Addr} {cA : Nat} {AB : Option Addr} {cB : Nat} {xi xl : List Value} {R : List (List Nd)} (h : TRelR w0 g r ni nl ne AA cA AB cB xi xl R w) (hg : w0.heap.size ≤ g) :
    TRel w0 g r ni nl ne AA cA AB cB xi xl R (w.setCell ⟨g, 1, none⟩ (.slice (some ⟨r, 0, none⟩) ne ne)) := by
  obtain ⟨vs, h1, h2, h3, h4, h5⟩ := h
  have ht : Tch (fun k => k = g) w (w.setCell ⟨g, 1, none⟩ (.slice (some ⟨r, 0, none⟩) ne ne)) := Tch.setCell (S := fun k => k = g) (p := ⟨g, 1, none⟩) (Tch.refl _ w) (fun _ => rfl) _
  refine ⟨vs, ?_, h2.tch ht (fun k hk e => ?_) (fun j u k hu hk e => ?_), own_tch h3 ht (fun k hk e => ?_), own_tch h4 ht (fun k hk e => ?_), h5.trans (ht.below h5.size (fun k hk e => by omega))⟩
  · rw [heap_setCell_same w g 1 _ _ (.slice (some ⟨r, 0, none⟩) ne ne) h1]; rfl
  · exact own_ne_blk h2.main h1 (by decide) (e ▸ hk)
  · have hj : j < (R.map ncells).length := by rw [← h2.len]; exact (List.getElem?_eq_some_iff.1 hu).1
    obtain ⟨u', n, hu', ho⟩ := h2.row j _ (List.getElem?_eq_getElem hj)
    rw [hu] at hu'; cases hu'
    exact own_ne_blk ho h1 (by decide) (e ▸ hk)
  · exact own_ne_blk h3 h1 (by decide) (e ▸ hk)
  · exact own_ne_blk h4 h1 (by decide) (e ▸ hk)
end Go.Proofs.YtamhjgkigjpbhaaDoor

/- Words for marks and open nodes in memory. -/
namespace Go.Proofs.YtamhjgkigjpbhaaDoor
open Go.RowKit

theorem infoInt : (Tryd.prog.info? 3).map (fun i => (i.zero, i.size, i.bytes)) = some (some (.int .i64 0), 1, 8) := by kernel_rfl
theorem own_made {w : World} {base e n : Nat} {v : Value} (hb : base ≤ w.heap.size) (hn : n ≤ maxLen) : (w.alloc (.cells (madeCells #[v] n) e)).ownsRow base e 1 (.slice (some ⟨w.heap.size, 0, none⟩) n n) n (List.replicate n v) := by
  have hm : (madeCells #[v] n).toList = List.replicate n v := toList_madeCells_one _ _
  have hs : (madeCells #[v] n).size = n := by have := congrArg List.length hm; simpa using this
  refine ⟨by simp, .inr ⟨w.heap.size, n, _, rfl, hb, heap_alloc_new w _, Nat.le_refl _, hn, by rw [hs, Nat.mul_one], ?_⟩⟩
  rw [List.take_of_length_le (by rw [Array.length_toList, hs]; omega)]
  exact hm

/-- Marks in a row of their own, and the open nodes. -/
def VRel (w0 : World) (q ne : Nat) (v : Value) (s : List Bool × List Int) (wr : World) : Prop :=
  wr.ownsRow w0.heap.size 4 1 (.slice (some ⟨q, 0, none⟩) ne ne) ne (s.1.map .bool) ∧ wr.ownsRow w0.heap.size 3 1 v s.2.length (icells s.2) ∧ Below w0.heap.size w0 wr
section
variable {w0 w w' w1 w2 : World} {q ne : Nat} {v : Value} {s : List Bool × List Int}
theorem VRel.below (h : VRel w0 q ne v s w) (hb : Below w.heap.size w w') : VRel w0 q ne v s w' :=
  ⟨own_below h.1 hb, own_below h.2.1 hb, h.2.2.trans (hb.mono h.2.2.size)⟩
theorem VRel.start (hne : ne ≤ maxLen) : VRel w0 w0.heap.size ne (.slice none 0 0) (List.replicate ne false, []) (w0.alloc (.cells (madeCells #[.bool false] ne) 4)) :=
  ⟨by rw [List.map_replicate]; exact own_made (Nat.le_refl _) hne, World.ownsRow_nil _ _ _ _, (Below.refl _ _).alloc (Nat.le_refl _) _⟩
theorem own_marks {l : List Bool} {t : Nat} (h : w.ownsRow w0.heap.size 4 1 (.slice (some ⟨q, 0, none⟩) ne ne) ne (l.map .bool)) (ht : t < ne) : w.cell? ⟨q, t, none⟩ = some (.bool (l.getD t false)) ∧ w.frozen? ⟨q, t, none⟩ = false ∧ q < w.heap.size ∧ w0.heap.size ≤ q := by
  have hl : l.length = ne := by have := h.1; simpa using this
  refine ⟨?_, h.frozenAt t, (h.lt q rfl).2, (h.lt q rfl).1⟩
  rw [h.cellAt t (by omega)]
  exact bcells'_at (by omega)
theorem own_mark {l : List Bool} {t : Nat} (h : w.ownsRow w0.heap.size 4 1 (.slice (some ⟨q, 0, none⟩) ne ne) ne (l.map .bool)) :
    (w.setCell ⟨q, t, none⟩ (.bool true)).ownsRow w0.heap.size 4 1 (.slice (some ⟨q, 0, none⟩) ne ne) ne ((l.set t true).map .bool) := by
  have := h.stored t (.bool true)
  rw [List.map_set]; exact this.1
/-- A node is marked. -/
theorem VRel.mark {t : Nat} (h : VRel w0 q ne v s w) : (w.setCell ⟨q, t, none⟩ (.bool true)).ownsRow w0.heap.size 4 1 (.slice (some ⟨q, 0, none⟩) ne ne) ne ((s.1.set t true).map .bool) ∧
    (w.setCell ⟨q, t, none⟩ (.bool true)).ownsRow w0.heap.size 3 1 v s.2.length (icells s.2) ∧ Below w0.heap.size w0 (w.setCell ⟨q, t, none⟩ (.bool true)) := by
  have ht : Tch (fun k => k = q) w (w.setCell ⟨q, t, none⟩ (.bool true)) := Tch.setCell (S := fun k => k = q) (p := ⟨q, t, none⟩) (Tch.refl _ w) (fun _ => rfl) _
  exact ⟨own_mark h.1, own_tch h.2.1 ht (fun k hk e => own_ne h.2.1 h.1 (by decide) k hk (by rw [e]; rfl)), h.2.2.setCell (p := ⟨q, t, none⟩) (h.1.lt q rfl).1 _⟩
/-- A marked node is opened. -/
theorem VRel.open {t : Nat} {v' : Value} {o : Obj} (hm : w.ownsRow w0.heap.size 4 1 (.slice (some ⟨q, 0, none⟩) ne ne) ne ((s.1.set t true).map .bool)) (ho : w.ownsRow w0.heap.size 3 1 v s.2.length (icells s.2)) (hb : Below w0.heap.size w0 w)
    (hw : w1 = w.alloc o) (hown : w2.ownsRow w0.heap.size 3 1 v' (s.2.length + 1) (icells s.2 ++ [.int .i64 t])) (ht : Tch (fun k => v.ownBlock = some k) w1 w2) :
    VRel w0 q ne v' (s.1.set t true, s.2 ++ [(t : Int)]) w2 := by
  subst hw
  have ht' : Tch (fun k => v.ownBlock = some k) w w2 := Tch.trans ((Tch.refl _ w).alloc _) ht (fun _ _ h => h)
  refine ⟨own_tchE hm ho ht' (by decide), ?_, below_tchE hb ho ht' (Nat.le_refl _)⟩
  rw [icells_append, List.length_append]
  exact hown
theorem vis_out {n : Nat} {x : Int} (h : isNd n x = false) : vis n s x = s := by rw [vis, if_neg (by rw [h]; simp)]
theorem vis_old {n t : Nat} (h : s.1.getD t false = true) (hl : t < s.1.length) : vis n s (t : Int) = s := by
  rw [vis, if_neg]
  simp only [List.getD, Int.toNat_natCast, List.getElem?_eq_getElem hl, Option.getD_some] at h ⊢
  simp [h]
theorem vis_new {n t : Nat} (hn : isNd n (t : Int) = true) (h : s.1.getD t false = false) (hl : t < s.1.length) : vis n s (t : Int) = (s.1.set t true, s.2 ++ [(t : Int)]) := by
  rw [vis, if_pos]
  · simp
  · refine ⟨hn, ?_⟩
    simp only [List.getD, Int.toNat_natCast, List.getElem?_eq_getElem hl, Option.getD_some] at h ⊢
    exact h
end
theorem vF_snoc {n : Nat} {l : List Int} {k : Nat} (hk : k < l.length) (s : List Bool × List Int) : (l.take (k + 1)).foldl (vis n) s = vis n ((l.take k).foldl (vis n) s) l[k] := by
  rw [take_snoc l k hk, List.foldl_append]; rfl
theorem tgts_at {l : List Nd} {k : Nat} (hk : k < l.length) : (tgts l)[k]'(by rw [tgts, List.length_map]; exact hk) = l[k].op := by simp [tgts]
theorem tF_snoc {n : Nat} {l : List Nd} {k : Nat} (hk : k < l.length) (s : List Bool × List Int) : ((tgts l).take (k + 1)).foldl (vis n) s = vis n (((tgts l).take k).foldl (vis n) s) l[k].op := by
  rw [vF_snoc (by rw [tgts, List.length_map]; exact hk), tgts_at]
theorem fold_len_le {n : Nat} (l : List Int) (s : List Bool × List Int) : s.2.length ≤ (l.foldl (vis n) s).2.length := by
  obtain ⟨r, hr⟩ := fold_grow (n := n) l s
  rw [hr, List.length_append]; omega
end Go.Proofs.YtamhjgkigjpbhaaDoor
