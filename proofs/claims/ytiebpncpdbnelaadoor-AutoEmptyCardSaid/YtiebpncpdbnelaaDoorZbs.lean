/- Texts that stand one behind the other, in one file. -/
import Derived.Test.YtiebpncpdbnelaaDoorAu15
namespace Go.Proofs.YtiebpncpdbnelaaDoor
def partG (n : Nat) (l : List Nat) : List Bool := l.foldl (fun r y => r.set y true) (List.replicate n false)
theorem partG_len (n : Nat) (l : List Nat) : (partG n l).length = n := by
 unfold partG
 have h : ∀ (l : List Nat) (g : List Bool), (l.foldl (fun r y => r.set y true) g).length = g.length := by
  intro l
  induction l with
  | nil => intro g; rfl
  | cons x l ih => intro g; rw [List.foldl_cons, ih, List.length_set]
 rw [h, List.length_replicate]
theorem partG_at {n : Nat} {l : List Nat} (hl : ∀ x ∈ l, x < n) {x : Nat} (_hx : x < n) : (partG n l).getD x false = true ↔ x ∈ l := by
 have h := putAll_at (d := false) (v := true) (l := l) (r := List.replicate n false) (by rw [List.length_replicate]; exact hl) x
 have h : (partG n l).getD x false = if x ∈ l then true else (List.replicate n false).getD x false := h
 rw [h]
 split
 ·next e => exact ⟨fun _ => e, fun _ => rfl⟩
 ·next e => exact ⟨fun h' => (by rw [rep_getD] at h'; cases h'), fun h' => absurd h' e⟩
section
variable {E : List (List Nd)} {ins : List Nat} {s : Nat}
theorem good_facts {l : List Nat} (h : l ∈ goodL E ins s) : (∃ m, m < E.length ∧ ∀ x, x ∈ l ↔ x < E.length ∧ Mut E m x) ∧ l.Nodup ∧ (∀ x ∈ l, ∃ y ∈ l, Arc E x y) ∧ ∀ j ∈ bitsL (allB s), ∃ k ∈ l, (ins.getD k 0).testBit j = true := by
 obtain ⟨h1, h2⟩ := List.mem_filter.1 h
 obtain ⟨m, hm, hml, hl⟩ := parts_of (ofC_ok E) h1
 refine ⟨⟨m, hm, hl⟩, ?_, fun x hx => ?_, fun j hj => ?_⟩
 ·unfold scParts at h1
  obtain ⟨k, -, rfl⟩ := List.mem_map.1 h1
  exact List.Pairwise.filter _ List.nodup_range
 ·have hc := (good_core (ofC_ok E) h1 hx).1 h2
  obtain ⟨⟨j, ha, hj⟩, -⟩ := hc
  have hx' := (hl x).1 hx
  refine ⟨j, (hl j).2 ⟨ha.2.1, ?_⟩, ha⟩
  exact hx'.2.trans ⟨.step ha (.refl _), hj⟩
 ·have hj' : j < s := by
   have := (List.mem_filter.1 hj).2
   rw [allB_bit] at this
   exact of_decide_eq_true this
  unfold goodP at h2
  rw [Bool.and_eq_true, decide_eq_true_eq, and_all] at h2
  exact (orL_bit l).1 (h2.1 j hj')
theorem part_way {l : List Nat} {I : List Int} (hl : ∀ x ∈ l, x < E.length) (h : (pathE E (partG E.length l) I).2 = true) : ∃ (x v : Nat) (p : List Nat), pathE E (partG E.length l) I = (natI (p ++ [v]), true) ∧ NWay (Arc E) x p v ∧ (x : Int) ∈ I ∧ v ∈ l ∧ p.length < E.length := by
 obtain ⟨a, b, p, h1, h2, h3, -, h5, h6, h7⟩ := path_way h
 exact ⟨a, b, p, h1, h2, h3, (partG_at hl h5).1 h6, h7⟩
end
theorem wit_none {a : Aut} (hA : a.Ok) {s : Nat} (hs : a.sets.toNat = s) (h : ∀ l ∈ goodL (openE a) (insA a) s, (pathE (openE a) (partG (openE a).length l) (openI a)).2 = false) : (trimA a).init = [] := by
 apply Classical.byContradiction
 intro hne
 obtain ⟨q, hq, hr⟩ := (trim_first hA).1 hne
 rw [hs] at hr
 obtain ⟨v, hl, hc⟩ := runs_iff.1 hr
 have hqn : q < (openE a).length := by
  have h1 := hA.1 q (List.mem_filter.1 hq).1
  rw [openE_len]
  have := isNd_iff.1 h1
  omega
 have hv := lead_lt hl hqn
 obtain ⟨h1, h2⟩ := parts_has (ofC_ok (openE a)) hv
 have hgood : scPart (ofC (openE a)) ((ofC (openE a)).getD v 0) ∈ goodL (openE a) (insA a) s := List.mem_filter.2 ⟨h1, (good_core (ofC_ok _) h1 h2).2 hc⟩
 have hf := h _ hgood
 rw [path_iff.2 ⟨q, v, hq, hqn, hv, (partG_at (part_lt h1) hv).2 h2, hl⟩] at hf
 cases hf
theorem wit_some {a : Aut} (hA : a.Ok) {s : Nat} (hs : a.sets.toNat = s) {l : List Nat} (hl : l ∈ goodL (openE a) (insA a) s) (h : (pathE (openE a) (partG (openE a).length l) (openI a)).2 = true) : (trimA a).init ≠ [] := by
 obtain ⟨h1, h2⟩ := List.mem_filter.1 hl
 obtain ⟨x, v, p, -, hw, hx, hv, -⟩ := part_way (part_lt h1) h
 refine (trim_first hA).2 ⟨x, hx, ?_⟩
 rw [hs]
 exact runs_iff.2 ⟨v, hw.lead, (good_core (ofC_ok _) h1 hv).1 h2⟩
theorem wit_word {a : Aut} (hA : a.Ok) {s : Nat} (hs : a.sets.toNat = s) (hs16 : s ≤ 16) {l : List Nat} {x v : Nat} {S L : List Nat} (hS : NWay (Arc (openE a)) x S v) (hx : (x : Int) ∈ openI a)
  (hL : NWay (Arc (innerE (openE a) l)) v L v) (hne : L ≠ []) (hm : ∀ j ∈ bitsL (allB s), ∃ u ∈ L, ((insA a).getD u 0).testBit j = true) : Acc a ((S ++ L).map (fun q => (a.at q).need)) S.length := by
 refine lasso_acc hA hS (hL.mono (fun _ _ r => (arc_inner.1 r).1)) hne (List.mem_filter.1 hx).1 (fun i hi => ?_)
 obtain ⟨u, hu, hb⟩ := hm i (List.mem_filter.2 ⟨List.mem_range.2 (by omega), by rw [allB_bit]; exact decide_eq_true (by omega)⟩)
 exact ⟨u, hu, by rw [← insA_at]; exact hb⟩
theorem needs_at {a : Aut} {q : Nat} (hq : q < a.nodes.length) : (needsA a)[q]? = some (a.at q).need := by
 unfold needsA Aut.at
 rw [List.getElem?_map, gD, gE hq]; rfl
theorem arc_ends {E : List (List Nd)} {x y : Nat} {p : List Nat} (h : NWay (Arc E) x p y) : ∀ q ∈ p, q < E.length := fun q hq => by obtain ⟨z, hz⟩ := h.src q hq; exact hz.1
end Go.Proofs.YtiebpncpdbnelaaDoor
namespace Go.Proofs.YtiebpncpdbnelaaDoor
open Go.RowKit Go.Shelf
theorem three_new (w : World) (x y z : Obj) : Below w.1.size w (((w.alloc x).alloc y).alloc z) ∧ (((w.alloc x).alloc y).alloc z).1[w.1.size]? = some x ∧ (((w.alloc x).alloc y).alloc z).1[w.1.size + 1]? = some y ∧ (((w.alloc x).alloc y).alloc z).1[w.1.size + 1 + 1]? = some z ∧ (((w.alloc x).alloc y).alloc z).1.size = w.1.size + 3 := by
 refine ⟨((bR.alloc lR _).alloc (by simp) _).alloc (by simp; omega) _, ?_, ?_, ?_, by simp⟩
 ·rw [Below.heap_alloc _ _ _ (by simp; omega), Below.heap_alloc _ _ _ (by simp)]; exact heap_alloc_new w x
 ·rw [Below.heap_alloc _ _ _ (by simp)]
  have := heap_alloc_new (w.alloc x) y
  rwa [show (w.alloc x).1.size = w.1.size + 1 by simp] at this
 ·have := heap_alloc_new ((w.alloc x).alloc y) z
  rwa [show ((w.alloc x).alloc y).1.size = w.1.size + 2 by simp] at this
structure PlayOw (w : World) (base : Nat) (ai : Option Addr) (ni ci : Nat) (ae : Option Addr) (ne ce : Nat) (al : Option Addr) (nl cl : Nat) (ac : Option Addr) (nc cc : Nat) (I : List Int) (E : List (List Nd)) (L ins : List Nat) (vs : List Value) : Prop where
 i : w.ownsRow base 3 1 (.slice ai ni ci) ni (icells I)
 e : Own2 w base 65 63 2 (.slice ae ne ce) (E.map ncells) vs
 l : w.ownsRow base 41 1 (.slice al nl cl) nl (ucellsN L)
 n : w.ownsRow base 41 1 (.slice ac nc cc) nc (ucellsN ins)
section
variable {w w' : World} {base ni ci ne ce nl cl nc cc : Nat} {ai ae al ac : Option Addr} {I : List Int} {E : List (List Nd)} {L ins : List Nat} {vs : List Value} {M : Nat → Prop}
theorem PlayOw.tch (h : PlayOw w base ai ni ci ae ne ce al nl cl ac nc cc I E L ins vs) (ht : Tch M w w') (hM : ∀ k, M k → k < base) : PlayOw w' base ai ni ci ae ne ce al nl cl ac nc cc I E L ins vs :=
 ⟨own_tch h.i ht (fun g hg e => by have := (h.i.lt g hg).1; have := hM g e; omega), h.e.tch ht (fun g hg e => by have := (h.e.main.lt g hg).1; have := hM g e; omega) (fun j u g hu hg e => by have := (h.e.rowlt hu g hg).1; have := hM g e; omega),
  own_tch h.l ht (fun g hg e => by have := (h.l.lt g hg).1; have := hM g e; omega), own_tch h.n ht (fun g hg e => by have := (h.n.lt g hg).1; have := hM g e; omega)⟩
theorem PlayOw.rd (h : PlayOw w base ai ni ci ae ne ce al nl cl ac nc cc I E L ins vs) : PlayRd w w.1.size ai ni ci ae ne ce al nl cl ac nc cc I E L ins := by
 obtain ⟨A1, c1, e1, hi⟩ := own_sl h.i
 cases e1
 obtain ⟨A2, c2, e2, he⟩ := h.e.sl2
 cases e2
 obtain ⟨A3, c3, e3, hl⟩ := own_sl h.l
 cases e3
 obtain ⟨A4, c4, e4, hc⟩ := own_sl h.n
 cases e4
 refine ⟨⟨hi, he, ?_⟩, hc⟩
 have : (L.map (fun (x : Nat) => (x : Int))).map (Value.int .u64) = ucellsN L := by simp [ucellsN]
 rw [this]
 exact hl
end
theorem PlayPost.owned {I : List Int} {E : List (List Nd)} {L ins : List Nat} {all : Nat} {w w' : World} {e : Ending} (h : PlayPost I E L ins all w e w') :
  ∃ ai ni ci ae ne ce al nl cl ac nc cc vs, e = .returned (.agg #[.slice ai ni ci, .slice ae ne ce, .slice al nl cl, .slice ac nc cc, .int .u64 (all : Int)]) ∧ PlayOw w' w.1.size ai ni ci ae ne ce al nl cl ac nc cc I E L ins vs ∧ Below w.1.size w w' := by
 obtain ⟨vi, ve, vs, vl, vn, rfl, h1, h2, h3, h4, h5⟩ := h
 obtain ⟨ai, ci, rfl, -⟩ := own_sl h1
 obtain ⟨ae, ce, rfl, -⟩ := h2.sl2
 obtain ⟨al, cl, rfl, -⟩ := own_sl h3
 obtain ⟨ac, cc, rfl, -⟩ := own_sl h4
 exact ⟨ai, _, ci, ae, _, ce, al, _, cl, ac, _, cc, vs, rfl, ⟨h1, h2, h3, h4⟩, h5⟩
theorem at_need {a : Aut} (h : ∀ x ∈ a.nodes, x.need < 2 ^ 64 ∧ x.ban < 2 ^ 64) (q : Nat) : (a.at q).need < 2 ^ 64 := by
 unfold Aut.at
 rw [gD]
 cases hx : a.nodes[q]? with
 | none => simp [ANd.none]
 | some x => exact (h x (List.mem_of_getElem? hx)).1
theorem ucellsN_nat (l : List Nat) : ucells (natI l) = ucellsN l := by simp [ucells, natI, ucellsN]
theorem all_bits {s : Nat} (hs : s ≤ 16) : (bitsL (allB s)).length ≤ 16 := by
 have h : ∀ s : Fin 17, (bitsL (allB s.1)).length ≤ 16 := by decide
 exact h ⟨s, by omega⟩
def WitIs (a : Aut) (st lo : List Nat) : Prop := chkA a = 0 ∧ (trimA a).init ≠ [] ∧ 0 < lo.length ∧ st.length < a.nodes.length ∧ lo.length ≤ 1 + 17 * (a.nodes.length - 1) ∧ Acc a (st ++ lo) st.length ∧ (∀ x ∈ st, x < 2 ^ 64) ∧ ∀ x ∈ lo, x < 2 ^ 64
def WitPost (w : World) (a : Aut) (en : Ending) (w' : World) : Prop :=
 ∃ A1 n1 c1 A2 n2 c2 st lo ok, en = .returned (.tuple #[.agg #[.slice A1 n1 c1, .slice A2 n2 c2], .bool ok]) ∧ WRd w' w'.1.size A1 A2 n1 c1 n2 c2 (natI st) (natI lo) ∧ Below w.1.size w w' ∧ (ok = true → WitIs a st lo) ∧ (ok = false → (trimF a).init = [] ∧ n1 = 0 ∧ n2 = 0)
def WSt (w : World) (a : Aut) (base wb kb : Nat) (X : World) : Prop :=
 ∃ A1 n1 c1 A2 n2 c2 st lo, X.1[wb]? = some (.cells #[.slice A1 n1 c1, .slice A2 n2 c2] 29 (0, 0)) ∧ X.1[kb]? = some (.cells #[.bool true] 4 (0, 0)) ∧
  X.ownsRow base 41 1 (.slice A1 n1 c1) n1 (ucells (natI st)) ∧ X.ownsRow base 41 1 (.slice A2 n2 c2) n2 (ucells (natI lo)) ∧ WitIs a st lo ∧ Below w.1.size w X
theorem wst_own {β : Type} (w : World) (a : Aut) (base wb kb B : Nat) (hB : w.1.size ≤ B) : OwnFrom B (fun (_ : β) X => WSt w a base wb kb X) := by
 intro s X Y row hr hg hrow
 obtain ⟨A1, n1, c1, A2, n2, c2, st, lo, h1, h2, h3, h4, h5, h6⟩ := hr
 refine ⟨A1, n1, c1, A2, n2, c2, st, lo, cells_own (β := Unit) wb B _ _ _ () X Y row h1 hg hrow, cells_own (β := Unit) kb B _ _ _ () X Y row h2 hg hrow, row_own _ _ _ _ _ _ _ () X Y row h3 hg hrow, row_own _ _ _ _ _ _ _ () X Y row h4 hg hrow, h5, ?_⟩
 exact h6.trans ⟨hg.os, hg.tape, hg.output, hg.size, fun k hk => hg.block k (Nat.lt_of_lt_of_le hk h6.size) (fun e => by have := (hrow k e.symm).1; omega)⟩
theorem set3W {w : World} {g q T U : Nat} {a b c : Value} {cs ds : Array Value} (h : w.1[g]? = some (.cells cs T (0, 0))) (hc : cs.size = 2) (k : w.1[q]? = some (.cells ds U (0, 0))) (hd : ds.size = 1) (hne : g ≠ q) :
  (((w.setCell ⟨g, 0, none⟩ a).setCell ⟨g, 1, none⟩ b).setCell ⟨q, 0, none⟩ c).1[g]? = some (.cells #[a, b] T (0, 0)) ∧ (((w.setCell ⟨g, 0, none⟩ a).setCell ⟨g, 1, none⟩ b).setCell ⟨q, 0, none⟩ c).1[q]? = some (.cells #[c] U (0, 0)) ∧
  Tch (fun k => k = g ∨ k = q) w (((w.setCell ⟨g, 0, none⟩ a).setCell ⟨g, 1, none⟩ b).setCell ⟨q, 0, none⟩ c) := by
 have h1 := heap_setCell_same w g 0 _ _ a h
 have h2 := heap_setCell_same _ g 1 _ _ b h1
 have t1 := tch_cell (w := w) g 0 a
 have t2 := tch_cell (w := w.setCell ⟨g, 0, none⟩ a) g 1 b
 have t3 := tch_cell (w := (w.setCell ⟨g, 0, none⟩ a).setCell ⟨g, 1, none⟩ b) q 0 c
 have k2 := t2.blk (t1.blk k (fun e => hne e.symm)) (fun e => hne e.symm)
 refine ⟨?_, ?_, ((t1.then_ t2).wide (fun k e => .inl e)).then_ (t3.wide (fun k e => .inr e))⟩
 ·rw [t3.blk h2 hne]
  obtain ⟨l⟩ := cs
  match l, hc with
  | [x, y], _ => rfl
 ·rw [heap_setCell_same _ q 0 _ _ c k2]
  obtain ⟨l⟩ := ds
  match l, hd with
  | [x], _ => rfl
end Go.Proofs.YtiebpncpdbnelaaDoor
