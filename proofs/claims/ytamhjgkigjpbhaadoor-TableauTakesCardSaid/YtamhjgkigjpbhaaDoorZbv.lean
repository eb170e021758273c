/- Texts that stand one behind the other, in one file. -/
import Derived.Test.YtamhjgkigjpbhaaDoorZbu
import Derived.Test.YtamhjgkigjpbhaaDoorMe
import Derived.Deep.DeepCutAuto
import Derived.Test.YtamhjgkigjpbhaaDoorZag
import Derived.Test.YtamhjgkigjpbhaaDoorMa
import Derived.Test.YtamhjgkigjpbhaaDoorZad
import Derived.Test.YtamhjgkigjpbhaaDoorMc
import Derived.Lib.AppendZerosOnto
import Derived.Outline
import Derived.Test.YtamhjgkigjpbhaaDoorProg

/- The walk of layer 27: Truth. -/
namespace Go.Proofs.YtamhjgkigjpbhaaDoor
open Go.RowKit

/-- Both lists of rows on the way. -/
def TRl (w : World) (N : Nat) (s : List (List Bool) × List (List Bool)) (vl vo : Value) (wr : World) : Prop :=
  ∃ lvs, LSk wr w.heap.size N vl s.1 lvs ∧ Grid w wr vo s.2 ∧ ∀ g, vl.ownBlock = some g → vo.ownBlock ≠ some g
/-- The row is put on the stack. -/
structure TMid (w : World) (N : Nat) (left out : List (List Bool)) (vl vo : Value) (w7 : World) (u : Value) (r : List Bool) (lvs : List Value) : Prop where
  lsk : LSk w7 w.heap.size N vl left lvs
  grid : Grid w w7 vo out
  dis : ∀ g, vl.ownBlock = some g → vo.ownBlock ≠ some g
  row : w7.ownsRow w.heap.size 4 1 u N (bcells r)
theorem trl_left {w wr w6 w7 : World} {N d t B6 c6 cl : Nat} {left out : List (List Bool)} {Al A6 : Option Addr} {vo v7 : Value} {lvs : List Value} {r : List Bool} {O : Obj} (hL : LSk wr w.heap.size N (.slice Al d cl) left lvs) (hd : d = left.length) (hG : Grid w wr vo out)
    (hD : ∀ g, (Value.slice Al d cl).ownBlock = some g → vo.ownBlock ≠ some g) (hb6 : Below wr.heap.size wr w6) (hrow : w6.ownsRow B6 4 1 (.slice A6 N c6) N (bcells r)) (hB6 : w.heap.size ≤ B6)
    (hown7 : w7.ownsRow w.heap.size 73 1 v7 (d - t + 1) (lvs.take (d - t) ++ [.slice A6 N c6])) (ht7 : Tch (fun k => (Value.slice Al (d - t) cl).ownBlock = some k) (w6.alloc O) w7)
    (hat7 : v7.ownBlock = (Value.slice Al (d - t) cl).ownBlock ∨ v7.ownBlock = some (w6.alloc O).heap.size) : TMid w N (left.take (d - t) ++ [r]) out v7 vo w7 (.slice A6 N c6) r (lvs.take (d - t) ++ [.slice A6 N c6]) := by
  have hL6 := hL.below hb6
  have hC := hL6.cut (k := d - t) (by omega)
  have hCl : (left.take (d - t)).length = d - t := by rw [List.length_take]; omega
  have ht67 : Tch (fun k => (Value.slice Al (d - t) cl).ownBlock = some k) w6 w7 := Tch.trans ((Tch.refl _ w6).alloc _) ht7 (fun _ _ h => h)
  have hbb := own_bb hrow
  obtain ⟨A', c', hv', hs6⟩ := own_sl hrow
  cases hv'
  have hblk : (Value.slice Al (d - t) cl).ownBlock = (Value.slice Al d cl).ownBlock := ownBlock_eq _ _ _ _ _
  have hG6 := hG.below hb6
  refine ⟨hC.push hs6 hbb (by rw [hCl]; exact hown7) ht67, hG6.tch ht67 (fun g hg => (hC.1.lt g hg).1) (fun g hg hg' => hD g (by rw [← hblk]; exact hg') hg) (fun A hA => bb_apart hC.1 hA), ?_, own_base (own_tch hrow ht67 (fun g hg hg' => own_ne hrow hC.1 (by decide) g hg hg')) hB6⟩
  intro g hg hg'
  rcases hat7 with h | h
  · rw [h, hblk] at hg; exact hD g hg hg'
  · rw [h] at hg
    cases hg
    obtain ⟨ovs, ho1, _⟩ := hG6
    have := (ho1.lt _ hg').2
    simp at this
    omega
theorem trl_out {w w7 w8 : World} {N c6 : Nat} {left out : List (List Bool)} {A6 : Option Addr} {vl vo v8 : Value} {lvs ovs : List Value} {r : List Bool} {O : Obj} (hM : TMid w N left out vl vo w7 (.slice A6 N c6) r lvs) (ho1 : w7.ownsRow w.heap.size 73 1 vo out.length ovs)
    (ho2 : ∀ (j : Nat) (r : List Bool), out[j]? = some r → ∃ u, ovs[j]? = some u ∧ w7.ownsRow w.heap.size 4 1 u r.length (bcells r))
    (hown8 : w8.ownsRow w.heap.size 73 1 v8 (out.length + 1) (ovs ++ [.slice A6 N c6])) (ht8 : Tch (fun k => vo.ownBlock = some k) (w7.alloc O) w8)
    (hat8 : v8.ownBlock = vo.ownBlock ∨ v8.ownBlock = some (w7.alloc O).heap.size) : TRl w N (left, out ++ [r]) vl v8 w8 := by
  have ht78 : Tch (fun k => vo.ownBlock = some k) w7 w8 := Tch.trans ((Tch.refl _ w7).alloc _) ht8 (fun _ _ h => h)
  have hrl : r.length = N := by have := hM.row.1; rw [bcells_len] at this; omega
  refine ⟨lvs, hM.lsk.tch ht78 (fun g hg hg' => hM.dis g hg hg') (fun A hA => bb_apart ho1 hA), hM.grid.push (by rw [hrl]; exact hM.row) ho1 hown8 ht78 ho2, ?_⟩
  intro g hg hg'
  rcases hat8 with h | h
  · rw [h] at hg'; exact hM.dis g hg hg'
  · rw [h] at hg'
    cases hg'
    have := (hM.lsk.1.lt _ hg).2
    simp at this
    omega
end Go.Proofs.YtamhjgkigjpbhaaDoor

/- The walk of layer 27: Holds. -/
namespace Go.Proofs.YtamhjgkigjpbhaaDoor
open Go.RowKit

/-- Does a word (stem, loop) satisfy nodes? -/
def holdsW (bits : Int → Nat → Bool) (f : List Nd) (st lo : List Int) : Bool := decide (0 < (truthW bits f st lo).length) && ((truthW bits f st lo).getD ((truthW bits f st lo).length - 1) []).getD 0 false
theorem truthW_some {bits : Int → Nat → Bool} {f : List Nd} {st lo : List Int} (h : lo ≠ []) (hw : wrong f = 0) : 0 < f.length ∧ (truthW bits f st lo).length = f.length ∧
    (truthW bits f st lo)[f.length - 1]? = some (val bits (st.length + lo.length) st.length (treeOf f)) ∧ (val bits (st.length + lo.length) st.length (treeOf f)).length = st.length + lo.length := by
  have hp : 0 < f.length := by
    rcases f with _ | ⟨x, r⟩
    · simp [wrong] at hw
    · simp
  refine ⟨hp, ?_, ?_, ?_⟩
  · rw [truthW, if_pos ⟨h, hw⟩, rowsF_len]
  · rw [truthW, if_pos ⟨h, hw⟩]; exact rowsF_last hw
  · exact val_flat hw
theorem holdsW_some {bits : Int → Nat → Bool} {f : List Nd} {st lo : List Int} (h : lo ≠ []) (hw : wrong f = 0) : holdsW bits f st lo = (val bits (st.length + lo.length) st.length (treeOf f)).getD 0 false := by
  obtain ⟨h1, h2, h3, h4⟩ := truthW_some (bits := bits) (st := st) h hw
  rw [holdsW, h2, List.getD_eq_getElem?_getD (l := truthW bits f st lo), h3]
  simp [h1]

end Go.Proofs.YtamhjgkigjpbhaaDoor

/- The walk of layer 27: Norm. -/
namespace Go.Proofs.YtamhjgkigjpbhaaDoor
open Go.RowKit

theorem own_belW {w w' : World} {base e size n : Nat} {v : Value} {xs : List Value} {B : Nat} (hb : Below B w w') (hB : w.heap.size ≤ B) (h : w.ownsRow base e size v n xs) : w'.ownsRow base e size v n xs :=
  own_tch h (Tch.of_below hb) (fun g hg => by have := (h.lt g hg).2; omega)
/-- A word's box, and the answer's. -/
theorem box2 (w : World) (x y : Obj) : Below w.heap.size w ((w.alloc x).alloc y) ∧ ((w.alloc x).alloc y).heap[w.heap.size]? = some x ∧ ((w.alloc x).alloc y).heap[w.heap.size + 1]? = some y ∧ ((w.alloc x).alloc y).heap.size = w.heap.size + 2 := by
  refine ⟨((Below.refl _ _).alloc (Nat.le_refl _) _).alloc (by simp) _, ?_, ?_, by simp⟩
  · rw [Below.heap_alloc _ _ _ (by simp)]; exact heap_alloc_new w x
  · have := heap_alloc_new (w.alloc x) y
    rwa [show (w.alloc x).heap.size = w.heap.size + 1 by simp] at this
end Go.Proofs.YtamhjgkigjpbhaaDoor

/- The walk of layer 27: Same. -/
namespace Go.Proofs.YtamhjgkigjpbhaaDoor
open Go.RowKit

/-- Two words and two boxes, on the way. -/
structure TwS (w0 W : World) (l1 l2 l1' l2' : Nat) (p p' : List Int × List Int) (v v' : Option (Value × Value)) (g g' : Option Nat) : Prop where
  b : Below w0.heap.size w0 W
  own : ∀ x, v = some x → W.ownsRow w0.heap.size 41 1 x.1 l1 (ucells p.1) ∧ W.ownsRow w0.heap.size 41 1 x.2 l2 (ucells p.2)
  own' : ∀ x, v' = some x → W.ownsRow w0.heap.size 41 1 x.1 l1' (ucells p'.1) ∧ W.ownsRow w0.heap.size 41 1 x.2 l2' (ucells p'.2)
  blk : ∀ k, g = some k → W.heap[k]? = some (.cells #[.slice none 0 0, .slice none 0 0] 35 (0, 0)) ∧ w0.heap.size ≤ k
  blk' : ∀ k, g' = some k → W.heap[k]? = some (.cells #[.slice none 0 0, .slice none 0 0] 35 (0, 0)) ∧ w0.heap.size ≤ k
  ne : ∀ k k', g = some k → g' = some k' → k ≠ k'
theorem TwS.start (w0 : World) (l1 l2 l1' l2' : Nat) (p p' : List Int × List Int) : TwS w0 w0.drew l1 l2 l1' l2' p p' none none none none :=
  ⟨(Below.refl _ _).drew, fun _ h => (by cases h), fun _ h => (by cases h), fun _ h => (by cases h), fun _ h => (by cases h), fun _ _ h => (by cases h)⟩
section
variable {w0 W W' : World} {l1 l2 l1' l2' : Nat} {p p' : List Int × List Int} {v v' : Option (Value × Value)} {g g' : Option Nat}
theorem TwS.step (h : TwS w0 W l1 l2 l1' l2' p p' v v' g g') (hb : Below W.heap.size W W') : TwS w0 W' l1 l2 l1' l2' p p' v v' g g' :=
  ⟨h.b.trans (hb.mono h.b.size), fun x hx => ⟨own_belW hb (Nat.le_refl _) (h.own x hx).1, own_belW hb (Nat.le_refl _) (h.own x hx).2⟩, fun x hx => ⟨own_belW hb (Nat.le_refl _) (h.own' x hx).1, own_belW hb (Nat.le_refl _) (h.own' x hx).2⟩,
   fun k hk => ⟨(hb.block k (lt_of_block (h.blk k hk).1)).trans (h.blk k hk).1, (h.blk k hk).2⟩, fun k hk => ⟨(hb.block k (lt_of_block (h.blk' k hk).1)).trans (h.blk' k hk).1, (h.blk' k hk).2⟩, h.ne⟩
theorem TwS.al (h : TwS w0 W l1 l2 l1' l2' p p' v v' none g') (hn : W'.heap[W.heap.size]? = some (.cells #[.slice none 0 0, .slice none 0 0] 35 (0, 0))) (hb : Below W.heap.size W W') : TwS w0 W' l1 l2 l1' l2' p p' v v' (some W.heap.size) g' :=
  ⟨(h.step hb).b, (h.step hb).own, (h.step hb).own', fun k hk => by cases hk; exact ⟨hn, h.b.size⟩, (h.step hb).blk', fun k k' hk hk' => by cases hk; have := lt_of_block (h.blk' k' hk').1; omega⟩
theorem word_setO {k : Nat} {W : World} {g0 : Nat} {x y : Value} {o : Obj} (hk : k ≠ g0) (h : W.heap[k]? = some o) : ((W.setCell ⟨g0, 0, none⟩ x).setCell ⟨g0, 1, none⟩ y).heap[k]? = some o := by
  rw [Below.heap_setCell _ ⟨g0, 1, none⟩ _ _ hk, Below.heap_setCell _ ⟨g0, 0, none⟩ _ _ hk]; exact h
theorem own_wordO {W : World} {base n g0 : Nat} {v x y a b : Value} {xs : List Value} (h : W.ownsRow base 41 1 v n xs) (hg : W.heap[g0]? = some (.cells #[a, b] 35 (0, 0))) : ((W.setCell ⟨g0, 0, none⟩ x).setCell ⟨g0, 1, none⟩ y).ownsRow base 41 1 v n xs :=
  ownsRow_setCell_other (a := ⟨g0, 1, none⟩) (ownsRow_setCell_other (a := ⟨g0, 0, none⟩) h (own_ne_blk h hg (by decide)) x) (own_ne_blk h hg (by decide)) y
theorem word_blk {W : World} {g0 T : Nat} {a b x y : Value} (h : W.heap[g0]? = some (.cells #[a, b] T (0, 0))) : ((W.setCell ⟨g0, 0, none⟩ x).setCell ⟨g0, 1, none⟩ y).heap[g0]? = some (.cells #[x, y] T (0, 0)) := by
  have h1 := heap_setCell_same W g0 0 _ _ x h
  have h2 := heap_setCell_same _ g0 1 _ _ y h1
  rw [h2]; rfl
theorem blk2 {W : World} {g0 T : Nat} {a b : Value} (h : W.heap[g0]? = some (.cells #[a, b] T (0, 0))) : (W.cell? ⟨g0, 0, none⟩ = some a ∧ W.cell? ⟨g0, 1, none⟩ = some b) ∧ (W.frozen? ⟨g0, 0, none⟩ = false ∧ W.frozen? ⟨g0, 1, none⟩ = false) :=
  ⟨⟨by rw [cell_of_row _ _ 0 _ _ (0, 0) h]; rfl, by rw [cell_of_row _ _ 1 _ _ (0, 0) h]; rfl⟩, ⟨frozen_of_row _ _ 0 _ _ h, frozen_of_row _ _ 1 _ _ h⟩⟩
/-- Both boxes are filled. -/
structure TwE (w0 W : World) (l1 l2 l1' l2' : Nat) (p p' : List Int × List Int) (x x' : Value × Value) (k k' : Nat) : Prop where
  b : Below w0.heap.size w0 W
  own : W.ownsRow w0.heap.size 41 1 x.1 l1 (ucells p.1) ∧ W.ownsRow w0.heap.size 41 1 x.2 l2 (ucells p.2)
  own' : W.ownsRow w0.heap.size 41 1 x'.1 l1' (ucells p'.1) ∧ W.ownsRow w0.heap.size 41 1 x'.2 l2' (ucells p'.2)
  blk : W.heap[k]? = some (.cells #[x.1, x.2] 35 (0, 0))
  blk' : W.heap[k']? = some (.cells #[x'.1, x'.2] 35 (0, 0))
theorem TwS.mid {x x' : Value × Value} {k k' : Nat} (h : TwS w0 W l1 l2 l1' l2' p p' (some x) (some x') (some k) (some k')) {W1 : World} (h1 : W1 = (W.setCell ⟨k, 0, none⟩ x.1).setCell ⟨k, 1, none⟩ x.2) : W1.heap[k']? = some (.cells #[.slice none 0 0, .slice none 0 0] 35 (0, 0)) ∧ Below w0.heap.size w0 W1 := by
  subst h1
  exact ⟨word_setO (h.ne k k' rfl rfl).symm (h.blk' k' rfl).1, (h.b.setCell (p := ⟨k, 0, none⟩) (h.blk k rfl).2 _).setCell (p := ⟨k, 1, none⟩) (h.blk k rfl).2 _⟩
theorem TwS.fin {x x' : Value × Value} {k k' : Nat} (h : TwS w0 W l1 l2 l1' l2' p p' (some x) (some x') (some k) (some k')) {W1 W2 : World} (h1 : W1 = (W.setCell ⟨k, 0, none⟩ x.1).setCell ⟨k, 1, none⟩ x.2) (h2 : W2 = (W1.setCell ⟨k', 0, none⟩ x'.1).setCell ⟨k', 1, none⟩ x'.2) : TwE w0 W2 l1 l2 l1' l2' p p' x x' k k' := by
  obtain ⟨hm, hbm⟩ := h.mid h1
  obtain ⟨a1, a2⟩ := h.own x rfl
  obtain ⟨b1, b2⟩ := h.own' x' rfl
  have hg := (h.blk k rfl).1
  have hn := h.ne k k' rfl rfl
  have hle := (h.blk' k' rfl).2
  subst h1
  have c1 := own_wordO (x := x.1) (y := x.2) a1 hg
  have c2 := own_wordO (x := x.1) (y := x.2) a2 hg
  have d1 := own_wordO (x := x.1) (y := x.2) b1 hg
  have d2 := own_wordO (x := x.1) (y := x.2) b2 hg
  have hg1 := word_blk (x := x.1) (y := x.2) hg
  subst h2
  exact ⟨(hbm.setCell (p := ⟨k', 0, none⟩) hle _).setCell (p := ⟨k', 1, none⟩) hle _, ⟨own_wordO c1 hm, own_wordO c2 hm⟩, ⟨own_wordO d1 hm, own_wordO d2 hm⟩, word_setO hn hg1, word_blk hm⟩
end
end Go.Proofs.YtamhjgkigjpbhaaDoor
