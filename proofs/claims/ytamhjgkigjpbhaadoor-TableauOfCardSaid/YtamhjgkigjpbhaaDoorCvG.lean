/- What the closure of cover.Of holds in memory (layer 28). -/
import Derived.Test.YtamhjgkigjpbhaaDoorCvM
namespace Go.Proofs.YtamhjgkigjpbhaaDoor
open Go.RowKit Go.Maps

/-- Covers in a row: their cells, and that their numbers read. -/
def CovsAt (w : World) (xs : List Value) (outs : List Cov) : Prop :=
  ∀ (k : Nat) (c : Cov), outs[k]? = some c → ∃ A1 c1 A2 c2, xs[k * 4]? = some (.int .u64 (c.1 : Int)) ∧ xs[k * 4 + 1]? = some (.int .u64 (c.2.1 : Int)) ∧
    xs[k * 4 + 2]? = some (.slice A1 (onL c.2.2.1).length c1) ∧ xs[k * 4 + 3]? = some (.slice A2 (onL c.2.2.2).length c2) ∧
    TSl w 3 A1 (onL c.2.2.1).length c1 (icells (natI (onL c.2.2.1))) ∧ TSl w 3 A2 (onL c.2.2.2).length c2 (icells (natI (onL c.2.2.2)))
theorem CovsAt.keep {S : Nat → Prop} {w w' : World} {xs : List Value} {outs : List Cov} (h : CovsAt w xs outs) (ht : Tch S w w') (hi : Spares S w 3) : CovsAt w' xs outs := by
  intro k c hk
  obtain ⟨A1, c1, A2, c2, e0, e1, e2, e3, t1, t2⟩ := h k c hk
  exact ⟨A1, c1, A2, c2, e0, e1, e2, e3, t1.keep ht hi, t2.keep ht hi⟩
theorem CovsAt.nil (w : World) : CovsAt w [] [] := fun k c h => by simp at h
theorem CovsAt.push {w : World} {xs : List Value} {outs : List Cov} (h : CovsAt w xs outs) (hl : xs.length = outs.length * 4) (c : Cov) {A1 A2 : Option Addr} {c1 c2 : Nat}
    (t1 : TSl w 3 A1 (onL c.2.2.1).length c1 (icells (natI (onL c.2.2.1)))) (t2 : TSl w 3 A2 (onL c.2.2.2).length c2 (icells (natI (onL c.2.2.2)))) :
    CovsAt w (xs ++ [.int .u64 (c.1 : Int), .int .u64 (c.2.1 : Int), .slice A1 (onL c.2.2.1).length c1, .slice A2 (onL c.2.2.2).length c2]) (outs ++ [c]) := by
  intro k d hk
  by_cases hlt : k < outs.length
  · rw [List.getElem?_append_left hlt] at hk
    obtain ⟨A1, c1, A2, c2, e0, e1, e2, e3, t1, t2⟩ := h k d hk
    refine ⟨A1, c1, A2, c2, ?_, ?_, ?_, ?_, t1, t2⟩ <;> (rw [List.getElem?_append_left (by omega)]; assumption)
  · have hkl : k = outs.length := by
      have := (List.getElem?_eq_some_iff.1 hk).1
      simp at this; omega
    subst hkl
    simp at hk
    subst hk
    refine ⟨A1, c1, A2, c2, ?_, ?_, ?_, ?_, t1, t2⟩
    · rw [List.getElem?_append_right (by omega), hl, show outs.length * 4 - outs.length * 4 = 0 by omega]; rfl
    · rw [List.getElem?_append_right (by omega), hl, show outs.length * 4 + 1 - outs.length * 4 = 1 by omega]; rfl
    · rw [List.getElem?_append_right (by omega), hl, show outs.length * 4 + 2 - outs.length * 4 = 2 by omega]; rfl
    · rw [List.getElem?_append_right (by omega), hl, show outs.length * 4 + 3 - outs.length * 4 = 3 by omega]; rfl
/-- The closure's captured boxes, the map and the row. -/
structure GS (n0 fb gb tb mb ob : Nat) (Af : Option Addr) (cf : Nat) (f : List Nd) (w : World) (T : List Cov) (v : Value) : Prop where
  bf : w.heap[fb]? = some (.cells #[.slice Af f.length cf] 22 (0, 0))
  bg : w.heap[gb]? = some (.cells #[.func (.func 52) #[] #[.pointer (some ⟨fb, 0, none⟩), .pointer (some ⟨gb, 0, none⟩), .pointer (some ⟨tb, 0, none⟩), .pointer (some ⟨ob, 0, none⟩)]] 98 (0, 0))
  bt : w.heap[tb]? = some (.cells #[.map (some mb)] 97 (0, 0))
  bo : w.heap[ob]? = some (.cells #[v] 80 (0, 0))
  map : TMap w mb T
  out : ∃ xs, w.ownsRow n0 57 4 v T.length xs ∧ CovsAt w xs T
  lt : n0 ≤ w.heap.size ∧ n0 ≤ ob ∧ n0 ≤ mb
  fs : Sl w n0 2 Af f.length cf (ncells f)
section
variable {n0 fb gb tb mb ob : Nat} {Af : Option Addr} {cf : Nat} {f : List Nd} {w : World} {T : List Cov} {v : Value}
theorem GS.own_ne (h : GS n0 fb gb tb mb ob Af cf f w T v) {k t : Nat} {cs : Array Value} (hk : w.heap[k]? = some (.cells cs t (0, 0))) (ht : 57 ≠ t) : v.ownBlock ≠ some k := by
  obtain ⟨xs, ho, _⟩ := h.out
  exact own_ne_blk ho hk ht
theorem GS.mb_cells (h : GS n0 fb gb tb mb ob Af cf f w T v) {k t : Nat} {cs : Array Value} (hk : w.heap[k]? = some (.cells cs t (0, 0))) : k ≠ mb := by
  rintro rfl
  obtain ⟨D, ⟨es, clock, hb, _⟩, _⟩ := h.map
  rw [hk] at hb; cases hb
/-- What a call of the closure may turn. -/
def Tn (ob mb : Nat) (v : Value) (k : Nat) : Prop := k = ob ∨ k = mb ∨ v.ownBlock = some k
theorem GS.spares (h : GS n0 fb gb tb mb ob Af cf f w T v) {t : Nat} (h1 : 57 ≠ t) (h2 : 80 ≠ t) : Spares (Tn ob mb v) w t := by
  rintro k cs hk (rfl | rfl | hv)
  · rw [h.bo] at hk; injection hk with hk; injection hk with _ e; exact h2 e
  · exact h.mb_cells hk rfl
  · exact h.own_ne hk h1 hv
theorem GS.keep {S : Nat → Prop} {w' : World} (h : GS n0 fb gb tb mb ob Af cf f w T v) (ht : Tch S w w') (h1 : ¬ S fb) (h2 : ¬ S gb) (h3 : ¬ S tb) (h4 : ¬ S ob) (h5 : ¬ S mb) (h6 : ∀ g, v.ownBlock = some g → ¬ S g) (hi : Spares S w 3) (h0 : ∀ k, k < n0 → ¬ S k) :
    GS n0 fb gb tb mb ob Af cf f w' T v := by
  obtain ⟨xs, ho, hc⟩ := h.out
  exact ⟨ht.blk h.bf h1, ht.blk h.bg h2, ht.blk h.bt h3, ht.blk h.bo h4, h.map.keep ht h5, ⟨xs, own_tch ho ht h6, hc.keep ht hi⟩, ⟨Nat.le_trans h.lt.1 ht.size, h.lt.2⟩, h.fs.tch ht h.lt.1 h0⟩
theorem GS.below {w' : World} (h : GS n0 fb gb tb mb ob Af cf f w T v) (hb : Below w.heap.size w w') : GS n0 fb gb tb mb ob Af cf f w' T v := by
  obtain ⟨xs, ho, _⟩ := h.out
  have l1 := heap_lt h.bf
  have l2 := heap_lt h.bg
  have l3 := heap_lt h.bt
  have l4 := heap_lt h.bo
  have l5 := h.map.lt
  exact h.keep (Tch.of_below hb) (by omega) (by omega) (by omega) (by omega) (by omega) (fun g hg => by have := (ho.lt g hg).2; omega) (spares_new w _) (fun k hk => by have := h.lt.1; omega)
theorem GS.after_map {w1 : World} (h : GS n0 fb gb tb mb ob Af cf f w T v) (hg : w.grownBy w1 (some mb)) :
    (∃ xs, w1.ownsRow n0 57 4 v T.length xs ∧ CovsAt w1 xs T) ∧ ∀ {k t : Nat} {cs : Array Value}, w.heap[k]? = some (.cells cs t (0, 0)) → w1.heap[k]? = some (.cells cs t (0, 0)) := by
  have g1 : Tch (fun k => k = mb) w w1 := (Tch.of_grown hg).mono (fun i _ e => by simpa using e.symm)
  obtain ⟨xs, ho, hc⟩ := h.out
  refine ⟨⟨xs, own_tch ho g1 (fun g hg' e => ?_), hc.keep g1 (fun k cs hk e => h.mb_cells hk e)⟩, fun hk => g1.blk hk (h.mb_cells hk)⟩
  subst e
  obtain ⟨D, ⟨es, clock, hbm, _⟩, _⟩ := h.map
  rcases ho.2 with ⟨rfl, _⟩ | ⟨g0, cap, cur, rfl, _, hh, _⟩
  · simp [Value.ownBlock] at hg'
  · simp [Value.ownBlock] at hg'; subst hg'; rw [hbm] at hh; cases hh
/-- A cover is told: into the map, into the row, the row's box. -/
theorem GS.tell {w1 w2 w3 : World} {v' : Value} {c : Cov} {A1 A2 : Option Addr} {c1 c2 : Nat} (h : GS n0 fb gb tb mb ob Af cf f w T v) (hg : w.grownBy w1 (some mb)) (hm : TMap w1 mb (T ++ [c])) (hb : Below w1.heap.size w1 w2)
    (t1 : TSl w2 3 A1 (onL c.2.2.1).length c1 (icells (natI (onL c.2.2.1)))) (t2 : TSl w2 3 A2 (onL c.2.2.2).length c2 (icells (natI (onL c.2.2.2))))
    {xs : List Value} (hxs : w2.ownsRow n0 57 4 v T.length xs) (hcs : CovsAt w2 xs T)
    (ho : w3.ownsRow n0 57 4 v' (T.length + 1) (xs ++ [.int .u64 (c.1 : Int), .int .u64 (c.2.1 : Int), .slice A1 (onL c.2.2.1).length c1, .slice A2 (onL c.2.2.2).length c2])) (ht : Tch (fun k => v.ownBlock = some k) w2 w3) (hat : v'.ownBlock = v.ownBlock ∨ v'.ownBlock = some w2.heap.size) :
    GS n0 fb gb tb mb ob Af cf f (w3.setCell ⟨ob, 0, none⟩ v') (T ++ [c]) v' ∧ Tch (Tn ob mb v) w (w3.setCell ⟨ob, 0, none⟩ v') ∧ ∀ i, v'.ownBlock = some i → i < w.heap.size → v.ownBlock = some i := by
  have g1 : Tch (fun k => k = mb) w w1 := (Tch.of_grown hg).mono (fun i _ e => by simpa using e.symm)
  have lmb := h.map.lt
  have lob := heap_lt h.bo
  have z1 := g1.size
  have z2 := hb.size
  have z3 := ht.size
  have b1 : ∀ {k : Nat} {cs : Array Value} {t : Nat}, w.heap[k]? = some (.cells cs t (0, 0)) → w2.heap[k]? = some (.cells cs t (0, 0)) := fun hk =>
    (Tch.of_below hb).blk (g1.blk hk (h.mb_cells hk)) (by have := heap_lt hk; omega)
  have b2 : ∀ {k : Nat} {cs : Array Value} {t : Nat}, w.heap[k]? = some (.cells cs t (0, 0)) → 57 ≠ t → w3.heap[k]? = some (.cells cs t (0, 0)) := fun hk hne =>
    ht.blk (b1 hk) (own_ne_blk hxs (b1 hk) hne)
  have s3 : Tch (fun k => k = ob) w3 (w3.setCell ⟨ob, 0, none⟩ v') := (Tch.refl (fun k => k = ob) w3).setCell (p := ⟨ob, 0, none⟩) (fun _ => rfl) v'
  have b3 : ∀ {k : Nat} {cs : Array Value} {t : Nat}, w.heap[k]? = some (.cells cs t (0, 0)) → 57 ≠ t → k ≠ ob → (w3.setCell ⟨ob, 0, none⟩ v').heap[k]? = some (.cells cs t (0, 0)) := fun hk hne hko =>
    s3.blk (b2 hk hne) hko
  have bo3 := b2 h.bo (by decide)
  have hne : ∀ {k t : Nat} {cs : Array Value}, w.heap[k]? = some (.cells cs t (0, 0)) → 80 ≠ t → k ≠ ob := fun hk hne e => by
    subst e; rw [h.bo] at hk; injection hk with hk; injection hk with _ e; exact hne e
  have hown : ∀ i, v'.ownBlock = some i → i < w.heap.size → v.ownBlock = some i := fun i hi hlt => by
    rcases hat with e | e
    · rw [← e]; exact hi
    · rw [e] at hi; cases hi; omega
  have sp2 : Spares (fun k => v.ownBlock = some k) w2 3 := fun k cs hk => own_ne_blk hxs hk (by decide)
  have spo : Spares (fun k => k = ob) w3 3 := spares_one bo3 (by decide)
  have hvb : ∀ g, v'.ownBlock = some g → g ≠ ob := fun g hg e => by
    subst e
    exact own_ne_blk ho bo3 (by decide) hg
  refine ⟨⟨b3 h.bf (by decide) (hne h.bf (by decide)), b3 h.bg (by decide) (hne h.bg (by decide)), b3 h.bt (by decide) (hne h.bt (by decide)), ?_, ?_, ?_, ?_, ?_⟩, ?_, hown⟩
  · have := heap_setCell_same w3 ob 0 _ _ v' bo3
    simpa using this
  · refine (((hm.keep (Tch.of_below hb) (by omega)).keep ht ?_).keep s3 ?_)
    · intro e
      obtain ⟨D, ⟨es, clock, hbm, _⟩, _⟩ := hm.keep (Tch.of_below hb) (by omega)
      rcases hxs.2 with ⟨rfl, _⟩ | ⟨g, cap, cur, rfl, _, hh, _⟩
      · simp [Value.ownBlock] at e
      · simp [Value.ownBlock] at e; subst e; rw [hbm] at hh; cases hh
    · exact fun e => h.mb_cells h.bo e.symm
  · refine ⟨_, by rw [List.length_append]; exact own_tch ho s3 hvb, ?_⟩
    exact ((hcs.push (by rw [hxs.1]) c t1 t2).keep ht sp2).keep s3 spo
  · refine ⟨?_, h.lt.2⟩
    have := s3.size
    have := h.lt.1
    omega
  · have f1 := h.fs.tch g1 h.lt.1 (fun b hb' e => by have := h.lt.2.2; omega)
    have f2 := f1.below hb (by have := h.lt.1; omega)
    have f3 := f2.tch ht (by have := h.lt.1; omega) (fun b hb' e => by have := (hxs.lt b e).1; omega)
    exact f3.tch s3 (by have := h.lt.1; omega) (fun b hb' e => by have := h.lt.2.1; omega)
  · have t3 : Tch (Tn ob mb v) w w1 := g1.mono (fun i _ e => .inr (.inl e))
    have t4 : Tch (Tn ob mb v) w w2 := t3.trans (Tch.of_below hb) (fun i hi e => by omega)
    have t5 : Tch (Tn ob mb v) w w3 := t4.trans ht (fun i _ e => .inr (.inr e))
    exact t5.trans s3 (fun i _ e => .inl e)
end
end Go.Proofs.YtamhjgkigjpbhaaDoor
