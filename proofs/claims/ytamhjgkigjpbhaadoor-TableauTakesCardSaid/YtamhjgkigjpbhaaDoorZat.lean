/- Texts that stand one behind the other, in one file. -/
import Derived.Test.YtamhjgkigjpbhaaDoorZao
import Derived.Test.YtamhjgkigjpbhaaDoorCovR

/- What the closure of cover.Of holds in memory (layer 28). -/
namespace Go.Proofs.YtamhjgkigjpbhaaDoor
open Go.RowKit Go.Maps

/-- Covers in a row: their cells, and that their numbers read. -/
def CovsAt (w : World) (xs : List Value) (outs : List Cov) : Prop :=
  ∀ (k : Nat) (c : Cov), outs[k]? = some c → ∃ A1 c1 A2 c2, xs[k * 4]? = some (.int .u64 (c.1 : Int)) ∧ xs[k * 4 + 1]? = some (.int .u64 (c.2.1 : Int)) ∧
    xs[k * 4 + 2]? = some (.slice A1 (onL c.2.2.1).length c1) ∧ xs[k * 4 + 3]? = some (.slice A2 (onL c.2.2.2).length c2) ∧
    TSl w 3 A1 (onL c.2.2.1).length c1 (icells (natI (onL c.2.2.1))) ∧ TSl w 3 A2 (onL c.2.2.2).length c2 (icells (natI (onL c.2.2.2)))
theorem CovsAt.keep {S : Nat → Prop} {w w' : World} {xs : List Value} {outs : List Cov} (h : CovsAt w xs outs) (ht : Tch S w w') (hi : Spares S w 3) : CovsAt w' xs outs := by
  intro k c hk
  obtain ⟨A1, c1, A2, c2, e0, e1, e2, e3, t1, t2⟩ := h k c hk
  exact ⟨A1, c1, A2, c2, e0, e1, e2, e3, t1.keep ht hi, t2.keep ht hi⟩
theorem CovsAt.nil (w : World) : CovsAt w [] [] := fun k c h => by simp at h
theorem CovsAt.push {w : World} {xs : List Value} {outs : List Cov} (h : CovsAt w xs outs) (hl : xs.length = outs.length * 4) (c : Cov) {A1 A2 : Option Addr} {c1 c2 : Nat}
    (t1 : TSl w 3 A1 (onL c.2.2.1).length c1 (icells (natI (onL c.2.2.1)))) (t2 : TSl w 3 A2 (onL c.2.2.2).length c2 (icells (natI (onL c.2.2.2)))) :
    CovsAt w (xs ++ [.int .u64 (c.1 : Int), .int .u64 (c.2.1 : Int), .slice A1 (onL c.2.2.1).length c1, .slice A2 (onL c.2.2.2).length c2]) (outs ++ [c]) := by
  intro k d hk
  by_cases hlt : k < outs.length
  · rw [List.getElem?_append_left hlt] at hk
    obtain ⟨A1, c1, A2, c2, e0, e1, e2, e3, t1, t2⟩ := h k d hk
    refine ⟨A1, c1, A2, c2, ?_, ?_, ?_, ?_, t1, t2⟩ <;> (rw [List.getElem?_append_left (by omega)]; assumption)
  · have hkl : k = outs.length := by
      have := (List.getElem?_eq_some_iff.1 hk).1
      simp at this; omega
    subst hkl
    simp at hk
    subst hk
    refine ⟨A1, c1, A2, c2, ?_, ?_, ?_, ?_, t1, t2⟩
    · rw [List.getElem?_append_right (by omega), hl, show outs.length * 4 - outs.length * 4 = 0 by omega]; rfl
    · rw [List.getElem?_append_right (by omega), hl, show outs.length * 4 + 1 - outs.length * 4 = 1 by omega]; rfl
    · rw [List.getElem?_append_right (by omega), hl, show outs.length * 4 + 2 - outs.length * 4 = 2 by omega]; rfl
    · rw [List.getElem?_append_right (by omega), hl, show outs.length * 4 + 3 - outs.length * 4 = 3 by omega]; rfl
/-- The closure's captured boxes, the map and the row. -/
structure GS (n0 fb gb tb mb ob : Nat) (Af : Option Addr) (cf : Nat) (f : List Nd) (w : World) (T : List Cov) (v : Value) : Prop where
  bf : w.heap[fb]? = some (.cells #[.slice Af f.length cf] 22 (0, 0))
  bg : w.heap[gb]? = some (.cells #[.func (.func 52) #[] #[.pointer (some ⟨fb, 0, none⟩), .pointer (some ⟨gb, 0, none⟩), .pointer (some ⟨tb, 0, none⟩), .pointer (some ⟨ob, 0, none⟩)]] 98 (0, 0))
  bt : w.heap[tb]? = some (.cells #[.map (some mb)] 97 (0, 0))
  bo : w.heap[ob]? = some (.cells #[v] 80 (0, 0))
  map : TMap w mb T
  out : ∃ xs, w.ownsRow n0 57 4 v T.length xs ∧ CovsAt w xs T
  lt : n0 ≤ w.heap.size ∧ n0 ≤ ob ∧ n0 ≤ mb
  fs : Sl w n0 2 Af f.length cf (ncells f)
section
variable {n0 fb gb tb mb ob : Nat} {Af : Option Addr} {cf : Nat} {f : List Nd} {w : World} {T : List Cov} {v : Value}
theorem GS.own_ne (h : GS n0 fb gb tb mb ob Af cf f w T v) {k t : Nat} {cs : Array Value} (hk : w.heap[k]? = some (.cells cs t (0, 0))) (ht : 57 ≠ t) : v.ownBlock ≠ some k := by
  obtain ⟨xs, ho, _⟩ := h.out
  exact own_ne_blk ho hk ht
theorem GS.mb_cells (h : GS n0 fb gb tb mb ob Af cf f w T v) {k t : Nat} {cs : Array Value} (hk : w.heap[k]? = some (.cells cs t (0, 0))) : k ≠ mb := by
  rintro rfl
  obtain ⟨D, ⟨es, clock, hb, _⟩, _⟩ := h.map
  rw [hk] at hb; cases hb
/-- What a call of the closure may turn. -/
def Tn (ob mb : Nat) (v : Value) (k : Nat) : Prop := k = ob ∨ k = mb ∨ v.ownBlock = some k
theorem GS.spares (h : GS n0 fb gb tb mb ob Af cf f w T v) {t : Nat} (h1 : 57 ≠ t) (h2 : 80 ≠ t) : Spares (Tn ob mb v) w t := by
  rintro k cs hk (rfl | rfl | hv)
  · rw [h.bo] at hk; injection hk with hk; injection hk with _ e; exact h2 e
  · exact h.mb_cells hk rfl
  · exact h.own_ne hk h1 hv
theorem GS.keep {S : Nat → Prop} {w' : World} (h : GS n0 fb gb tb mb ob Af cf f w T v) (ht : Tch S w w') (h1 : ¬ S fb) (h2 : ¬ S gb) (h3 : ¬ S tb) (h4 : ¬ S ob) (h5 : ¬ S mb) (h6 : ∀ g, v.ownBlock = some g → ¬ S g) (hi : Spares S w 3) (h0 : ∀ k, k < n0 → ¬ S k) :
    GS n0 fb gb tb mb ob Af cf f w' T v := by
  obtain ⟨xs, ho, hc⟩ := h.out
  exact ⟨ht.blk h.bf h1, ht.blk h.bg h2, ht.blk h.bt h3, ht.blk h.bo h4, h.map.keep ht h5, ⟨xs, own_tch ho ht h6, hc.keep ht hi⟩, ⟨Nat.le_trans h.lt.1 ht.size, h.lt.2⟩, h.fs.tch ht h.lt.1 h0⟩
theorem GS.below {w' : World} (h : GS n0 fb gb tb mb ob Af cf f w T v) (hb : Below w.heap.size w w') : GS n0 fb gb tb mb ob Af cf f w' T v := by
  obtain ⟨xs, ho, _⟩ := h.out
  have l1 := heap_lt h.bf
  have l2 := heap_lt h.bg
  have l3 := heap_lt h.bt
  have l4 := heap_lt h.bo
  have l5 := h.map.lt
  exact h.keep (Tch.of_below hb) (by omega) (by omega) (by omega) (by omega) (by omega) (fun g hg => by have := (ho.lt g hg).2; omega) (spares_new w _) (fun k hk => by have := h.lt.1; omega)
theorem GS.after_map {w1 : World} (h : GS n0 fb gb tb mb ob Af cf f w T v) (hg : w.grownBy w1 (some mb)) :
    (∃ xs, w1.ownsRow n0 57 4 v T.length xs ∧ CovsAt w1 xs T) ∧ ∀ {k t : Nat} {cs : Array Value}, w.heap[k]? = some (.cells cs t (0, 0)) → w1.heap[k]? = some (.cells cs t (0, 0)) := by
  have g1 : Tch (fun k => k = mb) w w1 := (Tch.of_grown hg).mono (fun i _ e => by simpa using e.symm)
  obtain ⟨xs, ho, hc⟩ := h.out
  refine ⟨⟨xs, own_tch ho g1 (fun g hg' e => ?_), hc.keep g1 (fun k cs hk e => h.mb_cells hk e)⟩, fun hk => g1.blk hk (h.mb_cells hk)⟩
  subst e
  obtain ⟨D, ⟨es, clock, hbm, _⟩, _⟩ := h.map
  rcases ho.2 with ⟨rfl, _⟩ | ⟨g0, cap, cur, rfl, _, hh, _⟩
  · simp [Value.ownBlock] at hg'
  · simp [Value.ownBlock] at hg'; subst hg'; rw [hbm] at hh; cases hh
/-- A cover is told: into the map, into the row, the row's box. -/
theorem GS.tell {w1 w2 w3 : World} {v' : Value} {c : Cov} {A1 A2 : Option Addr} {c1 c2 : Nat} (h : GS n0 fb gb tb mb ob Af cf f w T v) (hg : w.grownBy w1 (some mb)) (hm : TMap w1 mb (T ++ [c])) (hb : Below w1.heap.size w1 w2)
    (t1 : TSl w2 3 A1 (onL c.2.2.1).length c1 (icells (natI (onL c.2.2.1)))) (t2 : TSl w2 3 A2 (onL c.2.2.2).length c2 (icells (natI (onL c.2.2.2))))
    {xs : List Value} (hxs : w2.ownsRow n0 57 4 v T.length xs) (hcs : CovsAt w2 xs T)
    (ho : w3.ownsRow n0 57 4 v' (T.length + 1) (xs ++ [.int .u64 (c.1 : Int), .int .u64 (c.2.1 : Int), .slice A1 (onL c.2.2.1).length c1, .slice A2 (onL c.2.2.2).length c2])) (ht : Tch (fun k => v.ownBlock = some k) w2 w3) (hat : v'.ownBlock = v.ownBlock ∨ v'.ownBlock = some w2.heap.size) :
    GS n0 fb gb tb mb ob Af cf f (w3.setCell ⟨ob, 0, none⟩ v') (T ++ [c]) v' ∧ Tch (Tn ob mb v) w (w3.setCell ⟨ob, 0, none⟩ v') ∧ ∀ i, v'.ownBlock = some i → i < w.heap.size → v.ownBlock = some i := by
  have g1 : Tch (fun k => k = mb) w w1 := (Tch.of_grown hg).mono (fun i _ e => by simpa using e.symm)
  have lmb := h.map.lt
  have lob := heap_lt h.bo
  have z1 := g1.size
  have z2 := hb.size
  have z3 := ht.size
  have b1 : ∀ {k : Nat} {cs : Array Value} {t : Nat}, w.heap[k]? = some (.cells cs t (0, 0)) → w2.heap[k]? = some (.cells cs t (0, 0)) := fun hk =>
    (Tch.of_below hb).blk (g1.blk hk (h.mb_cells hk)) (by have := heap_lt hk; omega)
  have b2 : ∀ {k : Nat} {cs : Array Value} {t : Nat}, w.heap[k]? = some (.cells cs t (0, 0)) → 57 ≠ t → w3.heap[k]? = some (.cells cs t (0, 0)) := fun hk hne =>
    ht.blk (b1 hk) (own_ne_blk hxs (b1 hk) hne)
  have s3 : Tch (fun k => k = ob) w3 (w3.setCell ⟨ob, 0, none⟩ v') := (Tch.refl (fun k => k = ob) w3).setCell (p := ⟨ob, 0, none⟩) (fun _ => rfl) v'
  have b3 : ∀ {k : Nat} {cs : Array Value} {t : Nat}, w.heap[k]? = some (.cells cs t (0, 0)) → 57 ≠ t → k ≠ ob → (w3.setCell ⟨ob, 0, none⟩ v').heap[k]? = some (.cells cs t (0, 0)) := fun hk hne hko =>
    s3.blk (b2 hk hne) hko
  have bo3 := b2 h.bo (by decide)
  have hne : ∀ {k t : Nat} {cs : Array Value}, w.heap[k]? = some (.cells cs t (0, 0)) → 80 ≠ t → k ≠ ob := fun hk hne e => by
    subst e; rw [h.bo] at hk; injection hk with hk; injection hk with _ e; exact hne e
  have hown : ∀ i, v'.ownBlock = some i → i < w.heap.size → v.ownBlock = some i := fun i hi hlt => by
    rcases hat with e | e
    · rw [← e]; exact hi
    · rw [e] at hi; cases hi; omega
  have sp2 : Spares (fun k => v.ownBlock = some k) w2 3 := fun k cs hk => own_ne_blk hxs hk (by decide)
  have spo : Spares (fun k => k = ob) w3 3 := spares_one bo3 (by decide)
  have hvb : ∀ g, v'.ownBlock = some g → g ≠ ob := fun g hg e => by
    subst e
    exact own_ne_blk ho bo3 (by decide) hg
  refine ⟨⟨b3 h.bf (by decide) (hne h.bf (by decide)), b3 h.bg (by decide) (hne h.bg (by decide)), b3 h.bt (by decide) (hne h.bt (by decide)), ?_, ?_, ?_, ?_, ?_⟩, ?_, hown⟩
  · have := heap_setCell_same w3 ob 0 _ _ v' bo3
    simpa using this
  · refine (((hm.keep (Tch.of_below hb) (by omega)).keep ht ?_).keep s3 ?_)
    · intro e
      obtain ⟨D, ⟨es, clock, hbm, _⟩, _⟩ := hm.keep (Tch.of_below hb) (by omega)
      rcases hxs.2 with ⟨rfl, _⟩ | ⟨g, cap, cur, rfl, _, hh, _⟩
      · simp [Value.ownBlock] at e
      · simp [Value.ownBlock] at e; subst e; rw [hbm] at hh; cases hh
    · exact fun e => h.mb_cells h.bo e.symm
  · refine ⟨_, by rw [List.length_append]; exact own_tch ho s3 hvb, ?_⟩
    exact ((hcs.push (by rw [hxs.1]) c t1 t2).keep ht sp2).keep s3 spo
  · refine ⟨?_, h.lt.2⟩
    have := s3.size
    have := h.lt.1
    omega
  · have f1 := h.fs.tch g1 h.lt.1 (fun b hb' e => by have := h.lt.2.2; omega)
    have f2 := f1.below hb (by have := h.lt.1; omega)
    have f3 := f2.tch ht (by have := h.lt.1; omega) (fun b hb' e => by have := (hxs.lt b e).1; omega)
    exact f3.tch s3 (by have := h.lt.1; omega) (fun b hb' e => by have := h.lt.2.1; omega)
  · have t3 : Tch (Tn ob mb v) w w1 := g1.mono (fun i _ e => .inr (.inl e))
    have t4 : Tch (Tn ob mb v) w w2 := t3.trans (Tch.of_below hb) (fun i hi e => by omega)
    have t5 : Tch (Tn ob mb v) w w3 := t4.trans ht (fun i _ e => .inr (.inr e))
    exact t5.trans s3 (fun i _ e => .inl e)
end
end Go.Proofs.YtamhjgkigjpbhaaDoor

/- Covers that are chosen promptly: an until's right part is there as soon as it holds; untils and releases as fixpoints, node by node; plain. -/
namespace Go.Proofs.YtamhjgkigjpbhaaDoor

section
variable {bits : Int → Nat → Bool} {n lp : Nat} {f : List Nd}
/-- A node of two parts. -/
theorem bin_sat (hN : isN f = true) (_hlp : lp < n) {k : Nat} (hk : k < f.length) (ho : opAt f k = 9 ∨ opAt f k = 10) : ∃ (m : Int) (a c : Tr), a.ok ∧ c.ok ∧ (∀ i, holdsAt bits n lp f k i = sat bits n lp (.bin ⟨opAt f k, m⟩ a c) i) ∧
    (∀ i, holdsAt bits n lp f (leftOf f k) i = sat bits n lp a i) ∧ ∀ i, holdsAt bits n lp f (rightOf f k) i = sat bits n lp c i := by
  obtain ⟨t, hok, hn, rfl⟩ := isN_tree hN
  have hw := isN_good hN
  obtain ⟨b, t', hok', hn', hat', hk'⟩ := at_subN t 0 k hok hn (at_whole hok) (by omega) (by rw [t.flat_len] at hk; omega)
  have hr := (at_root hat' hk').1
  have hx' : t.flat[k]? = some t.flat[k] := List.getElem?_eq_getElem hk
  rw [hx'] at hr
  have hop : opAt t.flat k = t.flat[k].op := by simp [opAt, List.getD, hk]
  have hkids := kids_at hw hk
  have hK : ∀ i, holdsAt bits n lp t.flat k i = sat bits n lp t' i := holdsAt_sub hok' hat' hk' hk
  rw [hop] at ho ⊢
  match t', hok', hn', hat', hk', hr, hK with
  | .leaf y, ⟨h, h3⟩, hn', hat', hk', hr, hK =>
    have e : t.flat[k] = y := Option.some.inj hr
    rw [← e] at h
    rcases ho with e9 | e9 <;> rw [e9] at h <;> simp [takes] at h
  | .un y a, ⟨h, ha⟩, hn', hat', hk', hr, hK =>
    have e : t.flat[k] = y := Option.some.inj hr
    rw [← e] at h
    rcases ho with e9 | e9 <;> rw [e9] at h <;> simp [takes] at h
  | .bin y a c, ⟨h, ha, hc⟩, hn', hat', hk', hr, hK =>
    have e : t.flat[k] = y := Option.some.inj hr
    subst e
    simp only [Tr.size] at hk'
    obtain ⟨j, hj⟩ : ∃ j, j + 1 = b + a.size := ⟨b + a.size - 1, by have := a.size_pos; omega⟩
    obtain ⟨m, hm⟩ : ∃ m, m + 1 = b + a.size + c.size := ⟨b + a.size + c.size - 1, by have := c.size_pos; omega⟩
    have hc0 := c.size_pos
    have hA : ∀ i, holdsAt bits n lp t.flat j i = sat bits n lp a i := holdsAt_sub ha hat'.1 hj (by omega)
    have hC : ∀ i, holdsAt bits n lp t.flat m i = sat bits n lp c i := holdsAt_sub hc hat'.2.1 hm (by omega)
    rw [h] at hkids
    have hs := (at_root hat'.2.1 hm).2
    have hkk : kids t.flat k = ((j : Int), (m : Int)) := by
      rw [hkids, if_neg (by decide), if_pos rfl, show k - 1 = m by omega, hs]
      simp only [Option.getD_some]
      congr 1 <;> omega
    refine ⟨t.flat[k].n, a, c, ha, hc, hK, ?_, ?_⟩
    · unfold leftOf; rw [hkk]; exact hA
    · unfold rightOf; rw [hkk]; exact hC
theorem until_least (hN : isN f = true) (hlp : lp < n) {k : Nat} (hk : k < f.length) (ho : opAt f k = 9) {u : Nat → Bool} (h : ∀ i, i < n → (holdsAt bits n lp f (rightOf f k) i || (holdsAt bits n lp f (leftOf f k) i && u (nx lp n i))) = true → u i = true)
    {i : Nat} (hi : i < n) (hs : holdsAt bits n lp f k i = true) : u i = true := by
  obtain ⟨m, a, c, ha, hc, h1, h2, h3⟩ := bin_sat (bits := bits) hN hlp hk (.inl ho)
  rw [h1, ho] at hs
  exact sat_until_least hlp ha (fun i hi hh => h i hi (by rw [h2, h3]; exact hh)) hi hs
theorem rel_most (hN : isN f = true) (hlp : lp < n) {k : Nat} (hk : k < f.length) (ho : opAt f k = 10) {u : Nat → Bool} (h : ∀ i, i < n → u i = true → (holdsAt bits n lp f (rightOf f k) i && (holdsAt bits n lp f (leftOf f k) i || u (nx lp n i))) = true)
    {i : Nat} (hi : i < n) (hu : u i = true) : holdsAt bits n lp f k i = true := by
  obtain ⟨m, a, c, ha, hc, h1, h2, h3⟩ := bin_sat (bits := bits) hN hlp hk (.inr ho)
  rw [h1, ho]
  exact sat_rel_most hlp ha hc (fun i hi hh => by have := h i hi hh; rw [h2, h3] at this; exact this) hi hu
/-- What is chosen promptly: of an until whose right part holds, it is there. -/
def Prompt (bits : Int → Nat → Bool) (n lp : Nat) (f : List Nd) (i : Nat) (w : Way) : Prop :=
  ∀ u, opAt f u = 9 → w.now.getD u false = true → holdsAt bits n lp f (rightOf f u) i = true → w.now.getD (rightOf f u) false = true ∨ rightOf f u ∈ w.todo
/-- If all of a way's parts hold, one of its ends fits, and is prompt. -/
theorem complete2 (hN : isN f = true) (hlp : lp < n) {i : Nat} (hi : i < n) : ∀ (k : Nat) (w : Way), WOk f w → cntF w.now < k → Fits bits n lp f i w → Prompt bits n lp f i w →
    ∃ y ∈ leaves f k w, Fits bits n lp f i y ∧ ∀ u, opAt f u = 9 → y.now.getD u false = true → holdsAt bits n lp f (rightOf f u) i = true → y.now.getD (rightOf f u) false = true := by
  have hk := kidsOk_of hN
  intro k
  induction k with
  | zero => intro w _ h; omega
  | succ k ih =>
    intro w hw hc hf hpr
    unfold leaves
    cases hs : skipL w.now w.todo with
    | nil => exact ⟨w, by simp, hf, fun u h1 h2 h3 => (hpr u h1 h2 h3).elim id (skip_nil hs _)⟩
    | cons j t =>
      obtain ⟨hm, hcnt, hj⟩ := made_ok hw hs
      obtain ⟨_, hj2, ht⟩ := skip_head hs
      have hl : j < w.now.length := by rw [hw.now]; exact hj
      have hH := hf.2.2 j hj2
      have hA := ask_eq (bits := bits) hN hlp hj hi
      have hb : Fits bits n lp f i (w.made j t) := ⟨hf.1, hf.2.1, fun y hy => hf.2.2 y (ht y hy)⟩
      have hwith : ∀ (v : Way) (l : List Nat), Fits bits n lp f i v → (∀ y ∈ l, holdsAt bits n lp f y i = true) → Fits bits n lp f i (v.with_ l) := fun v l hv hl =>
        ⟨hv.1, hv.2.1, fun y hy => (List.mem_append.1 hy).elim (hl y) (hv.2.2 y)⟩
      have how : ∀ (v : Way) (p : Nat), Fits bits n lp f i v → holdsAt bits n lp f p (nx lp n i) = true → Fits bits n lp f i (v.owing p) := fun v p hv hp =>
        ⟨hv.1, fun y hy => (set_getD hy).elim (fun e => e ▸ hp) (hv.2.1 y), hv.2.2⟩
      suffices hx : ∃ x ∈ splitW f j (w.made j t), Fits bits n lp f i x ∧ (opAt f j = 9 → holdsAt bits n lp f (rightOf f j) i = true → rightOf f j ∈ x.todo) by
        obtain ⟨x, hx, hxf, hxp⟩ := hx
        obtain ⟨hxo, hxn⟩ := split_ok hk hj hm x hx
        obtain ⟨_, k2, _⟩ := split_keeps x hx
        have hnow : ∀ y, w.now.getD y false = true → x.now.getD y false = true := by
          intro y hy
          rw [hxn]
          simp only [Way.made]
          rw [List.getD_eq_getElem?_getD, List.getElem?_set]
          by_cases e' : j = y
          · subst e'; simp [hl]
          · rw [if_neg e', ← List.getD_eq_getElem?_getD]; exact hy
        have hpx : Prompt bits n lp f i x := by
          intro u h1 h2 h3
          rw [hxn] at h2
          rcases set_getD (l := w.now) h2 with rfl | h2
          · exact .inr (hxp h1 h3)
          · rcases hpr u h1 h2 h3 with h | h
            · exact .inl (hnow _ h)
            · rcases skip_mem hs _ h with h | h | h
              · exact .inl (hnow _ h)
              · rw [h, hxn]; exact .inl (set_self hl)
              · exact .inr (k2 _ h)
        obtain ⟨y, hy, hyf, hyp⟩ := ih x hxo (by rw [hxn]; omega) hxf hpx
        exact ⟨y, List.mem_flatMap.2 ⟨x, hx, hy⟩, hyf, hyp⟩
      unfold splitW
      rcases hA.op with e | e | e | e | e | e | e | e | e
      · exact ⟨_, by rw [if_pos e]; simp, hb, fun h => by omega⟩
      · rw [hA.fls e] at hH; cases hH
      · have hr : Reads bits (w.need ||| 2 ^ nAt f j) w.ban i := ⟨fun p hp => by
          rw [Nat.testBit_or, Bool.or_eq_true, Nat.testBit_two_pow] at hp
          rcases hp with hp | hp
          · exact hf.1.1 p hp
          · have : nAt f j = p := by simpa using hp
            rw [← this, ← hA.prop e]; exact hH, hf.1.2⟩
        refine ⟨{ w.made j t with need := w.need ||| 2 ^ nAt f j }, ?_, ⟨hr, hb.2.1, hb.2.2⟩, fun h => by omega⟩
        rw [if_neg (by omega), if_pos e]
        exact mem_finW (u := { w.made j t with need := w.need ||| 2 ^ nAt f j }) (reads_apart hr)
      · have hr : Reads bits w.need (w.ban ||| 2 ^ nAt f (j - 1)) i := ⟨hf.1.1, fun p hp => by
          rw [Nat.testBit_or, Bool.or_eq_true, Nat.testBit_two_pow] at hp
          rcases hp with hp | hp
          · exact hf.1.2 p hp
          · have : nAt f (j - 1) = p := by simpa using hp
            rw [hA.not_ e, this] at hH
            simpa using hH⟩
        refine ⟨{ w.made j t with ban := w.ban ||| 2 ^ nAt f (j - 1) }, ?_, ⟨hr, hb.2.1, hb.2.2⟩, fun h => by omega⟩
        rw [if_neg (by omega), if_neg (by omega), if_pos e]
        exact mem_finW (u := { w.made j t with ban := w.ban ||| 2 ^ nAt f (j - 1) }) (reads_apart hr)
      · rw [hA.and_ e, Bool.and_eq_true] at hH
        refine ⟨_, by rw [if_neg (by omega), if_neg (by omega), if_neg (by omega), if_pos e]; exact List.mem_singleton.2 rfl, hwith _ _ hb (fun y hy => ?_), fun h => by omega⟩
        simp only [List.mem_cons, List.not_mem_nil, or_false] at hy
        rcases hy with rfl | rfl
        · exact hH.1
        · exact hH.2
      · rw [hA.or_ e, Bool.or_eq_true] at hH
        rcases hH with hH | hH
        · refine ⟨_, by rw [if_neg (by omega), if_neg (by omega), if_neg (by omega), if_neg (by omega), if_pos e]; exact List.mem_cons_self .., hwith _ _ hb (fun y hy => by rw [List.mem_singleton] at hy; subst hy; exact hH), fun h => by omega⟩
        · refine ⟨_, by rw [if_neg (by omega), if_neg (by omega), if_neg (by omega), if_neg (by omega), if_pos e]; exact List.mem_cons_of_mem _ (List.mem_cons_self ..), hwith _ _ hb (fun y hy => by rw [List.mem_singleton] at hy; subst hy; exact hH), fun h => by omega⟩
      · rw [hA.next e] at hH
        exact ⟨_, by rw [if_neg (by omega), if_neg (by omega), if_neg (by omega), if_neg (by omega), if_neg (by omega), if_pos e]; exact List.mem_singleton.2 rfl, how _ _ hb hH, fun h => by omega⟩
      · rw [hA.until_ e, Bool.or_eq_true, Bool.and_eq_true] at hH
        by_cases hR : holdsAt bits n lp f (rightOf f j) i = true
        · refine ⟨_, by rw [if_neg (by omega), if_neg (by omega), if_neg (by omega), if_neg (by omega), if_neg (by omega), if_neg (by omega), if_pos e]; exact List.mem_cons_self .., hwith _ _ hb (fun y hy => by rw [List.mem_singleton] at hy; subst hy; exact hR), fun _ _ => by simp [Way.with_]⟩
        · obtain ⟨h1, h2⟩ := hH.resolve_left hR
          refine ⟨_, by rw [if_neg (by omega), if_neg (by omega), if_neg (by omega), if_neg (by omega), if_neg (by omega), if_neg (by omega), if_pos e]; exact List.mem_cons_of_mem _ (List.mem_cons_self ..), how _ _ (hwith _ _ hb (fun y hy => by rw [List.mem_singleton] at hy; subst hy; exact h1)) h2, fun _ h => absurd h hR⟩
      · rw [hA.rel e, Bool.and_eq_true, Bool.or_eq_true] at hH
        obtain ⟨h1, h2 | h2⟩ := hH
        · refine ⟨_, by rw [if_neg (by omega), if_neg (by omega), if_neg (by omega), if_neg (by omega), if_neg (by omega), if_neg (by omega), if_neg (by omega), if_pos e]; exact List.mem_cons_self .., hwith _ _ hb (fun y hy => ?_), fun h => by omega⟩
          simp only [List.mem_cons, List.not_mem_nil, or_false] at hy
          rcases hy with rfl | rfl
          · exact h2
          · exact h1
        · refine ⟨_, by rw [if_neg (by omega), if_neg (by omega), if_neg (by omega), if_neg (by omega), if_neg (by omega), if_neg (by omega), if_neg (by omega), if_pos e]; exact List.mem_cons_of_mem _ (List.mem_cons_self ..), how _ _ (hwith _ _ hb (fun y hy => by rw [List.mem_singleton] at hy; subst hy; exact h1)) h2, fun h => by omega⟩
/-- A cover that fits, and is prompt. -/
def FitsP (bits : Int → Nat → Bool) (n lp : Nat) (f : List Nd) (i : Nat) (c : Cov) : Prop :=
  FitsC bits n lp f i c ∧ ∀ u, opAt f u = 9 → c.2.2.2.getD u false = true → holdsAt bits n lp f (rightOf f u) i = true → c.2.2.2.getD (rightOf f u) false = true
theorem covers_prompt (hN : isN f = true) (hlp : lp < n) {i : Nat} (hi : i < n) {parts : List Nat} (hp : ∀ x ∈ parts, x < f.length) (h : ∀ x ∈ parts, holdsAt bits n lp f x i = true) : ∃ c ∈ coversL f parts, FitsP bits n lp f i c := by
  obtain ⟨y, hy, ⟨h1, h2, _⟩, h4⟩ := complete2 hN hlp hi (f.length + 1) (startW f.length parts) (startW_ok hp) (startW_cnt _ _) ⟨⟨fun p hp => by simp [startW] at hp, fun p hp => by simp [startW] at hp⟩, (fun j hj => by
      simp only [startW, List.getD_eq_getElem?_getD, List.getElem?_replicate] at hj
      split at hj <;> cases hj), h⟩ (fun u _ h2 => by
      simp only [startW, List.getD_eq_getElem?_getD, List.getElem?_replicate] at h2
      split at h2 <;> cases h2)
  exact ⟨y.cov, (onceC_mem _ _ _).2 (.inr (List.mem_map.2 ⟨y, hy, rfl⟩)), ⟨h1, h2⟩, h4⟩
/-- What a cover's Now leaves behind. -/
theorem covers_obl (hN : isN f = true) {parts : List Nat} (hp : ∀ x ∈ parts, x < f.length) {c : Cov} (hc : c ∈ coversL f parts) : ∀ j, c.2.2.2.getD j false = true → Obl f c.1 c.2.1 c.2.2.1 (fun p => c.2.2.2.getD p false = true) j := by
  rcases (onceC_mem _ _ _).1 hc with hc | hc
  · cases hc
  · obtain ⟨y, hy, rfl⟩ := List.mem_map.1 hc
    exact leaf_closed (kidsOk_of hN) _ _ (startW_ok hp) y hy (fun j hj => by
      simp only [startW, List.getD_eq_getElem?_getD, List.getElem?_replicate] at hj
      split at hj <;> cases hj)
end
end Go.Proofs.YtamhjgkigjpbhaaDoor
