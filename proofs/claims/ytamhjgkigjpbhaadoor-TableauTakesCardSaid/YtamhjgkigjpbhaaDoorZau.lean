/- Texts that stand one behind the other, in one file. -/
import Derived.Test.YtamhjgkigjpbhaaDoorZat
import Derived.Test.YtamhjgkigjpbhaaDoorZag

/- The automaton of a formula takes just the words that satisfy it (layer 29); plain. -/
namespace Go.Proofs.YtamhjgkigjpbhaaDoor

/-- A way of steps. -/
inductive LeadP (R : Nat × Nat → Nat × Nat → Prop) : Nat × Nat → Nat × Nat → Prop
  | refl (a : Nat × Nat) : LeadP R a a
  | step {a b c : Nat × Nat} : R a b → LeadP R b c → LeadP R a c
/-- Covers L, numbered, with what each leads to (rows), and those that come first. -/
structure TabOk (f : List Nd) (L : List Cov) (rows : List (List Nat)) (init : List Nat) : Prop where
  len : rows.length = L.length
  init_all : ∀ c ∈ coversL f [f.length - 1], ∃ q ∈ init, L[q]? = some c
  init_ok : ∀ q ∈ init, ∃ c ∈ coversL f [f.length - 1], L[q]? = some c
  row_all : ∀ q c, L[q]? = some c → ∀ c' ∈ coversL f (onL c.2.2.1), ∃ q' ∈ rows.getD q [], L[q']? = some c'
  row_ok : ∀ q c, L[q]? = some c → ∀ q' ∈ rows.getD q [], ∃ c' ∈ coversL f (onL c.2.2.1), L[q']? = some c'
  cov : ∀ c ∈ L, ∃ ps : List Nat, (∀ x ∈ ps, x < f.length) ∧ c ∈ coversL f ps
/-- Which until of a formula is which. -/
def owesNot (c : Cov) (u : Nat) : Prop := c.2.2.2.getD u false = true → c.2.2.2.getD (u - 1) false = true
section
variable {bits : Int → Nat → Bool} {n lp : Nat} {f : List Nd} {L : List Cov} {rows : List (List Nat)} {init : List Nat}
theorem right_until (hN : isN f = true) {u : Nat} (hu : u < f.length) (ho : opAt f u = 9) : rightOf f u = u - 1 ∧ 1 ≤ u := by
  obtain ⟨l, r, h⟩ := node_eq (bits := fun _ _ => false) (n := 1) (lp := 0) hN (by omega) (at_of hu)
  obtain ⟨a, _, _, b⟩ := h.kid2 (.inr (.inr (.inl ho)))
  unfold rightOf; rw [a]; simp; omega
/-- A step: a place on, to a node that is led to. -/
def Stp (n lp : Nat) (rows : List (List Nat)) (Z : Nat → Nat → Prop) (a b : Nat × Nat) : Prop := Z a.1 a.2 ∧ Z b.1 b.2 ∧ b.1 ∈ rows.getD a.1 [] ∧ b.2 = nx lp n a.2
/-- What a greatest fixpoint of nodes at places has. -/
structure ZOk (bits : Int → Nat → Bool) (n lp : Nat) (f : List Nd) (L : List Cov) (rows : List (List Nat)) (Z : Nat → Nat → Prop) : Prop where
  pl : ∀ q k, Z q k → k < n
  nd : ∀ q k, Z q k → ∃ c, L[q]? = some c ∧ Reads bits c.1 c.2.1 k
  any : ∀ q k, Z q k → ∃ b, Stp n lp rows Z (q, k) b
  met : ∀ q k, Z q k → ∀ u, u < f.length → opAt f u = 9 → ∃ b d : Nat × Nat, Stp n lp rows Z (q, k) b ∧ LeadP (Stp n lp rows Z) b d ∧ ∃ c, L[d.1]? = some c ∧ owesNot c u
theorem now_len (hN : isN f = true) (hT : TabOk f L rows init) {q : Nat} {c : Cov} (hq : L[q]? = some c) : c.2.2.1.length = f.length ∧ c.2.2.2.length = f.length := by
  obtain ⟨ps, h1, h2⟩ := hT.cov c (List.mem_of_getElem? hq)
  obtain ⟨_, _, a, b⟩ := (coversL_rises (kidsOk_of hN) h1).2 c h2
  exact ⟨a, b⟩
theorem next_lt (hN : isN f = true) (hT : TabOk f L rows init) {q : Nat} {c : Cov} (hq : L[q]? = some c) : ∀ x ∈ onL c.2.2.1, x < f.length := fun x hx => by
  unfold onL at hx
  have := List.mem_range.1 (List.mem_filter.1 hx).1
  rw [(now_len hN hT hq).1] at this; exact this
/-- What is read along a way that lasts holds. -/
theorem tab_sound (hN : isN f = true) (hlp : lp < n) (hT : TabOk f L rows init) {Z : Nat → Nat → Prop} (hZ : ZOk bits n lp f L rows Z) :
    ∀ (j : Nat) (q k : Nat) (c : Cov), Z q k → L[q]? = some c → c.2.2.2.getD j false = true → holdsAt bits n lp f j k = true := by
  have hk := kidsOk_of hN
  -- what is left for the next place is there
  have hnext : ∀ {q k : Nat} {c : Cov} {b : Nat × Nat}, L[q]? = some c → Stp n lp rows Z (q, k) b → ∃ c', L[b.1]? = some c' ∧ ∀ x, c.2.2.1.getD x false = true → c'.2.2.2.getD x false = true := by
    intro q k c b hq hs
    obtain ⟨c', hc', hb⟩ := hT.row_ok q c hq b.1 hs.2.2.1
    exact ⟨c', hb, fun x hx => ((coversL_rises hk (next_lt hN hT hq)).2 c' hc').2.1 x (onL_mem.2 hx)⟩
  intro j
  induction j using Nat.strongRecOn with
  | _ j ih =>
    intro q k c hz hq hj
    have hkn := hZ.pl q k hz
    obtain ⟨ps, hp1, hp2⟩ := hT.cov c (List.mem_of_getElem? hq)
    have hlen := now_len hN hT hq
    have hjl : j < f.length := by
      rw [← hlen.2]
      rw [List.getD_eq_getElem?_getD] at hj
      by_cases h : j < c.2.2.2.length
      · exact h
      · rw [List.getElem?_eq_none (by omega)] at hj; cases hj
    have hA := ask_eq (bits := bits) hN hlp hjl hkn
    obtain ⟨q2, q1⟩ := hk j hjl
    have hO := covers_obl hN hp1 hp2 j hj
    obtain ⟨c0, hc0, hrd⟩ := hZ.nd q k hz
    rw [hq] at hc0
    cases hc0
    by_cases h9 : opAt f j = 9
    · -- an until
      obtain ⟨a, b⟩ := q2 (.inr (.inr (.inl h9)))
      obtain ⟨hr1, hj1⟩ := right_until hN hjl h9
      obtain ⟨s, d, hs, hl, cd, hcd, how⟩ := hZ.met q k hz j hjl h9
      have hgo : ∀ {x d : Nat × Nat}, LeadP (Stp n lp rows Z) x d → (∃ c, L[d.1]? = some c ∧ owesNot c j) → Z x.1 x.2 → ∀ c, L[x.1]? = some c → c.2.2.2.getD j false = true → holdsAt bits n lp f j x.2 = true := by
        intro x d hl
        induction hl with
        | refl x =>
          rintro ⟨c', hc', how⟩ hz' c hc hj'
          rw [hc] at hc'; cases hc'
          have h1 := how hj'
          rw [(ask_eq (bits := bits) hN hlp hjl (hZ.pl _ _ hz')).until_ h9, ih _ b x.1 x.2 _ hz' hc (by rw [hr1]; exact h1)]; rfl
        | @step x y d r _ ihl =>
          intro hd hz' c hc hj'
          obtain ⟨ps', hp1', hp2'⟩ := hT.cov c (List.mem_of_getElem? hc)
          have hO' := covers_obl hN hp1' hp2' j hj'
          rw [(ask_eq (bits := bits) hN hlp hjl (hZ.pl _ _ hz')).until_ h9]
          have hh : c.2.2.2.getD (rightOf f j) false = true ∨ (c.2.2.2.getD (leftOf f j) false = true ∧ c.2.2.1.getD j false = true) := by
            rcases hO' with e | ⟨e, _⟩ | ⟨e, _⟩ | ⟨e, _⟩ | ⟨e, _⟩ | ⟨e, _⟩ | ⟨_, h⟩ | ⟨e, _⟩ <;> first | exact h | (rw [h9] at e; cases e)
          rcases hh with h | ⟨h1, h2⟩
          · rw [ih _ b x.1 x.2 c hz' hc h]; rfl
          · obtain ⟨c', hc', hn⟩ := hnext (q := x.1) (k := x.2) hc r
            have := ihl hd r.2.1 c' hc' (hn j h2)
            rw [r.2.2.2] at this
            rw [ih _ a x.1 x.2 c hz' hc h1, this]; simp
      exact hgo (.step hs hl) ⟨cd, hcd, how⟩ hz c hq hj
    by_cases h10 : opAt f j = 10
    · -- a release
      obtain ⟨a, b⟩ := q2 (.inr (.inr (.inr h10)))
      have := Classical.propDecidable
      refine rel_most hN hlp hjl h10 (u := fun i => decide (∃ q c, Z q i ∧ L[q]? = some c ∧ c.2.2.2.getD j false = true)) (fun i hi hu => ?_) hkn (decide_eq_true ⟨q, c, hz, hq, hj⟩)
      obtain ⟨q', c', hz', hq', hj'⟩ := of_decide_eq_true hu
      obtain ⟨ps', hp1', hp2'⟩ := hT.cov c' (List.mem_of_getElem? hq')
      have hO' := covers_obl hN hp1' hp2' j hj'
      have hh : (c'.2.2.2.getD (leftOf f j) false = true ∧ c'.2.2.2.getD (rightOf f j) false = true) ∨ (c'.2.2.2.getD (rightOf f j) false = true ∧ c'.2.2.1.getD j false = true) := by
        rcases hO' with e | ⟨e, _⟩ | ⟨e, _⟩ | ⟨e, _⟩ | ⟨e, _⟩ | ⟨e, _⟩ | ⟨e, _⟩ | ⟨_, h⟩ <;> first | exact h | (rw [h10] at e; cases e)
      rcases hh with ⟨h1, h2⟩ | ⟨h1, h2⟩
      · rw [ih _ b q' i c' hz' hq' h2, ih _ a q' i c' hz' hq' h1]; rfl
      · obtain ⟨s, hs⟩ := hZ.any q' i hz'
        obtain ⟨c2, hc2, hn⟩ := hnext (k := i) hq' hs
        have hU : decide (∃ q c, Z q (nx lp n i) ∧ L[q]? = some c ∧ c.2.2.2.getD j false = true) = true := decide_eq_true ⟨s.1, c2, by rw [← hs.2.2.2]; exact hs.2.1, hc2, hn j h2⟩
        rw [ih _ b q' i c' hz' hq' h1, hU]; simp
    rcases hO with e | ⟨e, h⟩ | ⟨e, h⟩ | ⟨e, h, k'⟩ | ⟨e, h⟩ | ⟨e, h⟩ | ⟨e, h⟩ | ⟨e, h⟩
    · exact hA.tru e
    · rw [hA.prop e]; exact hrd.1 _ h
    · rw [hA.not_ e, hrd.2 _ h]; rfl
    · obtain ⟨a, b⟩ := q2 (.inl e); rw [hA.and_ e, ih _ a q k c hz hq h, ih _ b q k c hz hq k']; rfl
    · obtain ⟨a, b⟩ := q2 (.inr (.inl e))
      rw [hA.or_ e]
      rcases h with h | h
      · rw [ih _ a q k c hz hq h]; rfl
      · rw [ih _ b q k c hz hq h, Bool.or_true]
    · obtain ⟨s, hs⟩ := hZ.any q k hz
      obtain ⟨c2, hc2, hn⟩ := hnext (k := k) hq hs
      rw [hA.next e, ← show s.2 = nx lp n k from hs.2.2.2]
      exact ih _ (q1 e) s.1 s.2 c2 hs.2.1 hc2 (hn _ h)
    · exact absurd e h9
    · exact absurd e h10
/-- The nodes that fit where they stand, and are prompt. -/
def FitZ (bits : Int → Nat → Bool) (n lp : Nat) (f : List Nd) (L : List Cov) (q k : Nat) : Prop := k < n ∧ ∃ c, L[q]? = some c ∧ FitsP bits n lp f k c ∧ ∀ j, c.2.2.2.getD j false = true → holdsAt bits n lp f j k = true
theorem fit_next (hN : isN f = true) (hlp : lp < n) (hT : TabOk f L rows init) {q k : Nat} (h : FitZ bits n lp f L q k) : ∃ b, Stp n lp rows (FitZ bits n lp f L) (q, k) b := by
  obtain ⟨hk, c, hq, hf, hh⟩ := h
  obtain ⟨c', hc', hf'⟩ := covers_prompt (bits := bits) hN hlp (nx_lt hlp (i := k)) (next_lt hN hT hq) (fun x hx => hf.1.2 x (onL_mem.1 hx))
  obtain ⟨q', hq', hL⟩ := hT.row_all q c hq c' hc'
  exact ⟨(q', nx lp n k), ⟨hk, c, hq, hf, hh⟩, ⟨nx_lt hlp, c', hL, hf', (covers_sound hN hlp (nx_lt hlp) (next_lt hN hT hq) hc' hf'.1).1⟩, hq', rfl⟩
theorem fit_zok (hN : isN f = true) (hlp : lp < n) (hT : TabOk f L rows init) : ZOk bits n lp f L rows (FitZ bits n lp f L) := by
  refine ⟨fun q k h => h.1, fun q k ⟨_, c, hq, hf, _⟩ => ⟨c, hq, hf.1.1⟩, fun q k h => fit_next hN hlp hT h, fun q k h u hu ho => ?_⟩
  have := Classical.propDecidable
  obtain ⟨hr1, _⟩ := right_until hN hu ho
  have key : ∀ q k, FitZ bits n lp f L q k → ∃ d : Nat × Nat, LeadP (Stp n lp rows (FitZ bits n lp f L)) (q, k) d ∧ ∃ c, L[d.1]? = some c ∧ owesNot c u := by
    intro q k h
    by_cases hh : holdsAt bits n lp f u k = true
    · have := until_least (bits := bits) hN hlp hu ho (u := fun i => decide (∀ q, FitZ bits n lp f L q i → ∃ d : Nat × Nat, LeadP (Stp n lp rows (FitZ bits n lp f L)) (q, i) d ∧ ∃ c, L[d.1]? = some c ∧ owesNot c u)) (fun i hi hor => by
        refine decide_eq_true (fun q hz => ?_)
        rw [Bool.or_eq_true, Bool.and_eq_true] at hor
        rcases hor with hR | ⟨_, hX⟩
        · obtain ⟨_, c, hq, hf, _⟩ := hz
          exact ⟨(q, i), .refl _, c, hq, fun hnow => by have := hf.2 u ho hnow hR; rwa [hr1] at this⟩
        · obtain ⟨b, hb⟩ := fit_next hN hlp hT hz
          obtain ⟨d, hd, hc⟩ := of_decide_eq_true hX b.1 (by rw [← show b.2 = nx lp n i from hb.2.2.2]; exact hb.2.1)
          rw [← show b.2 = nx lp n i from hb.2.2.2] at hd
          exact ⟨d, .step hb hd, hc⟩) h.1 hh
      exact of_decide_eq_true this q h
    · obtain ⟨_, c, hq, _, hn⟩ := id h
      exact ⟨(q, k), .refl _, c, hq, fun hnow => absurd (hn u hnow) hh⟩
  obtain ⟨b, hb⟩ := fit_next hN hlp hT h
  obtain ⟨d, hd, hc⟩ := key b.1 b.2 hb.2.1
  exact ⟨b, d, hb, hd, hc⟩
/-- A first node that fits where the word begins. -/
theorem tab_first (hN : isN f = true) (hlp : lp < n) (hT : TabOk f L rows init) (hf : 0 < f.length) (h : holdsAt bits n lp f (f.length - 1) 0 = true) : ∃ q ∈ init, FitZ bits n lp f L q 0 := by
  have hp : ∀ x ∈ [f.length - 1], x < f.length := fun x hx => by simp at hx; omega
  obtain ⟨c, hc, hfp⟩ := covers_prompt (bits := bits) hN hlp (i := 0) (by omega) hp (fun x hx => by simp at hx; rw [hx]; exact h)
  obtain ⟨q, hq, hL⟩ := hT.init_all c hc
  exact ⟨q, hq, by omega, c, hL, hfp, (covers_sound hN hlp (by omega) hp hc hfp.1).1⟩
theorem tab_root (hN : isN f = true) (hlp : lp < n) (hT : TabOk f L rows init) (hf : 0 < f.length) {Z : Nat → Nat → Prop} (hZ : ZOk bits n lp f L rows Z) {q : Nat} (hq : q ∈ init) (hz : Z q 0) : holdsAt bits n lp f (f.length - 1) 0 = true := by
  have hp : ∀ x ∈ [f.length - 1], x < f.length := fun x hx => by simp at hx; omega
  obtain ⟨c, hc, hL⟩ := hT.init_ok q hq
  exact tab_sound hN hlp hT hZ (f.length - 1) q 0 c hz hL (((coversL_rises (kidsOk_of hN) hp).2 c hc).2.1 _ (by simp))
end
end Go.Proofs.YtamhjgkigjpbhaaDoor

/- How the covers of a formula are numbered (layer 29); plain. -/
namespace Go.Proofs.YtamhjgkigjpbhaaDoor

/-- The numbers of covers. -/
def rowL (L cs : List Cov) : List Nat := cs.map (fun c => L.idxOf c)
/-- Go on with the covers that were not gone on with; none: there are too many. -/
def tabIt (f : List Nd) : Nat → List Cov → List (List Nat) → Option (List Cov × List (List Nat))
  | 0, _, _ => none
  | k + 1, L, rows =>
    if rows.length < L.length then
      if 256 < (onceC (coversL f (onL (L.getD rows.length (0, 0, [], [])).2.2.1)) L).length then none
      else tabIt f k (onceC (coversL f (onL (L.getD rows.length (0, 0, [], [])).2.2.1)) L) (rows ++ [rowL (onceC (coversL f (onL (L.getD rows.length (0, 0, [], [])).2.2.1)) L) (coversL f (onL (L.getD rows.length (0, 0, [], [])).2.2.1))])
    else some (L, rows)
def firstL (f : List Nd) : List Cov := coversL f [f.length - 1]
/-- The covers, with what each leads to. -/
def tabL (f : List Nd) : Option (List Cov × List (List Nat)) := if 256 < (firstL f).length then none else tabIt f 257 (firstL f) []
theorem onceC_pre (cs : List Cov) : ∀ L : List Cov, ∃ m, onceC cs L = L ++ m := by
  induction cs with
  | nil => intro L; exact ⟨[], by simp [onceC]⟩
  | cons c cs ih =>
    intro L
    obtain ⟨m, hm⟩ := ih (addC L c)
    show ∃ m, onceC cs (addC L c) = L ++ m
    rw [hm]
    unfold addC
    split
    · exact ⟨m, rfl⟩
    · exact ⟨[c] ++ m, by simp⟩
theorem idx_get {L : List Cov} {c : Cov} (h : c ∈ L) : L[L.idxOf c]? = some c := by
  have hl := List.idxOf_lt_length_of_mem h
  rw [List.getElem?_eq_getElem hl, List.getElem_idxOf]
/-- What is kept: what was gone on with leads where it should. -/
structure TabInv (f : List Nd) (L : List Cov) (rows : List (List Nat)) : Prop where
  nodup : L.Nodup
  le : rows.length ≤ L.length
  cov : ∀ c ∈ L, ∃ ps : List Nat, (∀ x ∈ ps, x < f.length) ∧ c ∈ coversL f ps
  row : ∀ q c, q < rows.length → L[q]? = some c → rows.getD q [] = rowL L (coversL f (onL c.2.2.1)) ∧ ∀ c' ∈ coversL f (onL c.2.2.1), c' ∈ L
  first : ∃ m, L = firstL f ++ m
theorem rowL_pre {L m cs : List Cov} (h : ∀ c ∈ cs, c ∈ L) : rowL (L ++ m) cs = rowL L cs :=
  List.map_congr_left (fun c hc => by rw [List.idxOf_append, if_pos (h c hc)])
theorem next_ltC {f : List Nd} (hN : isN f = true) {c : Cov} (h : ∃ ps : List Nat, (∀ x ∈ ps, x < f.length) ∧ c ∈ coversL f ps) : ∀ x ∈ onL c.2.2.1, x < f.length := fun x hx => by
  obtain ⟨ps, h1, h2⟩ := h
  obtain ⟨_, _, a, _⟩ := (coversL_rises (kidsOk_of hN) h1).2 c h2
  unfold onL at hx
  have := List.mem_range.1 (List.mem_filter.1 hx).1
  rw [a] at this; exact this
theorem TabInv.step {f : List Nd} (hN : isN f = true) {L : List Cov} {rows : List (List Nat)} (h : TabInv f L rows) (hlt : rows.length < L.length) :
    TabInv f (onceC (coversL f (onL (L.getD rows.length (0, 0, [], [])).2.2.1)) L) (rows ++ [rowL (onceC (coversL f (onL (L.getD rows.length (0, 0, [], [])).2.2.1)) L) (coversL f (onL (L.getD rows.length (0, 0, [], [])).2.2.1))]) := by
  have hg : L.getD rows.length (0, 0, [], []) = L[rows.length] := by simp [List.getD, hlt]
  rw [hg]
  have hcm := h.cov L[rows.length] (List.getElem_mem hlt)
  have hnx := next_ltC hN hcm
  generalize hcs : coversL f (onL L[rows.length].2.2.1) = cs
  obtain ⟨m, hm⟩ := onceC_pre cs L
  have hmem : ∀ c ∈ cs, c ∈ onceC cs L := fun c hc => (onceC_mem _ _ _).2 (.inr hc)
  refine ⟨onceC_nodup _ _ h.nodup, ?_, fun c hc => ?_, fun q c hq hc => ?_, ?_⟩
  · rw [hm, List.length_append, List.length_append, List.length_singleton]; omega
  · rcases (onceC_mem _ _ _).1 hc with hc | hc
    · exact h.cov c hc
    · exact ⟨_, hnx, by rw [hcs]; exact hc⟩
  · rw [List.length_append, List.length_singleton] at hq
    by_cases hql : q < rows.length
    · have hc' : L[q]? = some c := by
        rw [hm, List.getElem?_append_left (by omega)] at hc; exact hc
      obtain ⟨e1, e2⟩ := h.row q c hql hc'
      refine ⟨?_, fun c' hc'' => (onceC_mem _ _ _).2 (.inl (e2 c' hc''))⟩
      rw [List.getD_eq_getElem?_getD, List.getElem?_append_left hql, ← List.getD_eq_getElem?_getD, e1, hm, rowL_pre e2]
    · have hqe : q = rows.length := by omega
      subst hqe
      have hc' : c = L[rows.length] := by
        rw [hm, List.getElem?_append_left hlt, List.getElem?_eq_getElem hlt] at hc
        injection hc with hc; exact hc.symm
      subst hc'
      rw [hcs]
      refine ⟨?_, hmem⟩
      rw [List.getD_eq_getElem?_getD, List.getElem?_append_right (Nat.le_refl _)]; simp
  · obtain ⟨m0, hm0⟩ := h.first
    exact ⟨m0 ++ m, by rw [hm, hm0, List.append_assoc]⟩
theorem tabIt_inv {f : List Nd} (hN : isN f = true) : ∀ (k : Nat) (L : List Cov) (rows : List (List Nat)), TabInv f L rows → ∀ L' rows', tabIt f k L rows = some (L', rows') → TabInv f L' rows' ∧ rows'.length = L'.length
  | 0, _, _, _, _, _, h => by cases h
  | k + 1, L, rows, hi, L', rows', h => by
    unfold tabIt at h
    split at h
    · next hlt =>
      split at h
      · cases h
      · exact tabIt_inv hN k _ _ (hi.step hN hlt) L' rows' h
    · next hlt =>
      injection h with h
      injection h with h1 h2
      subst h1; subst h2
      exact ⟨hi, by have := hi.le; omega⟩
theorem firstL_inv {f : List Nd} (hN : isN f = true) (hf : 0 < f.length) : TabInv f (firstL f) [] := by
  have hp : ∀ x ∈ [f.length - 1], x < f.length := fun x hx => by simp at hx; omega
  exact ⟨(coversL_rises (kidsOk_of hN) hp).1, by simp, fun c hc => ⟨_, hp, hc⟩, fun q c hq => by simp at hq, ⟨[], by simp⟩⟩
/-- The numbers of those that come first: 0, 1, .. -/
theorem idx_range {L : List Cov} (h : L.Nodup) (m : List Cov) : rowL (L ++ m) L = List.range L.length := by
  rw [rowL_pre (fun c hc => hc)]
  refine List.ext_getElem (by simp [rowL]) (fun i h1 h2 => ?_)
  have hi : i < L.length := by simpa [rowL] using h1
  simp only [rowL, List.getElem_map, List.getElem_range]
  exact h.idxOf_getElem i hi
theorem tab_ok {f : List Nd} (hN : isN f = true) (hf : 0 < f.length) {L : List Cov} {rows : List (List Nat)} (h : tabL f = some (L, rows)) : TabOk f L rows (List.range (firstL f).length) := by
  unfold tabL at h
  split at h
  · cases h
  obtain ⟨hi, hl⟩ := tabIt_inv hN _ _ _ (firstL_inv hN hf) L rows h
  obtain ⟨m, hm⟩ := hi.first
  have hpre : ∀ q, q < (firstL f).length → L[q]? = (firstL f)[q]? := fun q hq => by rw [hm, List.getElem?_append_left hq]
  refine ⟨hl, fun c hc => ?_, fun q hq => ?_, fun q c hc c' hc' => ?_, fun q c hc q' hq' => ?_, hi.cov⟩
  · obtain ⟨q, hq, e⟩ := List.mem_iff_getElem.1 (show c ∈ firstL f from hc)
    exact ⟨q, List.mem_range.2 hq, by rw [hpre q hq, List.getElem?_eq_getElem hq, e]⟩
  · have hq' := List.mem_range.1 hq
    exact ⟨(firstL f)[q], List.getElem_mem hq', by rw [hpre q hq', List.getElem?_eq_getElem hq']⟩
  · have hql := (List.getElem?_eq_some_iff.1 hc).1
    obtain ⟨e1, e2⟩ := hi.row q c (by omega) hc
    refine ⟨L.idxOf c', ?_, idx_get (e2 c' hc')⟩
    rw [e1]; exact List.mem_map.2 ⟨c', hc', rfl⟩
  · have hql := (List.getElem?_eq_some_iff.1 hc).1
    obtain ⟨e1, e2⟩ := hi.row q c (by omega) hc
    rw [e1] at hq'
    obtain ⟨c', hc', rfl⟩ := List.mem_map.1 hq'
    exact ⟨c', hc', idx_get (e2 c' hc')⟩
end Go.Proofs.YtamhjgkigjpbhaaDoor
