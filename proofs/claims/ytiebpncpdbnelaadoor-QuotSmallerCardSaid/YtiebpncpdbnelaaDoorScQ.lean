/- Parts of a graph, and which are good; from where a way goes on for ever. Plain. -/
import Derived.Test.YtiebpncpdbnelaaDoorScP
namespace Go.Proofs.YtiebpncpdbnelaaDoor
structure OfOk (E : List (List Nd)) (of : List Nat) : Prop where
 len : of.length = E.length
 at_ : ∀ x, x < E.length → PartIs E x (of.getD x 0)
def scPart (of : List Nat) (m : Nat) : List Nat := (List.range of.length).filter (fun i => of.getD i 0 == m)
def repsL (of : List Nat) : List Nat := (List.range of.length).filter (fun i => of.getD i 0 == i)
def scParts (of : List Nat) : List (List Nat) := (repsL of).map (scPart of)
theorem scPart_mem {of : List Nat} {m x : Nat} : x ∈ scPart of m ↔ x < of.length ∧ of.getD x 0 = m := by
 unfold scPart
 rw [List.mem_filter, List.mem_range, beq_iff_eq]
theorem repsL_mem {of : List Nat} {x : Nat} : x ∈ repsL of ↔ x < of.length ∧ of.getD x 0 = x := by
 unfold repsL
 rw [List.mem_filter, List.mem_range, beq_iff_eq]
section
variable {E : List (List Nd)} {of : List Nat}
theorem lead_lt {x y : Nat} (h : Lead (Arc E) x y) (hx : x < E.length) : y < E.length := by
 induction h with
 | refl a => exact hx
 | step r _ ih => exact ih r.2.1
theorem OfOk.lt (h : OfOk E of) {x : Nat} (hx : x < E.length) : of.getD x 0 < E.length := lead_lt (h.at_ x hx).1.1 hx
theorem OfOk.le (h : OfOk E of) {x : Nat} (hx : x < E.length) : of.getD x 0 ≤ x := (h.at_ x hx).2 x (Mut.refl E x)
theorem OfOk.idem (h : OfOk E of) {x : Nat} (hx : x < E.length) : of.getD (of.getD x 0) 0 = of.getD x 0 := by
 have h1 := h.at_ x hx
 have h2 := h.at_ _ (h.lt hx)
 exact h2.uniq ⟨Mut.refl E _, fun y hy => h1.2 y (h1.1.trans hy)⟩
theorem OfOk.mut (h : OfOk E of) {x y : Nat} (hx : x < E.length) (hy : y < E.length) : of.getD x 0 = of.getD y 0 ↔ Mut E x y := by
 constructor
 ·intro e
  exact (h.at_ x hx).1.trans (e ▸ (h.at_ y hy).1.symm)
 ·intro hm
  have h1 := h.at_ x hx
  have h2 := h.at_ y hy
  exact h1.uniq ⟨hm.trans h2.1, fun z hz => h2.2 z (hm.symm.trans hz)⟩
theorem OfOk.rep (h : OfOk E of) {x : Nat} (hx : x < E.length) : of.getD x 0 ∈ repsL of := repsL_mem.2 ⟨by rw [h.len]; exact h.lt hx, h.idem hx⟩
theorem parts_of (h : OfOk E of) {l : List Nat} (hl : l ∈ scParts of) : ∃ m, m < E.length ∧ m ∈ l ∧ ∀ x, x ∈ l ↔ x < E.length ∧ Mut E m x := by
 obtain ⟨m, hm, rfl⟩ := List.mem_map.1 hl
 obtain ⟨h1, h2⟩ := repsL_mem.1 hm
 rw [h.len] at h1
 refine ⟨m, h1, scPart_mem.2 ⟨by rw [h.len]; exact h1, h2⟩, fun x => ?_⟩
 rw [scPart_mem, h.len]
 constructor
 ·rintro ⟨hx, e⟩
  exact ⟨hx, (h.mut h1 hx).1 (by rw [h2, e])⟩
 ·rintro ⟨hx, e⟩
  exact ⟨hx, by rw [← (h.mut h1 hx).2 e, h2]⟩
theorem parts_has (h : OfOk E of) {x : Nat} (hx : x < E.length) : scPart of (of.getD x 0) ∈ scParts of ∧ x ∈ scPart of (of.getD x 0) :=
 ⟨List.mem_map.2 ⟨_, h.rep hx, rfl⟩, scPart_mem.2 ⟨by rw [h.len]; exact hx, rfl⟩⟩
end
def orL (ins : List Nat) (l : List Nat) : Nat := l.foldl (fun u i => u ||| ins.getD i 0) 0
theorem orL_snoc (ins : List Nat) (l : List Nat) (x : Nat) : orL ins (l ++ [x]) = orL ins l ||| ins.getD x 0 := by simp [orL, List.foldl_append]
theorem orL_bit {ins : List Nat} {i : Nat} : ∀ (l : List Nat), (orL ins l).testBit i = true ↔ ∃ x ∈ l, (ins.getD x 0).testBit i = true := by
 have key : ∀ (l : List Nat) (u : Nat), (l.foldl (fun u i => u ||| ins.getD i 0) u).testBit i = true ↔ u.testBit i = true ∨ ∃ x ∈ l, (ins.getD x 0).testBit i = true := by
  intro l
  induction l with
  | nil => intro u; simp
  | cons x l ih =>
   intro u
   rw [List.foldl_cons, ih, Nat.testBit_or, Bool.or_eq_true]
   constructor
   ·rintro ((h | h) | ⟨y, hy, h⟩)
    ·exact .inl h
    ·exact .inr ⟨x, List.mem_cons_self .., h⟩
    ·exact .inr ⟨y, List.mem_cons_of_mem _ hy, h⟩
   ·rintro (h | ⟨y, hy, h⟩)
    ·exact .inl (.inl h)
    ·rcases List.mem_cons.1 hy with rfl | hy
     ·exact .inl (.inr h)
     ·exact .inr ⟨y, hy, h⟩
 intro l
 rw [orL, key]; simp
theorem orL_lt {ins : List Nat} (h : ∀ i, ins.getD i 0 < 2 ^ 64) : ∀ l, orL ins l < 2 ^ 64 := by
 have key : ∀ (l : List Nat) (u : Nat), u < 2 ^ 64 → l.foldl (fun u i => u ||| ins.getD i 0) u < 2 ^ 64 := by
  intro l
  induction l with
  | nil => intro u hu; exact hu
  | cons x l ih => intro u hu; exact ih _ (Nat.or_lt_two_pow hu (h x))
 exact fun l => key l 0 (by decide)
def loopsB (E : List (List Nd)) (n : Nat) : Bool := (E.getD n []).any (fun e => e.op == (n : Int))
def cycB (E : List (List Nd)) : List Nat → Bool
 | [] => false
 | x :: l => l.any (fun y => y != x) || loopsB E x
def allB (s : Nat) : Nat := 2 ^ s - 1
theorem allB_bit {s i : Nat} : (allB s).testBit i = decide (i < s) := by rw [allB, Nat.testBit_two_pow_sub_one]
def goodP (E : List (List Nd)) (ins : List Nat) (s : Nat) (l : List Nat) : Bool := decide (orL ins l &&& allB s = allB s) && cycB E l
def asksI (ins : List Nat) (s : Nat) : List (Nat → Bool) := (fun _ => true) :: (List.range s).map (fun i m => (ins.getD m 0).testBit i)
theorem asksI_iff {ins : List Nat} {s : Nat} {P : (Nat → Bool) → Prop} : (∀ p ∈ asksI ins s, P p) ↔ P (fun _ => true) ∧ ∀ i, i < s → P (fun m => (ins.getD m 0).testBit i) := by
 constructor
 ·intro h
  exact ⟨h _ (List.mem_cons_self ..), fun i hi => h _ (List.mem_cons_of_mem _ (List.mem_map.2 ⟨i, List.mem_range.2 hi, rfl⟩))⟩
 ·rintro ⟨h1, h2⟩ p hp
  rcases List.mem_cons.1 hp with rfl | hp
  ·exact h1
  ·obtain ⟨i, hi, rfl⟩ := List.mem_map.1 hp
   exact h2 i (List.mem_range.1 hi)
theorem and_all {u s : Nat} : u &&& allB s = allB s ↔ ∀ i, i < s → u.testBit i = true := by
 constructor
 ·intro h i hi
  have := congrArg (fun x => x.testBit i) h
  simp only [Nat.testBit_and, allB_bit, decide_eq_true hi, Bool.and_true] at this
  exact this
 ·intro h
  apply Nat.eq_of_testBit_eq
  intro i
  rw [Nat.testBit_and, allB_bit]
  by_cases hi : i < s
  ·rw [h i hi, Bool.true_and]
  ·rw [decide_eq_false hi, Bool.and_false]
section
variable {E : List (List Nd)} {of : List Nat} {ins : List Nat} {s : Nat}
theorem cyc_iff {l : List Nat} {m : Nat} (hm : m ∈ l) (hmN : m < E.length) (hl : ∀ x, x ∈ l ↔ x < E.length ∧ Mut E m x) : cycB E l = true ↔ ∃ j, Arc E m j ∧ Lead (Arc E) j m := by
 have hfirst : ∀ {x y}, Lead (Arc E) x y → x ≠ y → ∃ j, Arc E x j ∧ Lead (Arc E) j y := by
  intro x y h
  cases h with
  | refl a => exact fun h => absurd rfl h
  | step r k => exact fun _ => ⟨_, r, k⟩
 cases l with
 | nil => cases hm
 | cons x l =>
  have hx := (hl x).1 (List.mem_cons_self ..)
  unfold cycB
  rw [Bool.or_eq_true]
  constructor
  ·rintro (h | h)
   ·rw [List.any_eq_true] at h
    obtain ⟨y, hy, hyx⟩ := h
    have hyx' : y ≠ x := by simpa using hyx
    have hy' := (hl y).1 (List.mem_cons_of_mem _ hy)
    by_cases e : m = x
    ·subst e
     obtain ⟨j, h1, h2⟩ := hfirst hy'.2.1 (fun e => hyx' e.symm)
     exact ⟨j, h1, h2.trans hy'.2.2⟩
    ·obtain ⟨j, h1, h2⟩ := hfirst hx.2.1 e
     exact ⟨j, h1, h2.trans hx.2.2⟩
   ·unfold loopsB at h
    rw [List.any_eq_true] at h
    obtain ⟨e, he, hn⟩ := h
    have hn' : e.op = (x : Int) := by simpa using hn
    have ha : Arc E x x := ⟨hx.1, hx.1, by simp only [tgts, List.mem_map]; exact ⟨e, he, hn'⟩⟩
    by_cases e2 : m = x
    ·subst e2; exact ⟨m, ha, .refl _⟩
    ·obtain ⟨j, h1, h2⟩ := hfirst hx.2.1 e2
     exact ⟨j, h1, h2.trans hx.2.2⟩
  ·rintro ⟨j, h1, h2⟩
   by_cases hany : l.any (fun y => y != x) = true
   ·exact .inl hany
   ·right
    have hall : ∀ y, y ∈ x :: l → y = x := by
     intro y hy
     rcases List.mem_cons.1 hy with rfl | hy
     ·rfl
     ·apply Classical.byContradiction
      intro hne
      exact hany (List.any_eq_true.2 ⟨y, hy, by simpa using hne⟩)
    have hmx := hall m hm
    subst hmx
    have hj := hall j ((hl j).2 ⟨h1.2.1, .step h1 (.refl _), h2⟩)
    subst hj
    have ht := h1.2.2
    simp only [tgts, List.mem_map] at ht
    obtain ⟨e, he, hn⟩ := ht
    exact List.any_eq_true.2 ⟨e, he, by simpa using hn⟩
theorem Core.mut {asks : List (Nat → Bool)} {x y : Nat} (h : Core E asks x) (hm : Mut E x y) : Core E asks y := by
 obtain ⟨⟨j, h1, h2⟩, h3⟩ := h
 refine ⟨?_, fun p hp => ?_⟩
 ·have hl := hm.2
  cases hl with
  | refl a => exact ⟨j, h1, h2⟩
  | step r k => exact ⟨_, r, k.trans hm.1⟩
 ·obtain ⟨u, a, b, c⟩ := h3 p hp
  exact ⟨u, hm.2.trans a, b.trans hm.1, c⟩
theorem good_core (h : OfOk E of) {l : List Nat} (hl : l ∈ scParts of) {x : Nat} (hx : x ∈ l) : goodP E ins s l = true ↔ Core E (asksI ins s) x := by
 obtain ⟨m, hmN, hm, hlm⟩ := parts_of h hl
 obtain ⟨hxN, hmx⟩ := (hlm x).1 hx
 have hgm : goodP E ins s l = true ↔ Core E (asksI ins s) m := by
  unfold goodP Core
  rw [Bool.and_eq_true, decide_eq_true_eq, cyc_iff hm hmN hlm, and_all, asksI_iff]
  constructor
  ·rintro ⟨h1, h2⟩
   refine ⟨h2, ⟨m, .refl _, .refl _, rfl⟩, fun i hi => ?_⟩
   obtain ⟨u, hu, hb⟩ := (orL_bit l).1 (h1 i hi)
   have := (hlm u).1 hu
   exact ⟨u, this.2.1, this.2.2, hb⟩
  ·rintro ⟨h1, _, h3⟩
   refine ⟨fun i hi => ?_, h1⟩
   obtain ⟨u, a, b, c⟩ := h3 i hi
   exact (orL_bit l).2 ⟨u, (hlm u).2 ⟨lead_lt a hmN, a, b⟩, c⟩
 rw [hgm]
 exact ⟨fun h => h.mut hmx, fun h => h.mut hmx.symm⟩
def goalL (E : List (List Nd)) (ins : List Nat) (s : Nat) (P : List (List Nat)) : List Bool := ((P.filter (goodP E ins s)).flatten).foldl (fun r x => r.set x true) (List.replicate E.length false)
theorem goal_core (h : OfOk E of) {x : Nat} (hx : x < E.length) : (goalL E ins s (scParts of)).getD x false = true ↔ Core E (asksI ins s) x := by
 have hin : ∀ y ∈ ((scParts of).filter (goodP E ins s)).flatten, y < (List.replicate E.length false).length := by
  intro y hy
  obtain ⟨l, hl, hyl⟩ := List.mem_flatten.1 hy
  obtain ⟨m, _, _, hlm⟩ := parts_of h (List.mem_filter.1 hl).1
  rw [List.length_replicate]
  exact ((hlm y).1 hyl).1
 have e : (goalL E ins s (scParts of)).getD x false = if x ∈ ((scParts of).filter (goodP E ins s)).flatten then true else (List.replicate E.length false).getD x false := putAll_at hin x
 rw [e, rep_getD]
 have : x ∈ ((scParts of).filter (goodP E ins s)).flatten ↔ Core E (asksI ins s) x := by
  rw [List.mem_flatten]
  constructor
  ·rintro ⟨l, hl, hxl⟩
   obtain ⟨h1, h2⟩ := List.mem_filter.1 hl
   exact (good_core h h1 hxl).1 h2
  ·intro hc
   obtain ⟨h1, h2⟩ := parts_has h hx
   exact ⟨_, List.mem_filter.2 ⟨h1, (good_core h h1 h2).2 hc⟩, h2⟩
 rw [← this]
 split
 ·next e => exact ⟨fun _ => e, fun _ => rfl⟩
 ·next e => exact ⟨fun h' => by simp at h', fun h' => absurd h' e⟩
theorem lasting_iff (h : OfOk E of) {x : Nat} (hx : x < E.length) : (stepZ.backG' E.length E (goalL E ins s (scParts of))).getD x false = true ↔ Runs E (asksI ins s) x := by
 have h1 := reachG_iff (n := E.length) (E := turnE E) (from_ := goalsG E.length (goalL E ins s (scParts of))) (i := (x : Int)) (isNd_iff.2 ⟨by omega, by omega⟩)
 rw [tN] at h1
 unfold stepZ.backG'
 rw [h1, rch_lead rfl hx, runs_iff]
 constructor
 ·rintro ⟨k, hk, hg, hl⟩
  exact ⟨k, hl, (goal_core h hk).1 ((goalsG_mem hk).1 hg)⟩
 ·rintro ⟨v, hl, hc⟩
  have hv := lead_lt hl hx
  exact ⟨v, hv, (goalsG_mem hv).2 ((goal_core h hv).2 hc), hl⟩
end
def repK (of : List Nat) (k : Nat) : List Nat := (List.range k).filter (fun i => of.getD i 0 == i)
def rowK (of : List Nat) (k m : Nat) : List Nat := (List.range k).filter (fun i => of.getD i 0 == m)
def partsK (of : List Nat) (k : Nat) : List (List Nat) := (repK of k).map (rowK of k)
theorem partsK_all (of : List Nat) : partsK of of.length = scParts of := rfl
theorem repK_succ (of : List Nat) (k : Nat) : repK of (k + 1) = repK of k ++ (if of.getD k 0 = k then [k] else []) := by
 unfold repK
 rw [List.range_succ, List.filter_append]
 congr 1
 rw [List.filter_cons, List.filter_nil]
 by_cases e : of.getD k 0 = k
 ·rw [if_pos e, if_pos (by simpa using e)]
 ·rw [if_neg e, if_neg (by simpa using e)]
theorem rowK_succ (of : List Nat) (k m : Nat) : rowK of (k + 1) m = rowK of k m ++ (if of.getD k 0 = m then [k] else []) := by
 unfold rowK
 rw [List.range_succ, List.filter_append]
 congr 1
 rw [List.filter_cons, List.filter_nil]
 by_cases e : of.getD k 0 = m
 ·rw [if_pos e, if_pos (by simpa using e)]
 ·rw [if_neg e, if_neg (by simpa using e)]
theorem repK_mem {of : List Nat} {k m : Nat} : m ∈ repK of k ↔ m < k ∧ of.getD m 0 = m := by
 unfold repK
 rw [List.mem_filter, List.mem_range, beq_iff_eq]
theorem repK_len (of : List Nat) (k : Nat) : (repK of k).length ≤ k := by
 have := List.length_filter_le (fun i => of.getD i 0 == i) (List.range k)
 rwa [List.length_range] at this
theorem rowK_len (of : List Nat) (k m : Nat) : (rowK of k m).length ≤ k := by
 have := List.length_filter_le (fun i => of.getD i 0 == m) (List.range k)
 rwa [List.length_range] at this
def PlaceOk (of place : List Nat) (k : Nat) : Prop := ∀ j m, (repK of k)[j]? = some m → place.getD m 0 = j
theorem placeOk_new {of place : List Nat} {k : Nat} (h : PlaceOk of place k) (hk : k < place.length) (he : of.getD k 0 = k) : PlaceOk of (place.set k (repK of k).length) (k + 1) := by
 intro j m hj
 rw [repK_succ, if_pos he] at hj
 rw [setD hk]
 by_cases hl : j < (repK of k).length
 ·rw [gC hl] at hj
  have hm := (repK_mem.1 (List.mem_of_getElem? hj)).1
  rw [if_neg (by omega)]
  exact h j m hj
 ·rw [gR (by omega)] at hj
  have : j - (repK of k).length = 0 := by
   have := (gB.1 hj).1
   simp at this; omega
  rw [this] at hj
  simp at hj
  rw [if_pos hj]; omega
theorem placeOk_old {of place : List Nat} {k : Nat} (h : PlaceOk of place k) (he : of.getD k 0 ≠ k) : PlaceOk of place (k + 1) := by
 intro j m hj
 rw [repK_succ, if_neg he, List.append_nil] at hj
 exact h j m hj
theorem partsK_at {of : List Nat} {k j m : Nat} (h : (repK of k)[j]? = some m) : (partsK of k)[j]? = some (rowK of k m) := by
 unfold partsK
 rw [List.getElem?_map, h]; rfl
theorem partsK_old {E : List (List Nd)} {of : List Nat} (ho : OfOk E of) {k : Nat} (hk : k < E.length) (he : of.getD k 0 ≠ k) : ∃ j, (repK of k)[j]? = some (of.getD k 0) ∧ partsK of (k + 1) = (partsK of k).set j (rowK of k (of.getD k 0) ++ [k]) := by
 have hle := ho.le hk
 obtain ⟨j, hj⟩ := List.getElem?_of_mem (repK_mem.2 ⟨show of.getD k 0 < k by omega, ho.idem hk⟩)
 refine ⟨j, hj, ?_⟩
 have hnd : (repK of k).Nodup := List.Pairwise.filter _ List.nodup_range
 refine List.ext_getElem? (fun i => ?_)
 unfold partsK
 rw [repK_succ, if_neg he, List.append_nil, List.getElem?_map, List.getElem?_set]
 have hjl := (gB.1 hj).1
 by_cases e : j = i
 ·subst e
  rw [if_pos rfl, hj, if_pos (by simpa using hjl), Option.map_some, rowK_succ, if_pos rfl]
 ·rw [if_neg e, List.getElem?_map]
  cases hi : (repK of k)[i]? with
  | none => rfl
  | some m =>
   rw [Option.map_some, Option.map_some, rowK_succ]
   have hne : of.getD k 0 ≠ m := fun e2 => by
    rw [e2] at hj
    obtain ⟨h1, h2⟩ := gB.1 hj
    obtain ⟨h3, h4⟩ := gB.1 hi
    exact e ((List.getElem_inj hnd).1 (h2.trans h4.symm))
   rw [if_neg hne, List.append_nil]
theorem partsK_new {E : List (List Nd)} {of : List Nat} (ho : OfOk E of) {k : Nat} (hk : k < E.length) (he : of.getD k 0 = k) : partsK of (k + 1) = ((partsK of k) ++ [[]]).set (repK of k).length [k] := by
 have hr : rowK of k k = [] := by
  unfold rowK
  rw [List.filter_eq_nil_iff]
  intro i hi
  have hi' := List.mem_range.1 hi
  have := ho.le (show i < E.length by omega)
  rw [beq_iff_eq]; omega
 have hold : ∀ m ∈ repK of k, rowK of (k + 1) m = rowK of k m := fun m hm => by
  rw [rowK_succ, if_neg (by have := (repK_mem.1 hm).1; omega), List.append_nil]
 unfold partsK
 rw [repK_succ, if_pos he, List.map_append, List.map_congr_left hold, List.map_singleton, rowK_succ, hr, if_pos he]
 have hl : ((repK of k).map (rowK of k)).length = (repK of k).length := List.length_map _
 rw [← hl, List.set_append_right _ _ lR, Nat.sub_self]
 rfl
end Go.Proofs.YtiebpncpdbnelaaDoor
