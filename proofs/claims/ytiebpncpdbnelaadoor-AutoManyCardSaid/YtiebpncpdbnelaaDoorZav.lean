/- Texts that stand one behind the other, in one file. -/
import Derived.Test.YtiebpncpdbnelaaDoorScP
import Derived.Test.YtiebpncpdbnelaaDoorZad
import Derived.Test.YtiebpncpdbnelaaDoorZau
import Derived.Test.YtiebpncpdbnelaaDoorMk
namespace Go.Proofs.YtiebpncpdbnelaaDoor
structure OfOk (E : List (List Nd)) (of : List Nat) : Prop where
 len : of.length = E.length
 at_ : ∀ x, x < E.length → PartIs E x (of.getD x 0)
def scPart (of : List Nat) (m : Nat) : List Nat := (List.range of.length).filter (fun i => of.getD i 0 == m)
def repsL (of : List Nat) : List Nat := (List.range of.length).filter (fun i => of.getD i 0 == i)
def scParts (of : List Nat) : List (List Nat) := (repsL of).map (scPart of)
theorem scPart_mem {of : List Nat} {m x : Nat} : x ∈ scPart of m ↔ x < of.length ∧ of.getD x 0 = m := by
 unfold scPart
 rw [List.mem_filter, List.mem_range, beq_iff_eq]
theorem repsL_mem {of : List Nat} {x : Nat} : x ∈ repsL of ↔ x < of.length ∧ of.getD x 0 = x := by
 unfold repsL
 rw [List.mem_filter, List.mem_range, beq_iff_eq]
section
variable {E : List (List Nd)} {of : List Nat}
theorem lead_lt {x y : Nat} (h : Lead (Arc E) x y) (hx : x < E.length) : y < E.length := by
 induction h with
 | refl a => exact hx
 | step r _ ih => exact ih r.2.1
theorem OfOk.lt (h : OfOk E of) {x : Nat} (hx : x < E.length) : of.getD x 0 < E.length := lead_lt (h.at_ x hx).1.1 hx
theorem OfOk.le (h : OfOk E of) {x : Nat} (hx : x < E.length) : of.getD x 0 ≤ x := (h.at_ x hx).2 x (Mut.refl E x)
theorem OfOk.idem (h : OfOk E of) {x : Nat} (hx : x < E.length) : of.getD (of.getD x 0) 0 = of.getD x 0 := by
 have h1 := h.at_ x hx
 have h2 := h.at_ _ (h.lt hx)
 exact h2.uniq ⟨Mut.refl E _, fun y hy => h1.2 y (h1.1.trans hy)⟩
theorem OfOk.mut (h : OfOk E of) {x y : Nat} (hx : x < E.length) (hy : y < E.length) : of.getD x 0 = of.getD y 0 ↔ Mut E x y := by
 constructor
 ·intro e
  exact (h.at_ x hx).1.trans (e ▸ (h.at_ y hy).1.symm)
 ·intro hm
  have h1 := h.at_ x hx
  have h2 := h.at_ y hy
  exact h1.uniq ⟨hm.trans h2.1, fun z hz => h2.2 z (hm.symm.trans hz)⟩
theorem OfOk.rep (h : OfOk E of) {x : Nat} (hx : x < E.length) : of.getD x 0 ∈ repsL of := repsL_mem.2 ⟨by rw [h.len]; exact h.lt hx, h.idem hx⟩
theorem parts_of (h : OfOk E of) {l : List Nat} (hl : l ∈ scParts of) : ∃ m, m < E.length ∧ m ∈ l ∧ ∀ x, x ∈ l ↔ x < E.length ∧ Mut E m x := by
 obtain ⟨m, hm, rfl⟩ := List.mem_map.1 hl
 obtain ⟨h1, h2⟩ := repsL_mem.1 hm
 rw [h.len] at h1
 refine ⟨m, h1, scPart_mem.2 ⟨by rw [h.len]; exact h1, h2⟩, fun x => ?_⟩
 rw [scPart_mem, h.len]
 constructor
 ·rintro ⟨hx, e⟩
  exact ⟨hx, (h.mut h1 hx).1 (by rw [h2, e])⟩
 ·rintro ⟨hx, e⟩
  exact ⟨hx, by rw [← (h.mut h1 hx).2 e, h2]⟩
theorem parts_has (h : OfOk E of) {x : Nat} (hx : x < E.length) : scPart of (of.getD x 0) ∈ scParts of ∧ x ∈ scPart of (of.getD x 0) :=
 ⟨List.mem_map.2 ⟨_, h.rep hx, rfl⟩, scPart_mem.2 ⟨by rw [h.len]; exact hx, rfl⟩⟩
end
def orL (ins : List Nat) (l : List Nat) : Nat := l.foldl (fun u i => u ||| ins.getD i 0) 0
theorem orL_snoc (ins : List Nat) (l : List Nat) (x : Nat) : orL ins (l ++ [x]) = orL ins l ||| ins.getD x 0 := by simp [orL, List.foldl_append]
theorem orL_bit {ins : List Nat} {i : Nat} : ∀ (l : List Nat), (orL ins l).testBit i = true ↔ ∃ x ∈ l, (ins.getD x 0).testBit i = true := by
 have key : ∀ (l : List Nat) (u : Nat), (l.foldl (fun u i => u ||| ins.getD i 0) u).testBit i = true ↔ u.testBit i = true ∨ ∃ x ∈ l, (ins.getD x 0).testBit i = true := by
  intro l
  induction l with
  | nil => intro u; simp
  | cons x l ih =>
   intro u
   rw [List.foldl_cons, ih, Nat.testBit_or, Bool.or_eq_true]
   constructor
   ·rintro ((h | h) | ⟨y, hy, h⟩)
    ·exact .inl h
    ·exact .inr ⟨x, List.mem_cons_self .., h⟩
    ·exact .inr ⟨y, List.mem_cons_of_mem _ hy, h⟩
   ·rintro (h | ⟨y, hy, h⟩)
    ·exact .inl (.inl h)
    ·rcases List.mem_cons.1 hy with rfl | hy
     ·exact .inl (.inr h)
     ·exact .inr ⟨y, hy, h⟩
 intro l
 rw [orL, key]; simp
theorem orL_lt {ins : List Nat} (h : ∀ i, ins.getD i 0 < 2 ^ 64) : ∀ l, orL ins l < 2 ^ 64 := by
 have key : ∀ (l : List Nat) (u : Nat), u < 2 ^ 64 → l.foldl (fun u i => u ||| ins.getD i 0) u < 2 ^ 64 := by
  intro l
  induction l with
  | nil => intro u hu; exact hu
  | cons x l ih => intro u hu; exact ih _ (Nat.or_lt_two_pow hu (h x))
 exact fun l => key l 0 (by decide)
def loopsB (E : List (List Nd)) (n : Nat) : Bool := (E.getD n []).any (fun e => e.op == (n : Int))
def cycB (E : List (List Nd)) : List Nat → Bool
 | [] => false
 | x :: l => l.any (fun y => y != x) || loopsB E x
def allB (s : Nat) : Nat := 2 ^ s - 1
theorem allB_bit {s i : Nat} : (allB s).testBit i = decide (i < s) := by rw [allB, Nat.testBit_two_pow_sub_one]
def goodP (E : List (List Nd)) (ins : List Nat) (s : Nat) (l : List Nat) : Bool := decide (orL ins l &&& allB s = allB s) && cycB E l
def asksI (ins : List Nat) (s : Nat) : List (Nat → Bool) := (fun _ => true) :: (List.range s).map (fun i m => (ins.getD m 0).testBit i)
theorem asksI_iff {ins : List Nat} {s : Nat} {P : (Nat → Bool) → Prop} : (∀ p ∈ asksI ins s, P p) ↔ P (fun _ => true) ∧ ∀ i, i < s → P (fun m => (ins.getD m 0).testBit i) := by
 constructor
 ·intro h
  exact ⟨h _ (List.mem_cons_self ..), fun i hi => h _ (List.mem_cons_of_mem _ (List.mem_map.2 ⟨i, List.mem_range.2 hi, rfl⟩))⟩
 ·rintro ⟨h1, h2⟩ p hp
  rcases List.mem_cons.1 hp with rfl | hp
  ·exact h1
  ·obtain ⟨i, hi, rfl⟩ := List.mem_map.1 hp
   exact h2 i (List.mem_range.1 hi)
theorem and_all {u s : Nat} : u &&& allB s = allB s ↔ ∀ i, i < s → u.testBit i = true := by
 constructor
 ·intro h i hi
  have := congrArg (fun x => x.testBit i) h
  simp only [Nat.testBit_and, allB_bit, decide_eq_true hi, Bool.and_true] at this
  exact this
 ·intro h
  apply Nat.eq_of_testBit_eq
  intro i
  rw [Nat.testBit_and, allB_bit]
  by_cases hi : i < s
  ·rw [h i hi, Bool.true_and]
  ·rw [decide_eq_false hi, Bool.and_false]
section
variable {E : List (List Nd)} {of : List Nat} {ins : List Nat} {s : Nat}
theorem cyc_iff {l : List Nat} {m : Nat} (hm : m ∈ l) (hmN : m < E.length) (hl : ∀ x, x ∈ l ↔ x < E.length ∧ Mut E m x) : cycB E l = true ↔ ∃ j, Arc E m j ∧ Lead (Arc E) j m := by
 have hfirst : ∀ {x y}, Lead (Arc E) x y → x ≠ y → ∃ j, Arc E x j ∧ Lead (Arc E) j y := by
  intro x y h
  cases h with
  | refl a => exact fun h => absurd rfl h
  | step r k => exact fun _ => ⟨_, r, k⟩
 cases l with
 | nil => cases hm
 | cons x l =>
  have hx := (hl x).1 (List.mem_cons_self ..)
  unfold cycB
  rw [Bool.or_eq_true]
  constructor
  ·rintro (h | h)
   ·rw [List.any_eq_true] at h
    obtain ⟨y, hy, hyx⟩ := h
    have hyx' : y ≠ x := by simpa using hyx
    have hy' := (hl y).1 (List.mem_cons_of_mem _ hy)
    by_cases e : m = x
    ·subst e
     obtain ⟨j, h1, h2⟩ := hfirst hy'.2.1 (fun e => hyx' e.symm)
     exact ⟨j, h1, h2.trans hy'.2.2⟩
    ·obtain ⟨j, h1, h2⟩ := hfirst hx.2.1 e
     exact ⟨j, h1, h2.trans hx.2.2⟩
   ·unfold loopsB at h
    rw [List.any_eq_true] at h
    obtain ⟨e, he, hn⟩ := h
    have hn' : e.op = (x : Int) := by simpa using hn
    have ha : Arc E x x := ⟨hx.1, hx.1, by simp only [tgts, List.mem_map]; exact ⟨e, he, hn'⟩⟩
    by_cases e2 : m = x
    ·subst e2; exact ⟨m, ha, .refl _⟩
    ·obtain ⟨j, h1, h2⟩ := hfirst hx.2.1 e2
     exact ⟨j, h1, h2.trans hx.2.2⟩
  ·rintro ⟨j, h1, h2⟩
   by_cases hany : l.any (fun y => y != x) = true
   ·exact .inl hany
   ·right
    have hall : ∀ y, y ∈ x :: l → y = x := by
     intro y hy
     rcases List.mem_cons.1 hy with rfl | hy
     ·rfl
     ·apply Classical.byContradiction
      intro hne
      exact hany (List.any_eq_true.2 ⟨y, hy, by simpa using hne⟩)
    have hmx := hall m hm
    subst hmx
    have hj := hall j ((hl j).2 ⟨h1.2.1, .step h1 (.refl _), h2⟩)
    subst hj
    have ht := h1.2.2
    simp only [tgts, List.mem_map] at ht
    obtain ⟨e, he, hn⟩ := ht
    exact List.any_eq_true.2 ⟨e, he, by simpa using hn⟩
theorem Core.mut {asks : List (Nat → Bool)} {x y : Nat} (h : Core E asks x) (hm : Mut E x y) : Core E asks y := by
 obtain ⟨⟨j, h1, h2⟩, h3⟩ := h
 refine ⟨?_, fun p hp => ?_⟩
 ·have hl := hm.2
  cases hl with
  | refl a => exact ⟨j, h1, h2⟩
  | step r k => exact ⟨_, r, k.trans hm.1⟩
 ·obtain ⟨u, a, b, c⟩ := h3 p hp
  exact ⟨u, hm.2.trans a, b.trans hm.1, c⟩
theorem good_core (h : OfOk E of) {l : List Nat} (hl : l ∈ scParts of) {x : Nat} (hx : x ∈ l) : goodP E ins s l = true ↔ Core E (asksI ins s) x := by
 obtain ⟨m, hmN, hm, hlm⟩ := parts_of h hl
 obtain ⟨hxN, hmx⟩ := (hlm x).1 hx
 have hgm : goodP E ins s l = true ↔ Core E (asksI ins s) m := by
  unfold goodP Core
  rw [Bool.and_eq_true, decide_eq_true_eq, cyc_iff hm hmN hlm, and_all, asksI_iff]
  constructor
  ·rintro ⟨h1, h2⟩
   refine ⟨h2, ⟨m, .refl _, .refl _, rfl⟩, fun i hi => ?_⟩
   obtain ⟨u, hu, hb⟩ := (orL_bit l).1 (h1 i hi)
   have := (hlm u).1 hu
   exact ⟨u, this.2.1, this.2.2, hb⟩
  ·rintro ⟨h1, _, h3⟩
   refine ⟨fun i hi => ?_, h1⟩
   obtain ⟨u, a, b, c⟩ := h3 i hi
   exact (orL_bit l).2 ⟨u, (hlm u).2 ⟨lead_lt a hmN, a, b⟩, c⟩
 rw [hgm]
 exact ⟨fun h => h.mut hmx, fun h => h.mut hmx.symm⟩
def goalL (E : List (List Nd)) (ins : List Nat) (s : Nat) (P : List (List Nat)) : List Bool := ((P.filter (goodP E ins s)).flatten).foldl (fun r x => r.set x true) (List.replicate E.length false)
theorem goal_core (h : OfOk E of) {x : Nat} (hx : x < E.length) : (goalL E ins s (scParts of)).getD x false = true ↔ Core E (asksI ins s) x := by
 have hin : ∀ y ∈ ((scParts of).filter (goodP E ins s)).flatten, y < (List.replicate E.length false).length := by
  intro y hy
  obtain ⟨l, hl, hyl⟩ := List.mem_flatten.1 hy
  obtain ⟨m, _, _, hlm⟩ := parts_of h (List.mem_filter.1 hl).1
  rw [List.length_replicate]
  exact ((hlm y).1 hyl).1
 have e : (goalL E ins s (scParts of)).getD x false = if x ∈ ((scParts of).filter (goodP E ins s)).flatten then true else (List.replicate E.length false).getD x false := putAll_at hin x
 rw [e, rep_getD]
 have : x ∈ ((scParts of).filter (goodP E ins s)).flatten ↔ Core E (asksI ins s) x := by
  rw [List.mem_flatten]
  constructor
  ·rintro ⟨l, hl, hxl⟩
   obtain ⟨h1, h2⟩ := List.mem_filter.1 hl
   exact (good_core h h1 hxl).1 h2
  ·intro hc
   obtain ⟨h1, h2⟩ := parts_has h hx
   exact ⟨_, List.mem_filter.2 ⟨h1, (good_core h h1 h2).2 hc⟩, h2⟩
 rw [← this]
 split
 ·next e => exact ⟨fun _ => e, fun _ => rfl⟩
 ·next e => exact ⟨fun h' => by simp at h', fun h' => absurd h' e⟩
theorem lasting_iff (h : OfOk E of) {x : Nat} (hx : x < E.length) : (stepZ.backG' E.length E (goalL E ins s (scParts of))).getD x false = true ↔ Runs E (asksI ins s) x := by
 have h1 := reachG_iff (n := E.length) (E := turnE E) (from_ := goalsG E.length (goalL E ins s (scParts of))) (i := (x : Int)) (isNd_iff.2 ⟨by omega, by omega⟩)
 rw [Int.toNat_natCast] at h1
 unfold stepZ.backG'
 rw [h1, rch_lead rfl hx, runs_iff]
 constructor
 ·rintro ⟨k, hk, hg, hl⟩
  exact ⟨k, hl, (goal_core h hk).1 ((goalsG_mem hk).1 hg)⟩
 ·rintro ⟨v, hl, hc⟩
  have hv := lead_lt hl hx
  exact ⟨v, hv, (goalsG_mem hv).2 ((goal_core h hv).2 hc), hl⟩
theorem Runs.congr {asks asks' : List (Nat → Bool)} (hl : ∀ p' ∈ asks', ∃ p ∈ asks, ∀ k, k < E.length → p k = p' k) {x : Nat} (h : Runs E asks x) : Runs E asks' x := by
 obtain ⟨r, h0, h1, h2⟩ := h
 refine ⟨r, h0, h1, fun p' hp' k => ?_⟩
 obtain ⟨p, hp, he⟩ := hl p' hp'
 obtain ⟨m, a, b⟩ := h2 p hp k
 exact ⟨m, a, by rw [← he _ (h1 m).1]; exact b⟩
end
def repK (of : List Nat) (k : Nat) : List Nat := (List.range k).filter (fun i => of.getD i 0 == i)
def rowK (of : List Nat) (k m : Nat) : List Nat := (List.range k).filter (fun i => of.getD i 0 == m)
def partsK (of : List Nat) (k : Nat) : List (List Nat) := (repK of k).map (rowK of k)
theorem partsK_all (of : List Nat) : partsK of of.length = scParts of := rfl
theorem repK_succ (of : List Nat) (k : Nat) : repK of (k + 1) = repK of k ++ (if of.getD k 0 = k then [k] else []) := by
 unfold repK
 rw [List.range_succ, List.filter_append]
 congr 1
 rw [List.filter_cons, List.filter_nil]
 by_cases e : of.getD k 0 = k
 ·rw [if_pos e, if_pos (by simpa using e)]
 ·rw [if_neg e, if_neg (by simpa using e)]
theorem rowK_succ (of : List Nat) (k m : Nat) : rowK of (k + 1) m = rowK of k m ++ (if of.getD k 0 = m then [k] else []) := by
 unfold rowK
 rw [List.range_succ, List.filter_append]
 congr 1
 rw [List.filter_cons, List.filter_nil]
 by_cases e : of.getD k 0 = m
 ·rw [if_pos e, if_pos (by simpa using e)]
 ·rw [if_neg e, if_neg (by simpa using e)]
theorem repK_mem {of : List Nat} {k m : Nat} : m ∈ repK of k ↔ m < k ∧ of.getD m 0 = m := by
 unfold repK
 rw [List.mem_filter, List.mem_range, beq_iff_eq]
theorem repK_len (of : List Nat) (k : Nat) : (repK of k).length ≤ k := by
 have := List.length_filter_le (fun i => of.getD i 0 == i) (List.range k)
 rwa [List.length_range] at this
theorem rowK_len (of : List Nat) (k m : Nat) : (rowK of k m).length ≤ k := by
 have := List.length_filter_le (fun i => of.getD i 0 == m) (List.range k)
 rwa [List.length_range] at this
def PlaceOk (of place : List Nat) (k : Nat) : Prop := ∀ j m, (repK of k)[j]? = some m → place.getD m 0 = j
theorem placeOk_new {of place : List Nat} {k : Nat} (h : PlaceOk of place k) (hk : k < place.length) (he : of.getD k 0 = k) : PlaceOk of (place.set k (repK of k).length) (k + 1) := by
 intro j m hj
 rw [repK_succ, if_pos he] at hj
 rw [setD hk]
 by_cases hl : j < (repK of k).length
 ·rw [List.getElem?_append_left hl] at hj
  have hm := (repK_mem.1 (List.mem_of_getElem? hj)).1
  rw [if_neg (by omega)]
  exact h j m hj
 ·rw [List.getElem?_append_right (by omega)] at hj
  have : j - (repK of k).length = 0 := by
   have := (List.getElem?_eq_some_iff.1 hj).1
   simp at this; omega
  rw [this] at hj
  simp at hj
  rw [if_pos hj]; omega
theorem placeOk_old {of place : List Nat} {k : Nat} (h : PlaceOk of place k) (he : of.getD k 0 ≠ k) : PlaceOk of place (k + 1) := by
 intro j m hj
 rw [repK_succ, if_neg he, List.append_nil] at hj
 exact h j m hj
theorem partsK_at {of : List Nat} {k j m : Nat} (h : (repK of k)[j]? = some m) : (partsK of k)[j]? = some (rowK of k m) := by
 unfold partsK
 rw [List.getElem?_map, h]; rfl
theorem partsK_old {E : List (List Nd)} {of : List Nat} (ho : OfOk E of) {k : Nat} (hk : k < E.length) (he : of.getD k 0 ≠ k) : ∃ j, (repK of k)[j]? = some (of.getD k 0) ∧ partsK of (k + 1) = (partsK of k).set j (rowK of k (of.getD k 0) ++ [k]) := by
 have hle := ho.le hk
 obtain ⟨j, hj⟩ := List.getElem?_of_mem (repK_mem.2 ⟨show of.getD k 0 < k by omega, ho.idem hk⟩)
 refine ⟨j, hj, ?_⟩
 have hnd : (repK of k).Nodup := List.Pairwise.filter _ List.nodup_range
 refine List.ext_getElem? (fun i => ?_)
 unfold partsK
 rw [repK_succ, if_neg he, List.append_nil, List.getElem?_map, List.getElem?_set]
 have hjl := (List.getElem?_eq_some_iff.1 hj).1
 by_cases e : j = i
 ·subst e
  rw [if_pos rfl, hj, if_pos (by simpa using hjl), Option.map_some, rowK_succ, if_pos rfl]
 ·rw [if_neg e, List.getElem?_map]
  cases hi : (repK of k)[i]? with
  | none => rfl
  | some m =>
   rw [Option.map_some, Option.map_some, rowK_succ]
   have hne : of.getD k 0 ≠ m := fun e2 => by
    rw [e2] at hj
    obtain ⟨h1, h2⟩ := List.getElem?_eq_some_iff.1 hj
    obtain ⟨h3, h4⟩ := List.getElem?_eq_some_iff.1 hi
    exact e ((List.getElem_inj hnd).1 (h2.trans h4.symm))
   rw [if_neg hne, List.append_nil]
theorem partsK_new {E : List (List Nd)} {of : List Nat} (ho : OfOk E of) {k : Nat} (hk : k < E.length) (he : of.getD k 0 = k) : partsK of (k + 1) = ((partsK of k) ++ [[]]).set (repK of k).length [k] := by
 have hr : rowK of k k = [] := by
  unfold rowK
  rw [List.filter_eq_nil_iff]
  intro i hi
  have hi' := List.mem_range.1 hi
  have := ho.le (show i < E.length by omega)
  rw [beq_iff_eq]; omega
 have hold : ∀ m ∈ repK of k, rowK of (k + 1) m = rowK of k m := fun m hm => by
  rw [rowK_succ, if_neg (by have := (repK_mem.1 hm).1; omega), List.append_nil]
 unfold partsK
 rw [repK_succ, if_pos he, List.map_append, List.map_congr_left hold, List.map_singleton, rowK_succ, hr, if_pos he]
 have hl : ((repK of k).map (rowK of k)).length = (repK of k).length := List.length_map _
 rw [← hl, List.set_append_right _ _ (Nat.le_refl _), Nat.sub_self]
 rfl
end Go.Proofs.YtiebpncpdbnelaaDoor
namespace Go.Proofs.YtiebpncpdbnelaaDoor
def ANd.put (x : ANd) (l : List Int) : ANd := ⟨x.need, x.ban, x.inn, l⟩
def canB (x : ANd) : Bool := decide (x.need &&& x.ban = 0)
def openR (a : Aut) (q : Nat) : List Nd := ((a.at q).to.filter (fun t => canB (a.at q) && canB (a.at t.toNat))).map (fun t => ⟨t, 0⟩)
def openE (a : Aut) : List (List Nd) := (List.range a.nodes.length).map (openR a)
def openI (a : Aut) : List Int := a.init.filter (fun t => canB (a.at t.toNat))
def insA (a : Aut) : List Nat := a.nodes.map (·.inn)
def Aut.zero : Aut := ⟨0, [], []⟩
theorem openE_len (a : Aut) : (openE a).length = a.nodes.length := by simp [openE]
theorem openE_at {a : Aut} {q : Nat} (hq : q < a.nodes.length) : (openE a).getD q [] = openR a q := by simp [openE, List.getD, hq]
theorem insA_at {a : Aut} (q : Nat) : (insA a).getD q 0 = (a.at q).inn := by
 unfold insA Aut.at
 by_cases h : q < a.nodes.length
 ·simp [List.getD, h]
 ·simp [List.getD, List.getElem?_eq_none (by omega : a.nodes.length ≤ q), ANd.none]
theorem at_mem {a : Aut} {q : Nat} (hq : q < a.nodes.length) : a.at q ∈ a.nodes := by
 unfold Aut.at; rw [List.getD_eq_getElem?_getD, List.getElem?_eq_getElem hq]; exact List.getElem_mem hq
theorem Aut.Ok.to {a : Aut} (h : a.Ok) {q : Nat} (hq : q < a.nodes.length) {t : Int} (ht : t ∈ (a.at q).to) : ∃ k : Nat, t = k ∧ k < a.nodes.length := isNd_nat (h.2 _ (at_mem hq) t ht)
theorem Aut.Ok.first {a : Aut} (h : a.Ok) {t : Int} (ht : t ∈ a.init) : ∃ k : Nat, t = k ∧ k < a.nodes.length := isNd_nat (h.1 t ht)
theorem arc_open {a : Aut} (_hA : a.Ok) {i j : Nat} (hi : i < a.nodes.length) : Arc (openE a) i j ↔ j < a.nodes.length ∧ (j : Int) ∈ (a.at i).to ∧ canB (a.at i) = true ∧ canB (a.at j) = true := by
 unfold Arc
 rw [openE_len, openE_at hi]
 unfold openR
 simp only [tgts, List.mem_map, List.map_map]
 constructor
 ·rintro ⟨_, h2, t, ht, e⟩
  obtain ⟨h3, h4⟩ := List.mem_filter.1 ht
  have e' : t = (j : Int) := e
  subst e'
  rw [Int.toNat_natCast, Bool.and_eq_true] at h4
  exact ⟨h2, h3, h4.1, h4.2⟩
 ·rintro ⟨h1, h2, h3, h4⟩
  exact ⟨hi, h1, (j : Int), List.mem_filter.2 ⟨h2, by rw [Int.toNat_natCast, h3, h4]; rfl⟩, rfl⟩
def UseP (a : Aut) (q : Nat) : Prop := Rch a.nodes.length (openE a) (openI a) (q : Int) ∧ Runs (openE a) (asksI (insA a) a.sets.toNat) q
noncomputable def useL (a : Aut) : List Bool := marksP a.nodes.length (UseP a)
def numC (u : List Bool) (n : Nat) : Nat := ((List.range n).filter (fun i => u.getD i false)).length
def keptL (u : List Bool) (l : List Int) : List Int := (l.filter (fun t => u.getD t.toNat false)).map (fun t => ((numC u t.toNat : Nat) : Int))
def trimU (a : Aut) (u : List Bool) : Aut := ⟨a.sets, keptL u a.init, ((List.range a.nodes.length).filter (fun i => u.getD i false)).map (fun i => (a.at i).put (keptL u (a.at i).to))⟩
noncomputable def trimA (a : Aut) : Aut := trimU a (useL a)
noncomputable def trimF (a : Aut) : Aut := if chkA a = 0 then trimA a else Aut.zero
section
variable {u : List Bool}
theorem numC_succ (n : Nat) : numC u (n + 1) = numC u n + (if u.getD n false = true then 1 else 0) := by
 unfold numC
 rw [List.range_succ, List.filter_append, List.length_append]
 congr 1
 rw [List.filter_cons, List.filter_nil]
 split <;> simp
theorem keptL_mem {l : List Int} {x : Nat} : (x : Int) ∈ keptL u l ↔ ∃ t ∈ l, u.getD t.toNat false = true ∧ numC u t.toNat = x := by
 unfold keptL
 rw [List.mem_map]
 constructor
 ·rintro ⟨t, ht, e⟩
  obtain ⟨h1, h2⟩ := List.mem_filter.1 ht
  exact ⟨t, h1, h2, by omega⟩
 ·rintro ⟨t, h1, h2, h3⟩
  exact ⟨t, List.mem_filter.2 ⟨h1, h2⟩, by omega⟩
theorem keptL_snoc {l : List Int} {i : Nat} (hi : i < l.length) : keptL u (l.take (i + 1)) = keptL u (l.take i) ++ (if u.getD l[i].toNat false = true then [((numC u l[i].toNat : Nat) : Int)] else []) := by
 unfold keptL
 rw [take_snoc l i hi, List.filter_append, List.map_append]
 congr 1
 rw [List.filter_cons, List.filter_nil]
 split <;> simp
theorem keptL_le {l : List Int} : (keptL u l).length ≤ l.length := by
 unfold keptL
 rw [List.length_map]; exact List.length_filter_le _ _
theorem numC_le (n : Nat) : numC u n ≤ n := by
 have := List.length_filter_le (fun i => u.getD i false) (List.range n)
 rw [List.length_range] at this
 exact this
end
section
variable {a : Aut} {W : List Nat} {lp : Nat}
theorem use_iff {q : Nat} (hq : q < a.nodes.length) : (useL a).getD q false = true ↔ UseP a q := marksP_at hq
theorem use_lt {q : Nat} (h : (useL a).getD q false = true) : q < a.nodes.length := by
 have := getD_lt h
 unfold useL at this
 rwa [marksP_len] at this
theorem use_uniq {u : List Bool} (hl : u.length = a.nodes.length) (h : ∀ q, q < a.nodes.length → (u.getD q false = true ↔ UseP a q)) : u = useL a := by
 have hl' : (useL a).length = a.nodes.length := marksP_len _ _
 exact sub_anti (by rw [hl, hl']) (fun i hi => (use_iff (by have := getD_lt hi; omega)).2 ((h i (by have := getD_lt hi; omega)).1 hi))
  (fun i hi => (h i (use_lt hi)).2 ((use_iff (use_lt hi)).1 hi))
theorem open_lt {i j : Nat} (h : Arc (openE a) i j) : i < a.nodes.length ∧ j < a.nodes.length := by
 have h1 := h.1
 have h2 := h.2.1
 rw [openE_len] at h1 h2
 exact ⟨h1, h2⟩
theorem trim_first (hA : a.Ok) : (trimA a).init ≠ [] ↔ ∃ q : Nat, (q : Int) ∈ openI a ∧ Runs (openE a) (asksI (insA a) a.sets.toNat) q := by
 constructor
 ·intro h
  obtain ⟨x, hx⟩ := List.exists_mem_of_ne_nil _ h
  have hx' : x ∈ keptL (useL a) a.init := hx
  unfold keptL at hx'
  obtain ⟨t, ht, _⟩ := List.mem_map.1 hx'
  obtain ⟨h1, h2⟩ := List.mem_filter.1 ht
  obtain ⟨q, rfl, hq⟩ := hA.first h1
  rw [Int.toNat_natCast] at h2
  obtain ⟨_, h3⟩ := (use_iff hq).1 h2
  refine ⟨q, List.mem_filter.2 ⟨h1, ?_⟩, h3⟩
  obtain ⟨r, rfl, h4, _⟩ := h3
  rw [Int.toNat_natCast]
  exact ((arc_open hA hq).1 (h4 0)).2.2.1
 ·rintro ⟨q, h1, h2⟩ he
  obtain ⟨h3, h4⟩ := List.mem_filter.1 h1
  obtain ⟨k, e, hk⟩ := hA.first h3
  have : q = k := by omega
  subst this
  have hu := (use_iff hk).2 ⟨.start h1 (isNd_iff.2 ⟨by omega, by omega⟩), h2⟩
  have : ((numC (useL a) q : Nat) : Int) ∈ (trimA a).init := keptL_mem.2 ⟨_, h3, by rw [Int.toNat_natCast]; exact hu, by rw [Int.toNat_natCast]⟩
  rw [he] at this
  cases this
end
end Go.Proofs.YtiebpncpdbnelaaDoor
namespace Go.Proofs.YtiebpncpdbnelaaDoor
open Go.RowKit
theorem and_u64N {x y : Nat} (hx : x < 2 ^ 64) (hy : y < 2 ^ 64) : bits .and .u64 (x : Int) (y : Int) = ((x &&& y : Nat) : Int) := by
 have hor : x &&& y < 2 ^ 64 := Nat.and_lt_two_pow _ hy
 show IntKind.u64.wrap ((BitVec.ofInt 64 (x : Int) &&& BitVec.ofInt 64 (y : Int)).toNat : Int) = _
 rw [BitVec.toNat_and, BitVec.ofInt_natCast, BitVec.toNat_ofNat, BitVec.ofInt_natCast, BitVec.toNat_ofNat, Nat.mod_eq_of_lt hx, Nat.mod_eq_of_lt hy, IntKind.wrap_u64]
 omega
set_option maxHeartbeats 1000000 in
theorem every_any (vi vn : Value) (s : Nat) (w : World) (hs : s ≤ 16) : Calls Tryd.prog 79 #[.agg #[.int .i64 (s : Int), vi, vn]] w (NumU w ((allB s : Nat) : Int)) := by
 have hb0 : Below w.heap.size w (w.alloc (.cells #[.int .i64 (s : Int), vi, vn] 25)) := (Below.refl _ _).alloc (Nat.le_refl _) _
 have hx0 := heap_alloc_new w (.cells #[.int .i64 (s : Int), vi, vn] 25)
 obtain ⟨W0, hW0⟩ : ∃ W0, w.alloc (.cells #[.int .i64 (s : Int), vi, vn] 25) = W0 := ⟨_, rfl⟩
 rw [hW0] at hb0 hx0
 obtain ⟨k0, k1, k2⟩ := box3A hx0
 have hs0 : (0 : Int) ≤ (s : Int) := by omega
 go_enter Tryd.func79, Tryd.ntmps79
 go_upto_region 1 with fail
 go_wp2_with fail
 go_ret
 refine ⟨ret_int ?_, hb0⟩
 have h1 : ((2 : Int) ^ s) = ((2 ^ s : Nat) : Int) := by simp
 have h2 : 2 ^ s ≤ 2 ^ 16 := Nat.pow_le_pow_right (by decide) hs
 have h3 : 1 ≤ 2 ^ s := Nat.one_le_two_pow
 unfold allB
 rw [h1]
 generalize 2 ^ s = m at *
 rw [IntKind.wrap_u64, IntKind.wrap_u64]
 omega
set_option maxHeartbeats 2000000 in
set_option maxRecDepth 100000 in
theorem can_any (a : Aut) (Ai : Option Addr) (ni ci : Nat) (An : Option Addr) (nn cn : Nat) (w : World) (B ab q : Nat) (h : AutRd w B a Ai ni ci An nn cn) (hab : w.cell? ⟨ab, 2, none⟩ = some (.slice An nn cn)) (hq : q < nn) (hnd : ∀ x ∈ a.nodes, x.need < 2 ^ 64 ∧ x.ban < 2 ^ 64) :
  Calls Tryd.prog 84 #[.int .i64 (q : Int), .pointer (some ⟨ab, 0, none⟩)] w (Tru w (canB (a.at q))) := by
 obtain ⟨b, o, x, At, ct, hAn, hbl, hx, c0, c1, c2, c3, hst⟩ := rd_aut h hq
 subst hAn
 have hxe : a.at q = x := by unfold Aut.at; rw [List.getD_eq_getElem?_getD, hx]; rfl
 rw [hxe]
 obtain ⟨hn1, hn2⟩ := hnd x (List.mem_of_getElem? hx)
 have hq0 : (0 : Int) ≤ (q : Int) := by omega
 have hq1 : (q : Int) < (nn : Int) := by omega
 have hand := and_u64N hn1 hn2
 have hb := bel_drew (Below.refl w.heap.size w)
 clear h hst hx hxe c2 c3 hnd
 cases hz : canB x
 ·have hz' : ((x.need &&& x.ban : Nat) : Int) ≠ 0 := by
   unfold canB at hz
   have := of_decide_eq_false hz
   omega
  have hz2 : (((x.need &&& x.ban : Nat) : Int) == 0) = false := beq_eq_false_iff_ne.2 hz'
  generalize x.need &&& x.ban = m at *
  go_enter Tryd.func84, Tryd.ntmps84
  go_wp2_with fail
  refine wp_region_held_drew (S := fun w' => w'.cell? ⟨ab, 2, none⟩ = some (.slice (some ⟨b, o, none⟩) nn cn) ∧ w'.cell? ⟨b, o + q * 4, none⟩ = some (.int .u64 (x.need : Int)) ∧ w'.cell? ⟨b, o + q * 4 + 1, none⟩ = some (.int .u64 (x.ban : Int))) (by kernel_rfl) ⟨hab, c0, c1⟩ (fun hS => ?_)
  refine tkH 0 rfl hS ?_
  refine tkH 1 rfl hS ?_
  refine tkH 2 rfl hS ?_
  refine tkH 3 rfl hS ?_
  refine tkH 4 rfl hS ?_
  refine tkH 5 rfl hS ?_
  refine tkH 6 rfl hS ?_
  refine tkH 7 rfl hS ?_
  refine tkH 8 rfl hS ?_
  refine tkH 9 rfl hS ?_
  refine tkH 10 rfl hS ?_
  refine tkH 11 rfl hS ?_
  refine tkH 12 rfl hS ?_
  refine tkH 13 rfl hS ?_
  refine tkH 14 rfl hS ?_
  refine wpAnyH_done (by kernel_rfl) ?_ _
  go_wp2_with fail
  go_ret
  exact ⟨rfl, hb⟩
 ·have hz' : ((x.need &&& x.ban : Nat) : Int) = 0 := by
   unfold canB at hz
   have := of_decide_eq_true hz
   omega
  have hz2 : (((x.need &&& x.ban : Nat) : Int) == 0) = true := by rw [hz']; rfl
  generalize x.need &&& x.ban = m at *
  go_enter Tryd.func84, Tryd.ntmps84
  go_wp2_with fail
  refine wp_region_held_drew (S := fun w' => w'.cell? ⟨ab, 2, none⟩ = some (.slice (some ⟨b, o, none⟩) nn cn) ∧ w'.cell? ⟨b, o + q * 4, none⟩ = some (.int .u64 (x.need : Int)) ∧ w'.cell? ⟨b, o + q * 4 + 1, none⟩ = some (.int .u64 (x.ban : Int))) (by kernel_rfl) ⟨hab, c0, c1⟩ (fun hS => ?_)
  refine tkH 0 rfl hS ?_
  refine tkH 1 rfl hS ?_
  refine tkH 2 rfl hS ?_
  refine tkH 3 rfl hS ?_
  refine tkH 4 rfl hS ?_
  refine tkH 5 rfl hS ?_
  refine tkH 6 rfl hS ?_
  refine tkH 7 rfl hS ?_
  refine tkH 8 rfl hS ?_
  refine tkH 9 rfl hS ?_
  refine tkH 10 rfl hS ?_
  refine tkH 11 rfl hS ?_
  refine tkH 12 rfl hS ?_
  refine tkH 13 rfl hS ?_
  refine tkH 14 rfl hS ?_
  refine wpAnyH_done (by kernel_rfl) ?_ _
  go_wp2_with fail
  go_ret
  exact ⟨rfl, hb⟩
end Go.Proofs.YtiebpncpdbnelaaDoor
