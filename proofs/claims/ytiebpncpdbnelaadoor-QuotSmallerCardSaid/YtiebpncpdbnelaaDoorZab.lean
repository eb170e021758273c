/- Texts that stand one behind the other, in one file. -/
import Derived.Test.YtiebpncpdbnelaaDoorMa
import Derived.Test.YtiebpncpdbnelaaDoorProg
import Derived.OwnWalk
namespace Go.Proofs.YtiebpncpdbnelaaDoor
structure Gph where
 init : List Int
 edges : List (List Nd)
 labels : List Int
def isNd (n : Nat) (i : Int) : Bool := decide (0 ≤ i) && decide (i < (n : Int))
theorem isNd_iff {n : Nat} {i : Int} : isNd n i = true ↔ 0 ≤ i ∧ i < (n : Int) := by simp [isNd]
theorem isNd_nat {n : Nat} {i : Int} (h : isNd n i = true) : ∃ k : Nat, i = k ∧ k < n := by
 have := isNd_iff.1 h
 exact ⟨i.toNat, by omega, by omega⟩
def vis (n : Nat) (s : List Bool × List Int) (i : Int) : List Bool × List Int :=
 if isNd n i = true ∧ s.1.getD i.toNat true = false then (s.1.set i.toNat true, s.2 ++ [i]) else s
def tgts (l : List Nd) : List Int := l.map (·.op)
def stepN (n : Nat) (E : List (List Nd)) (s : List Bool × List Int) (k : Nat) : List Bool × List Int :=
 match s.2[k]? with
 | some i => (tgts (E.getD i.toNat [])).foldl (vis n) s
 | none => s
def stN (n : Nat) (E : List (List Nd)) (from_ : List Int) : Nat → List Bool × List Int
 | 0 => from_.foldl (vis n) (List.replicate n false, [])
 | k + 1 => stepN n E (stN n E from_ k) k
structure VOk (n : Nat) (s : List Bool × List Int) : Prop where
 len : s.1.length = n
 cnt : s.2.length = s.1.count true
 rng : ∀ i ∈ s.2, isNd n i = true
theorem count_set {l : List Bool} {k : Nat} (hk : k < l.length) (h : l.getD k true = false) : (l.set k true).count true = l.count true + 1 := by
 induction l generalizing k with
 | nil => simp at hk
 | cons x l ih =>
  cases k with
  | zero =>
   simp [List.getD] at h
   subst h
   simp
  | succ k =>
   simp [List.getD] at h hk
   have := ih (k := k) hk (by simpa [List.getD] using h)
   simp [List.count_cons, this]
   omega
theorem vis_ok {n : Nat} {s : List Bool × List Int} (h : VOk n s) (i : Int) : VOk n (vis n s i) := by
 unfold vis
 split
 ·rename_i hc
  obtain ⟨k, rfl, hk⟩ := isNd_nat hc.1
  refine ⟨by simp [h.len], ?_, ?_⟩
  ·simp only [lA, List.length_cons, List.length_nil, tN]
   rw [count_set (by rw [h.len]; exact hk) (by simpa using hc.2), h.cnt]
  ·intro j hj
   simp only [List.mem_append, mS] at hj
   rcases hj with hj | rfl
   ·exact h.rng j hj
   ·exact hc.1
 ·exact h
theorem fold_ok {n : Nat} : ∀ (l : List Int) {s : List Bool × List Int}, VOk n s → VOk n (l.foldl (vis n) s)
 | [], _, h => h
 | i :: l, _, h => fold_ok l (vis_ok h i)
theorem st0_ok (n : Nat) : VOk n (List.replicate n false, []) := ⟨by simp, by simp [List.count_replicate], by simp⟩
theorem stN_ok (n : Nat) (E : List (List Nd)) (from_ : List Int) : ∀ k, VOk n (stN n E from_ k)
 | 0 => fold_ok _ (st0_ok n)
 | k + 1 => by
  rw [stN, stepN]
  split
  ·exact fold_ok _ (stN_ok n E from_ k)
  ·exact stN_ok n E from_ k
theorem VOk.le {n : Nat} {s : List Bool × List Int} (h : VOk n s) : s.2.length ≤ n := by
 rw [h.cnt, ← h.len]; exact List.count_le_length
theorem VOk.lt {n : Nat} {s : List Bool × List Int} (h : VOk n s) {k : Nat} (hk : k < n) (hf : s.1.getD k true = false) : s.2.length < n := by
 have h1 := h.le
 have h2 := vis_ok h (k : Int)
 have h3 : (vis n s (k : Int)).2.length = s.2.length + 1 := by
  rw [vis, if_pos ⟨isNd_iff.2 ⟨by omega, by omega⟩, by simpa using hf⟩]; simp
 have := h2.le
 omega
theorem fold_grow {n : Nat} : ∀ (l : List Int) (s : List Bool × List Int), ∃ r, (l.foldl (vis n) s).2 = s.2 ++ r
 | [], s => ⟨[], by simp⟩
 | i :: l, s => by
  obtain ⟨r, hr⟩ := fold_grow l (vis n s i)
  unfold vis at hr
  simp only [List.foldl_cons]
  unfold vis
  split at hr
  ·rename_i h
   rw [if_pos h]
   exact ⟨i :: r, by rw [hr]; simp⟩
  ·rename_i h
   rw [if_neg h]
   exact ⟨r, hr⟩
theorem stN_grow {n : Nat} {E : List (List Nd)} {from_ : List Int} (k : Nat) : ∃ r, (stN n E from_ (k + 1)).2 = (stN n E from_ k).2 ++ r := by
 rw [stN, stepN]
 split
 ·exact fold_grow _ _
 ·exact ⟨[], by simp⟩
theorem stN_next {n : Nat} {E : List (List Nd)} {from_ : List Int} {k : Nat} {i : Int} (h : (stN n E from_ k).2[k]? = some i) : stN n E from_ (k + 1) = (tgts (E.getD i.toNat [])).foldl (vis n) (stN n E from_ k) := by
 rw [stN, stepN, h]
theorem stN_stop {n : Nat} {E : List (List Nd)} {from_ : List Int} {k : Nat} (h : (stN n E from_ k).2.length ≤ k) : ∀ d, stN n E from_ (k + d) = stN n E from_ k
 | 0 => rfl
 | d + 1 => by
  have ih := stN_stop h d
  rw [← Nat.add_assoc, stN, ih, stepN, List.getElem?_eq_none (by omega)]
def reachG (n : Nat) (E : List (List Nd)) (from_ : List Int) : List Bool := (stN n E from_ n).1
theorem reachG_end {n : Nat} {E : List (List Nd)} {from_ : List Int} {k : Nat} (hk : k ≤ (stN n E from_ k).2.length) (h : (stN n E from_ k).2.length ≤ k) : reachG n E from_ = (stN n E from_ k).1 := by
 have := (stN_ok n E from_ k).le
 rw [reachG, show n = k + (n - k) by omega]
 have e := stN_stop (E := E) (from_ := from_) (n := k + (n - k)) (k := k) (by rw [show k + (n - k) = n by omega]; exact h) (n - k)
 rw [e]
inductive Rch (n : Nat) (E : List (List Nd)) (from_ : List Int) : Int → Prop
 | start {i : Int} : i ∈ from_ → isNd n i = true → Rch n E from_ i
 | step {i j : Int} : Rch n E from_ i → j ∈ tgts (E.getD i.toNat []) → isNd n j = true → Rch n E from_ j
theorem Rch.node {n : Nat} {E : List (List Nd)} {from_ : List Int} {i : Int} (h : Rch n E from_ i) : isNd n i = true := by
 cases h <;> assumption
def Same2 (n : Nat) (s : List Bool × List Int) : Prop := ∀ i : Int, isNd n i = true → (i ∈ s.2 ↔ s.1.getD i.toNat false = true)
theorem vis_mem {n : Nat} {s : List Bool × List Int} (hl : s.1.length = n) (h : Same2 n s) (i : Int) : Same2 n (vis n s i) ∧ (∀ j, j ∈ (vis n s i).2 ↔ j ∈ s.2 ∨ (j = i ∧ isNd n i = true)) := by
 unfold vis
 split
 ·rename_i hc
  obtain ⟨k, rfl, hk⟩ := isNd_nat hc.1
  refine ⟨fun j hj => ?_, fun j => by simp [hc.1]⟩
  obtain ⟨m, rfl, hm⟩ := isNd_nat hj
  simp only [List.mem_append, mS, tN]
  by_cases e : (m : Int) = k
  ·have : m = k := by omega
   subst this
   simp [List.getD, hl, hm]
  ·have hne : k ≠ m := fun h => e (by omega)
   have := h (m : Int) hj
   rw [this]
   simp only [tN, List.getD, List.getElem?_set_ne hne]
   simp [e]
 ·rename_i hc
  refine ⟨h, fun j => ⟨.inl, ?_⟩⟩
  rintro (hj | ⟨rfl, hj⟩)
  ·exact hj
  ·obtain ⟨k, rfl, hk⟩ := isNd_nat hj
   refine (h _ hj).2 ?_
   have hx : ¬ s.1.getD k true = false := fun e => hc ⟨hj, by simpa using e⟩
   simp only [tN]
   simp only [List.getD, gE (show k < s.1.length by omega), Option.getD_some] at hx ⊢
   simpa using hx
theorem fold_mem {n : Nat} : ∀ (l : List Int) {s : List Bool × List Int}, VOk n s → Same2 n s → Same2 n (l.foldl (vis n) s) ∧ (∀ j, j ∈ (l.foldl (vis n) s).2 ↔ j ∈ s.2 ∨ (j ∈ l ∧ isNd n j = true))
 | [], s, _, h => ⟨h, by simp⟩
 | i :: l, s, ho, h => by
  obtain ⟨h1, h2⟩ := vis_mem ho.len h i
  obtain ⟨h3, h4⟩ := fold_mem l (vis_ok ho i) h1
  refine ⟨h3, fun j => ?_⟩
  rw [List.foldl_cons, h4, h2]
  simp only [List.mem_cons]
  constructor
  ·rintro ((h | ⟨rfl, h⟩) | ⟨h, h'⟩)
   ·exact .inl h
   ·exact .inr ⟨.inl rfl, h⟩
   ·exact .inr ⟨.inr h, h'⟩
  ·rintro (h | ⟨rfl | h, h'⟩)
   ·exact .inl (.inl h)
   ·exact .inl (.inr ⟨rfl, h'⟩)
   ·exact .inr ⟨h, h'⟩
theorem same2_0 (n : Nat) : Same2 n (List.replicate n false, []) := fun i hi => by
 obtain ⟨k, rfl, hk⟩ := isNd_nat hi
 simp [List.getD, hk]
theorem stN_same (n : Nat) (E : List (List Nd)) (from_ : List Int) : ∀ k, Same2 n (stN n E from_ k)
 | 0 => (fold_mem _ (st0_ok n) (same2_0 n)).1
 | k + 1 => by
  rw [stN, stepN]
  split
  ·exact (fold_mem _ (stN_ok n E from_ k) (stN_same n E from_ k)).1
  ·exact stN_same n E from_ k
theorem stN_rch {n : Nat} {E : List (List Nd)} {from_ : List Int} : ∀ (k : Nat) (i : Int), i ∈ (stN n E from_ k).2 → Rch n E from_ i
 | 0, i, h => by
  rw [stN, (fold_mem _ (st0_ok n) (same2_0 n)).2] at h
  rcases h with h | ⟨h, h'⟩
  ·simp at h
  ·exact .start h h'
 | k + 1, i, h => by
  rw [stN, stepN] at h
  split at h
  ·rename_i x hx
   rw [(fold_mem _ (stN_ok n E from_ k) (stN_same n E from_ k)).2] at h
   rcases h with h | ⟨h, h'⟩
   ·exact stN_rch k i h
   ·exact .step (stN_rch k x (List.mem_of_getElem? hx)) h h'
  ·exact stN_rch k i h
theorem stN_up {n : Nat} {E : List (List Nd)} {from_ : List Int} {k : Nat} : ∀ d, ∃ r, (stN n E from_ (k + d)).2 = (stN n E from_ k).2 ++ r
 | 0 => ⟨[], by simp⟩
 | d + 1 => by
  obtain ⟨r, hr⟩ := stN_up (k := k) d
  obtain ⟨r', hr'⟩ := stN_grow (n := n) (E := E) (from_ := from_) (k + d)
  exact ⟨r ++ r', by rw [← Nat.add_assoc, hr', hr, List.append_assoc]⟩
theorem reachG_iff {n : Nat} {E : List (List Nd)} {from_ : List Int} {i : Int} (hi : isNd n i = true) : (reachG n E from_).getD i.toNat false = true ↔ Rch n E from_ i := by
 rw [reachG, ← stN_same n E from_ n i hi]
 refine ⟨stN_rch n i, fun h => ?_⟩
 clear hi
 induction h with
 | start h h' =>
  obtain ⟨r, hr⟩ := stN_up (n := n) (E := E) (from_ := from_) (k := 0) n
  rw [Nat.zero_add] at hr
  rw [hr, List.mem_append]
  exact .inl (((fold_mem _ (st0_ok n) (same2_0 n)).2 _).2 (.inr ⟨h, h'⟩))
 | @step i j _ hj hn ih =>
  obtain ⟨k, hk⟩ := List.getElem?_of_mem ih
  have hkn : k < n := by
   have := (gB.1 hk).1
   have := (stN_ok n E from_ n).le
   omega
  have hk' : (stN n E from_ k).2[k]? = some i := by
   by_cases hs : k < (stN n E from_ k).2.length
   ·obtain ⟨r, hr⟩ := stN_up (n := n) (E := E) (from_ := from_) (k := k) (n - k)
    rw [show k + (n - k) = n by omega] at hr
    rw [hr, gC hs] at hk
    exact hk
   ·have e := stN_stop (n := n) (E := E) (from_ := from_) (k := k) (by omega) (n - k)
    rw [show k + (n - k) = n by omega] at e
    rw [e] at hk
    exact hk
  obtain ⟨r, hr⟩ := stN_up (n := n) (E := E) (from_ := from_) (k := k + 1) (n - (k + 1))
  rw [show k + 1 + (n - (k + 1)) = n by omega] at hr
  rw [hr, List.mem_append]
  left
  rw [stN_next hk', (fold_mem _ (stN_ok n E from_ k) (stN_same n E from_ k)).2]
  exact .inr ⟨hj, hn⟩
end Go.Proofs.YtiebpncpdbnelaaDoor
namespace Go.Proofs.YtiebpncpdbnelaaDoor
def turn1 (n a : Nat) (R : List (List Nd)) (e : Nd) : List (List Nd) :=
 if isNd n e.op = true then R.set e.op.toNat (R.getD e.op.toNat [] ++ [⟨a, e.n⟩]) else R
def turnTo (n : Nat) (E : List (List Nd)) : Nat → List (List Nd)
 | 0 => List.replicate n []
 | a + 1 => (E.getD a []).foldl (turn1 n a) (turnTo n E a)
def turnE (E : List (List Nd)) : List (List Nd) := turnTo E.length E E.length
theorem turn1_len {n a : Nat} (R : List (List Nd)) (e : Nd) : (turn1 n a R e).length = R.length := by unfold turn1; split <;> simp
theorem turnF_len {n a : Nat} : ∀ (l : List Nd) (R : List (List Nd)), (l.foldl (turn1 n a) R).length = R.length
 | [], _ => rfl
 | e :: l, R => by rw [List.foldl_cons, turnF_len l, turn1_len]
theorem turnTo_len {n : Nat} {E : List (List Nd)} : ∀ a, (turnTo n E a).length = n
 | 0 => by simp [turnTo]
 | a + 1 => by rw [turnTo, turnF_len, turnTo_len a]
theorem turnE_len (E : List (List Nd)) : (turnE E).length = E.length := turnTo_len _
theorem getD_set_same {α : Type} {l : List α} {k : Nat} {x d : α} (h : k < l.length) : (l.set k x).getD k d = x := by simp [List.getD, h]
theorem getD_set_ne' {α : Type} {l : List α} {k m : Nat} {x d : α} (h : k ≠ m) : (l.set k x).getD m d = l.getD m d := by simp [List.getD, List.getElem?_set_ne h]
theorem turn1_mem {n a : Nat} {R : List (List Nd)} (hR : R.length = n) (e : Nd) {t : Nat} (ht : t < n) (x : Nd) :
  x ∈ (turn1 n a R e).getD t [] ↔ x ∈ R.getD t [] ∨ (e.op = t ∧ x = ⟨a, e.n⟩) := by
 unfold turn1
 split
 ·rename_i h
  obtain ⟨k, hk, hkn⟩ := isNd_nat h
  rw [hk, tN]
  by_cases e1 : k = t
  ·subst e1
   rw [getD_set_same (by omega)]
   simp
  ·rw [getD_set_ne' e1]
   constructor
   ·exact .inl
   ·rintro (h | ⟨h, _⟩)
    ·exact h
    ·exact absurd (by omega) e1
 ·rename_i h
  constructor
  ·exact .inl
  ·rintro (h' | ⟨h', _⟩)
   ·exact h'
   ·exact absurd (isNd_iff.2 ⟨by omega, by omega⟩) h
theorem turnF_mem {n a : Nat} {t : Nat} (ht : t < n) (x : Nd) : ∀ (l : List Nd) {R : List (List Nd)}, R.length = n →
  (x ∈ (l.foldl (turn1 n a) R).getD t [] ↔ x ∈ R.getD t [] ∨ ∃ e ∈ l, e.op = t ∧ x = ⟨a, e.n⟩)
 | [], R, _ => by simp
 | e :: l, R, hR => by
  rw [List.foldl_cons, turnF_mem ht x l (by rw [turn1_len, hR]), turn1_mem hR e ht]
  simp only [List.mem_cons, exists_eq_or_imp, or_assoc]
theorem turnTo_mem {n : Nat} {E : List (List Nd)} {t : Nat} (ht : t < n) (x : Nd) : ∀ k, (x ∈ (turnTo n E k).getD t [] ↔ ∃ a, a < k ∧ ∃ e ∈ E.getD a [], e.op = t ∧ x = ⟨a, e.n⟩)
 | 0 => by simp [turnTo, List.getD, ht]
 | k + 1 => by
  rw [turnTo, turnF_mem ht x _ (turnTo_len k), turnTo_mem ht x k]
  constructor
  ·rintro (⟨a, ha, h⟩ | h)
   ·exact ⟨a, by omega, h⟩
   ·exact ⟨k, by omega, h⟩
  ·rintro ⟨a, ha, h⟩
   by_cases e : a = k
   ·subst e; exact .inr h
   ·exact .inl ⟨a, by omega, h⟩
theorem turn_tgt {E : List (List Nd)} {t : Nat} (ht : t < E.length) {j : Int} : j ∈ tgts ((turnE E).getD t []) ↔ ∃ a : Nat, j = a ∧ a < E.length ∧ (t : Int) ∈ tgts (E.getD a []) := by
 simp only [tgts, List.mem_map]
 constructor
 ·rintro ⟨x, hx, rfl⟩
  obtain ⟨a, ha, e, he, h1, rfl⟩ := (turnTo_mem ht x _).1 hx
  exact ⟨a, rfl, ha, e, he, h1⟩
 ·rintro ⟨a, rfl, ha, e, he, h1⟩
  exact ⟨⟨a, e.n⟩, (turnTo_mem ht _ _).2 ⟨a, ha, e, he, h1, rfl⟩, rfl⟩
def goalsG (n : Nat) (goal : List Bool) : List Int := ((List.range (min goal.length n)).filter (fun i => goal.getD i false)).map (fun (i : Nat) => (i : Int))
end Go.Proofs.YtiebpncpdbnelaaDoor
namespace Go.Proofs.YtiebpncpdbnelaaDoor
structure DOk (n : Nat) (T : List (List Nd)) (goals : List Int) (s : List Int × List Int) : Prop where
 len : s.1.length = n
 rng : ∀ i ∈ s.2, isNd n i = true
 cnt : s.2.length = s.1.countP (fun x => decide (0 ≤ x))
 lo : ∀ i : Nat, -1 ≤ s.1.getD i 0
 at_ : ∀ (j : Nat) i, s.2[j]? = some i → 0 ≤ s.1.getD i.toNat 0 ∧ s.1.getD i.toNat 0 ≤ (j : Int)
 mem : ∀ i : Nat, i < n → 0 ≤ s.1.getD i 0 → (i : Int) ∈ s.2
 zero : ∀ i : Nat, i < n → (s.1.getD i 0 = 0 ↔ (i : Int) ∈ goals)
 pre : ∀ i : Nat, i < n → 1 ≤ s.1.getD i 0 → ∃ a ∈ s.2, s.1.getD a.toNat 0 = s.1.getD i 0 - 1 ∧ (i : Int) ∈ tgts (T.getD a.toNat [])
section
variable {n : Nat} {T : List (List Nd)} {goals : List Int}
theorem DOk.le {s : List Int × List Int} (h : DOk n T goals s) : s.2.length ≤ n := by
 rw [h.cnt, ← h.len]; exact List.countP_le_length
theorem DOk.hi {s : List Int × List Int} (h : DOk n T goals s) (i : Nat) (hi : i < n) : s.1.getD i 0 < (n : Int) := by
 by_cases h0 : 0 ≤ s.1.getD i 0
 ·obtain ⟨j, hj⟩ := List.getElem?_of_mem (h.mem i hi h0)
  have h1 := h.at_ j i hj
  have := (gB.1 hj).1
  have := h.le
  rw [tN] at h1
  omega
 ·omega
end
end Go.Proofs.YtiebpncpdbnelaaDoor
namespace Go.Proofs.YtiebpncpdbnelaaDoor
theorem goalsG_mem {n : Nat} {goal : List Bool} {i : Nat} (hi : i < n) : (i : Int) ∈ goalsG n goal ↔ goal.getD i false = true := by
 simp only [goalsG, List.mem_map, List.mem_filter, List.mem_range]
 constructor
 ·rintro ⟨k, ⟨h1, h2⟩, h3⟩
  have : k = i := by omega
  subst this; exact h2
 ·intro h
  have hg : i < goal.length := by
   by_cases h' : i < goal.length
   ·exact h'
   ·simp [List.getD, List.getElem?_eq_none (by omega : goal.length ≤ i)] at h
  exact ⟨i, ⟨by omega, h⟩, rfl⟩
end Go.Proofs.YtiebpncpdbnelaaDoor
namespace Go.Proofs.YtiebpncpdbnelaaDoor
def hasB (s : List Bool) (i : Int) : Bool := isNd s.length i && s.getD i.toNat false
def withinE (E : List (List Nd)) (z : List Bool) : List (List Nd) := (List.range E.length).map fun i => if z.getD i false = true then (E.getD i []).filter (fun e => hasB z e.op) else []
def goalZ (z : List Bool) (ask : Nat → Bool) : List Bool := (List.range z.length).map fun i => z.getD i false && ask i
def stepZ (E : List (List Nd)) (z : List Bool) (ask : Nat → Bool) : List Bool :=
 (List.range z.length).map fun i => ((withinE E z).getD i []).any (fun e => (backG' z.length (withinE E z) (goalZ z ask)).getD e.op.toNat false)
where backG' (n : Nat) (E : List (List Nd)) (goal : List Bool) : List Bool := reachG n (turnE E) (goalsG n goal)
inductive Lead (R : Nat → Nat → Prop) : Nat → Nat → Prop
 | refl (a : Nat) : Lead R a a
 | step {a b c : Nat} : R a b → Lead R b c → Lead R a c
theorem Lead.snoc {R : Nat → Nat → Prop} {a b c : Nat} (l : Lead R a b) (r : R b c) : Lead R a c := by
 induction l with
 | refl a => exact .step r (.refl _)
 | step r' _ ih => exact .step r' (ih r)
theorem Lead.trans {R : Nat → Nat → Prop} {a b c : Nat} (l : Lead R a b) (m : Lead R b c) : Lead R a c := by
 induction l with
 | refl a => exact m
 | step r _ ih => exact .step r (ih m)
theorem rch_lead {E : List (List Nd)} {gs : List Int} {n : Nat} (hn : n = E.length) {i : Nat} (hi : i < n) : Rch n (turnE E) gs (i : Int) ↔ ∃ k : Nat, k < n ∧ (k : Int) ∈ gs ∧ Lead (fun a b => a < n ∧ b < n ∧ (b : Int) ∈ tgts (E.getD a [])) i k := by
 subst hn
 constructor
 ·intro h
  generalize hx : (i : Int) = x at h
  induction h generalizing i with
  | start h1 h2 => subst hx; exact ⟨i, hi, h1, .refl _⟩
  | @step a b ha hb hn ih =>
   subst hx
   obtain ⟨m, rfl, hm⟩ := isNd_nat ha.node
   rw [tN, turn_tgt hm] at hb
   obtain ⟨a', e1, _, h4⟩ := hb
   have : i = a' := by omega
   subst this
   obtain ⟨k, h1, h2, h3⟩ := ih hm rfl
   exact ⟨k, h1, h2, .step ⟨hi, hm, h4⟩ h3⟩
 ·rintro ⟨k, hk, hg, hl⟩
  induction hl with
  | refl a => exact .start hg (isNd_iff.2 ⟨by omega, by omega⟩)
  | @step a b c r _ ih =>
   refine .step (ih r.2.1 hk hg) ?_ (isNd_iff.2 ⟨by omega, by omega⟩)
   rw [tN, turn_tgt r.2.1]
   exact ⟨a, rfl, r.1, r.2.2⟩
def SubB (y z : List Bool) : Prop := ∀ i : Nat, y.getD i false = true → z.getD i false = true
theorem getD_lt {z : List Bool} {i : Nat} (h : z.getD i false = true) : i < z.length := by
 by_cases hc : i < z.length
 ·exact hc
 ·simp [List.getD, List.getElem?_eq_none (by omega : z.length ≤ i)] at h
theorem sub_anti {y z : List Bool} (hl : y.length = z.length) (h1 : SubB y z) (h2 : SubB z y) : y = z := by
 refine List.ext_getElem hl (fun i a b => ?_)
 have e1 := h1 i
 have e2 := h2 i
 simp only [List.getD, gE a, gE b, Option.getD_some] at e1 e2
 exact Bool.eq_iff_iff.2 ⟨e1, e2⟩
end Go.Proofs.YtiebpncpdbnelaaDoor
namespace Go.Proofs.YtiebpncpdbnelaaDoor
def cntB (z : List Bool) : Nat := z.countP (fun b => b)
end Go.Proofs.YtiebpncpdbnelaaDoor
namespace Go.Proofs.YtiebpncpdbnelaaDoor
structure ANd where
 need : Nat
 ban : Nat
 inn : Nat
 to : List Int
def ANd.none : ANd := ⟨0, 0, 0, []⟩
structure Aut where
 sets : Int
 init : List Int
 nodes : List ANd
def Aut.Ok (a : Aut) : Prop := (∀ i ∈ a.init, isNd a.nodes.length i = true) ∧ ∀ x ∈ a.nodes, ∀ t ∈ x.to, isNd a.nodes.length t = true
def Aut.at (a : Aut) (q : Nat) : ANd := a.nodes.getD q ANd.none
section
variable {a : Aut} {W : List Nat} {lp : Nat}
end
end Go.Proofs.YtiebpncpdbnelaaDoor
namespace Go.Proofs.YtiebpncpdbnelaaDoor
def chkNd (N : Nat) (s : Int) (x : ANd) : Int := if x.to.all (isNd N) = true then (if x.inn >>> s.toNat = 0 then 0 else 3) else 10
def chkNds (N : Nat) (s : Int) : List ANd → Int
 | [] => 0
 | x :: r => if chkNd N s x = 0 then chkNds N s r else chkNd N s x
def chkA (a : Aut) : Int := if 256 < a.nodes.length ∨ 16 < a.sets then 11 else if a.sets < 0 then 10 else if a.init.all (isNd a.nodes.length) = true then chkNds a.nodes.length a.sets a.nodes else 10
theorem chkNds_ok {N : Nat} {s : Int} : ∀ {l : List ANd}, (∀ x ∈ l, chkNd N s x = 0) → chkNds N s l = 0
 | [], _ => rfl
 | x :: r, h => by
  unfold chkNds
  rw [if_pos (h x (by simp))]
  exact chkNds_ok (fun y hy => h y (by simp [hy]))
theorem chkNds_at {N : Nat} {s : Int} : ∀ {l : List ANd} {i : Nat} (hi : i < l.length), (∀ x ∈ l.take i, chkNd N s x = 0) → chkNd N s l[i] ≠ 0 → chkNds N s l = chkNd N s l[i]
 | x :: r, 0, _, _, hx => by
  unfold chkNds
  rw [if_neg (by simpa using hx)]; rfl
 | x :: r, i + 1, hi, h, hx => by
  unfold chkNds
  rw [if_pos (h x (by simp))]
  simp only [List.getElem_cons_succ] at hx ⊢
  exact chkNds_at (by simpa using hi) (fun y hy => h y (by simp [hy])) hx
theorem chkA_zero {a : Aut} (h1 : a.nodes.length ≤ 256) (h2 : 0 ≤ a.sets ∧ a.sets ≤ 16) (h3 : a.Ok) (h4 : ∀ x ∈ a.nodes, x.inn < 2 ^ a.sets.toNat) : chkA a = 0 := by
 unfold chkA
 rw [if_neg (by omega), if_neg (by omega), if_pos (List.all_eq_true.2 (fun i hi => h3.1 i hi))]
 refine chkNds_ok (fun x hx => ?_)
 unfold chkNd
 rw [if_pos (List.all_eq_true.2 (fun t ht => h3.2 x hx t ht)), if_pos (by rw [Nat.shiftRight_eq_div_pow]; exact Nat.div_eq_of_lt (h4 x hx))]
theorem all_takeS {α : Type} {l : List α} {P : α → Prop} {i : Nat} (hi : i < l.length) (h : ∀ x ∈ l.take i, P x) (hx : P l[i]) : ∀ x ∈ l.take (i + 1), P x := by
 intro x hm
 rw [take_snoc l i hi] at hm
 rcases List.mem_append.1 hm with hm | hm
 ·exact h x hm
 ·rw [mS] at hm; subst hm; exact hx
end Go.Proofs.YtiebpncpdbnelaaDoor
namespace Go.Proofs.YtiebpncpdbnelaaDoor
open Go.RowKit
def bcells (l : List Bool) : List Value := l.map .bool
theorem bcells_len (l : List Bool) : (bcells l).length = l.length := by simp [bcells]
theorem bcells_one (l : List Bool) : ∀ u ∈ bcells l, u.oneCell' = true := by
 intro u hu
 obtain ⟨b, _, rfl⟩ := List.mem_map.1 hu
 rfl
theorem sliceBool : SliceT Tryd.prog 54 4 1 1 :=
 SliceT.mk (z := .bool false) Tryd.underlying54 (by kernel_rfl) (by decide) (by decide)
theorem infoBool : (Tryd.prog.info? 4).map (fun i => (i.zero, i.size, i.bytes)) = some (some (.bool false), 1, 1) := by kernel_rfl
theorem sliceRows : SliceT Tryd.prog 48 54 1 24 :=
 SliceT.mk (z := .slice none 0 0) Tryd.underlying48 (by kernel_rfl) (by decide) (by decide)
def Grid (w w' : World) (v : Value) (R : List (List Bool)) : Prop :=
 ∃ vs : List Value, w'.ownsRow w.1.size 54 1 v R.length vs ∧ (∀ (j : Nat) (r : List Bool), R[j]? = some r → ∃ u, vs[j]? = some u ∧ w'.ownsRow w.1.size 4 1 u r.length (bcells r)) ∧ Below w.1.size w w'
def GridPost (w : World) (R : List (List Bool)) (en : Ending) (w' : World) : Prop := ∃ v, en = .returned v ∧ Grid w w' v R
theorem Grid.base {w w0 w' : World} {v : Value} {R : List (List Bool)} (h : Grid w0 w' v R) (hb : Below w.1.size w w0) : Grid w w' v R := by
 obtain ⟨vs, h1, h2, h3⟩ := h
 exact ⟨vs, own_base h1 hb.size, fun j r hj => by obtain ⟨u, hu, ho⟩ := h2 j r hj; exact ⟨u, hu, own_base ho hb.size⟩, hb.trans (h3.mono hb.size)⟩
theorem Grid.nil (w : World) : Grid w w (.slice none 0 0) [] := ⟨[], World.ownsRow_nil w _ _ _, by simp, bR⟩
theorem Grid.below {w w1 w2 : World} {v : Value} {R : List (List Bool)} (h : Grid w w1 v R) (hb : Below w1.1.size w1 w2) : Grid w w2 v R := by
 obtain ⟨vs, h1, h2, h3⟩ := h
 exact ⟨vs, own_below h1 hb, fun j r hj => by obtain ⟨u, hu, ho⟩ := h2 j r hj; exact ⟨u, hu, own_below ho hb⟩, h3.trans (hb.mono h3.size)⟩
theorem Grid.row {w w1 : World} {v : Value} {R : List (List Bool)} (h : Grid w w1 v R) {j : Nat} {r : List Bool} (hj : R[j]? = some r) :
  ∃ b o A c n cap, v = .slice (some ⟨b, o, none⟩) n cap ∧ n = R.length ∧ w1.cell? ⟨b, o + j, none⟩ = some (.slice A r.length c) ∧ Sl w1 w1.1.size 1 A r.length c (bcells r) := by
 obtain ⟨vs, h1, h2, h3⟩ := h
 obtain ⟨u, hu, ho⟩ := h2 j r hj
 obtain ⟨A, c, rfl, hs⟩ := own_sl ho
 obtain ⟨A0, c0, rfl, hs0⟩ := own_sl h1
 obtain ⟨b, o, rfl, _, hc⟩ := hs0.rd.at_ hu
 exact ⟨b, o, A, c, _, c0, rfl, rfl, hc, hs⟩
theorem Grid.push {w w1 w2 : World} {v v' u : Value} {R : List (List Bool)} {r : List Bool} (h : Grid w w1 v R) (hu : w1.ownsRow w.1.size 4 1 u r.length (bcells r)) {vs : List Value}
  (hv : w1.ownsRow w.1.size 54 1 v R.length vs) (hown : w2.ownsRow w.1.size 54 1 v' (R.length + 1) (vs ++ [u])) (ht : Tch (fun k => v.ownBlock = some k) w1 w2)
  (hvs : ∀ (j : Nat) (r : List Bool), R[j]? = some r → ∃ u, vs[j]? = some u ∧ w1.ownsRow w.1.size 4 1 u r.length (bcells r)) : Grid w w2 v' (R ++ [r]) := by
 have hb := h.choose_spec.2.2
 have hlen : vs.length = R.length := by rw [hv.1]; simp
 have hkeep : ∀ u' (n : Nat) xs, w1.ownsRow w.1.size 4 1 u' n xs → w2.ownsRow w.1.size 4 1 u' n xs := fun u' n xs ho =>
  own_tch ho ht (fun g hg hg' => own_ne ho hv (by decide) g hg hg')
 refine ⟨vs ++ [u], by simpa using hown, fun j r' hj => ?_, hb.trans (ht.below hb.size (fun g hg h => by have := (hv.lt g h).1; omega))⟩
 by_cases hlt : j < R.length
 ·rw [gC hlt] at hj
  obtain ⟨u', hu', ho⟩ := hvs j r' hj
  exact ⟨u', by rw [gC (by omega)]; exact hu', hkeep _ _ _ ho⟩
 ·have hj' : j = R.length := by
   have := (gB.1 hj).1
   simp at this; omega
  subst hj'
  rw [gR lR] at hj
  simp at hj
  subst hj
  exact ⟨u, by rw [gR (by omega), hlen]; simp, hkeep _ _ _ hu⟩
theorem below_undrew {B : Nat} {w w' : World} (h : Below B w.drew w') : Below B w w' := ⟨h.os, h.tape, h.output, h.size, h.block⟩
end Go.Proofs.YtiebpncpdbnelaaDoor
namespace Go.Proofs.YtiebpncpdbnelaaDoor
abbrev Cov := Nat × Nat × List Bool × List Bool
end Go.Proofs.YtiebpncpdbnelaaDoor
