/- Texts that stand one behind the other, in one file. -/
import Derived.Test.YtiebpncpdbnelaaGreatDoorMa
namespace Go.Proofs.YtiebpncpdbnelaaGreatDoor
structure Gph where
 init : List Int
 edges : List (List Nd)
 labels : List Int
def isNd (n : Nat) (i : Int) : Bool := decide (0 ≤ i) && decide (i < (n : Int))
theorem isNd_iff {n : Nat} {i : Int} : isNd n i = true ↔ 0 ≤ i ∧ i < (n : Int) := by simp [isNd]
theorem isNd_nat {n : Nat} {i : Int} (h : isNd n i = true) : ∃ k : Nat, i = k ∧ k < n := by
 have := isNd_iff.1 h
 exact ⟨i.toNat, by omega, by omega⟩
def vis (n : Nat) (s : List Bool × List Int) (i : Int) : List Bool × List Int :=
 if isNd n i = true ∧ s.1.getD i.toNat true = false then (s.1.set i.toNat true, s.2 ++ [i]) else s
def tgts (l : List Nd) : List Int := l.map (·.op)
def stepN (n : Nat) (E : List (List Nd)) (s : List Bool × List Int) (k : Nat) : List Bool × List Int :=
 match s.2[k]? with
 | some i => (tgts (E.getD i.toNat [])).foldl (vis n) s
 | none => s
def stN (n : Nat) (E : List (List Nd)) (from_ : List Int) : Nat → List Bool × List Int
 | 0 => from_.foldl (vis n) (List.replicate n false, [])
 | k + 1 => stepN n E (stN n E from_ k) k
structure VOk (n : Nat) (s : List Bool × List Int) : Prop where
 len : s.1.length = n
 cnt : s.2.length = s.1.count true
 rng : ∀ i ∈ s.2, isNd n i = true
theorem count_set {l : List Bool} {k : Nat} (hk : k < l.length) (h : l.getD k true = false) : (l.set k true).count true = l.count true + 1 := by
 induction l generalizing k with
 | nil => simp at hk
 | cons x l ih =>
  cases k with
  | zero =>
   simp [List.getD] at h
   subst h
   simp
  | succ k =>
   simp [List.getD] at h hk
   have := ih (k := k) hk (by simpa [List.getD] using h)
   simp [List.count_cons, this]
   omega
theorem vis_ok {n : Nat} {s : List Bool × List Int} (h : VOk n s) (i : Int) : VOk n (vis n s i) := by
 unfold vis
 split
 ·rename_i hc
  obtain ⟨k, rfl, hk⟩ := isNd_nat hc.1
  refine ⟨by simp [h.len], ?_, ?_⟩
  ·simp only [lA, List.length_cons, List.length_nil, tN]
   rw [count_set (by rw [h.len]; exact hk) (by simpa using hc.2), h.cnt]
  ·intro j hj
   simp only [List.mem_append, mS] at hj
   rcases hj with hj | rfl
   ·exact h.rng j hj
   ·exact hc.1
 ·exact h
theorem fold_ok {n : Nat} : ∀ (l : List Int) {s : List Bool × List Int}, VOk n s → VOk n (l.foldl (vis n) s)
 | [], _, h => h
 | i :: l, _, h => fold_ok l (vis_ok h i)
theorem st0_ok (n : Nat) : VOk n (List.replicate n false, []) := ⟨by simp, by simp [List.count_replicate], by simp⟩
theorem stN_ok (n : Nat) (E : List (List Nd)) (from_ : List Int) : ∀ k, VOk n (stN n E from_ k)
 | 0 => fold_ok _ (st0_ok n)
 | k + 1 => by
  rw [stN, stepN]
  split
  ·exact fold_ok _ (stN_ok n E from_ k)
  ·exact stN_ok n E from_ k
theorem VOk.le {n : Nat} {s : List Bool × List Int} (h : VOk n s) : s.2.length ≤ n := by
 rw [h.cnt, ← h.len]; exact List.count_le_length
theorem VOk.lt {n : Nat} {s : List Bool × List Int} (h : VOk n s) {k : Nat} (hk : k < n) (hf : s.1.getD k true = false) : s.2.length < n := by
 have h1 := h.le
 have h2 := vis_ok h (k : Int)
 have h3 : (vis n s (k : Int)).2.length = s.2.length + 1 := by
  rw [vis, if_pos ⟨isNd_iff.2 ⟨by omega, by omega⟩, by simpa using hf⟩]; simp
 have := h2.le
 omega
theorem fold_grow {n : Nat} : ∀ (l : List Int) (s : List Bool × List Int), ∃ r, (l.foldl (vis n) s).2 = s.2 ++ r
 | [], s => ⟨[], by simp⟩
 | i :: l, s => by
  obtain ⟨r, hr⟩ := fold_grow l (vis n s i)
  unfold vis at hr
  simp only [List.foldl_cons]
  unfold vis
  split at hr
  ·rename_i h
   rw [if_pos h]
   exact ⟨i :: r, by rw [hr]; simp⟩
  ·rename_i h
   rw [if_neg h]
   exact ⟨r, hr⟩
theorem stN_grow {n : Nat} {E : List (List Nd)} {from_ : List Int} (k : Nat) : ∃ r, (stN n E from_ (k + 1)).2 = (stN n E from_ k).2 ++ r := by
 rw [stN, stepN]
 split
 ·exact fold_grow _ _
 ·exact ⟨[], by simp⟩
theorem stN_next {n : Nat} {E : List (List Nd)} {from_ : List Int} {k : Nat} {i : Int} (h : (stN n E from_ k).2[k]? = some i) : stN n E from_ (k + 1) = (tgts (E.getD i.toNat [])).foldl (vis n) (stN n E from_ k) := by
 rw [stN, stepN, h]
theorem stN_stop {n : Nat} {E : List (List Nd)} {from_ : List Int} {k : Nat} (h : (stN n E from_ k).2.length ≤ k) : ∀ d, stN n E from_ (k + d) = stN n E from_ k
 | 0 => rfl
 | d + 1 => by
  have ih := stN_stop h d
  rw [← Nat.add_assoc, stN, ih, stepN, List.getElem?_eq_none (by omega)]
def reachG (n : Nat) (E : List (List Nd)) (from_ : List Int) : List Bool := (stN n E from_ n).1
theorem reachG_end {n : Nat} {E : List (List Nd)} {from_ : List Int} {k : Nat} (hk : k ≤ (stN n E from_ k).2.length) (h : (stN n E from_ k).2.length ≤ k) : reachG n E from_ = (stN n E from_ k).1 := by
 have := (stN_ok n E from_ k).le
 rw [reachG, show n = k + (n - k) by omega]
 have e := stN_stop (E := E) (from_ := from_) (n := k + (n - k)) (k := k) (by rw [show k + (n - k) = n by omega]; exact h) (n - k)
 rw [e]
theorem reachG_len (n : Nat) (E : List (List Nd)) (from_ : List Int) : (reachG n E from_).length = n := (stN_ok n E from_ n).len
inductive Rch (n : Nat) (E : List (List Nd)) (from_ : List Int) : Int → Prop
 | start {i : Int} : i ∈ from_ → isNd n i = true → Rch n E from_ i
 | step {i j : Int} : Rch n E from_ i → j ∈ tgts (E.getD i.toNat []) → isNd n j = true → Rch n E from_ j
theorem Rch.node {n : Nat} {E : List (List Nd)} {from_ : List Int} {i : Int} (h : Rch n E from_ i) : isNd n i = true := by
 cases h <;> assumption
def Same2 (n : Nat) (s : List Bool × List Int) : Prop := ∀ i : Int, isNd n i = true → (i ∈ s.2 ↔ s.1.getD i.toNat false = true)
theorem vis_mem {n : Nat} {s : List Bool × List Int} (hl : s.1.length = n) (h : Same2 n s) (i : Int) : Same2 n (vis n s i) ∧ (∀ j, j ∈ (vis n s i).2 ↔ j ∈ s.2 ∨ (j = i ∧ isNd n i = true)) := by
 unfold vis
 split
 ·rename_i hc
  obtain ⟨k, rfl, hk⟩ := isNd_nat hc.1
  refine ⟨fun j hj => ?_, fun j => by simp [hc.1]⟩
  obtain ⟨m, rfl, hm⟩ := isNd_nat hj
  simp only [List.mem_append, mS, tN]
  by_cases e : (m : Int) = k
  ·have : m = k := by omega
   subst this
   simp [List.getD, hl, hm]
  ·have hne : k ≠ m := fun h => e (by omega)
   have := h (m : Int) hj
   rw [this]
   simp only [tN, List.getD, List.getElem?_set_ne hne]
   simp [e]
 ·rename_i hc
  refine ⟨h, fun j => ⟨.inl, ?_⟩⟩
  rintro (hj | ⟨rfl, hj⟩)
  ·exact hj
  ·obtain ⟨k, rfl, hk⟩ := isNd_nat hj
   refine (h _ hj).2 ?_
   have hx : ¬ s.1.getD k true = false := fun e => hc ⟨hj, by simpa using e⟩
   simp only [tN]
   simp only [List.getD, gE (show k < s.1.length by omega), Option.getD_some] at hx ⊢
   simpa using hx
theorem fold_mem {n : Nat} : ∀ (l : List Int) {s : List Bool × List Int}, VOk n s → Same2 n s → Same2 n (l.foldl (vis n) s) ∧ (∀ j, j ∈ (l.foldl (vis n) s).2 ↔ j ∈ s.2 ∨ (j ∈ l ∧ isNd n j = true))
 | [], s, _, h => ⟨h, by simp⟩
 | i :: l, s, ho, h => by
  obtain ⟨h1, h2⟩ := vis_mem ho.len h i
  obtain ⟨h3, h4⟩ := fold_mem l (vis_ok ho i) h1
  refine ⟨h3, fun j => ?_⟩
  rw [List.foldl_cons, h4, h2]
  simp only [List.mem_cons]
  constructor
  ·rintro ((h | ⟨rfl, h⟩) | ⟨h, h'⟩)
   ·exact .inl h
   ·exact .inr ⟨.inl rfl, h⟩
   ·exact .inr ⟨.inr h, h'⟩
  ·rintro (h | ⟨rfl | h, h'⟩)
   ·exact .inl (.inl h)
   ·exact .inl (.inr ⟨rfl, h'⟩)
   ·exact .inr ⟨h, h'⟩
theorem same2_0 (n : Nat) : Same2 n (List.replicate n false, []) := fun i hi => by
 obtain ⟨k, rfl, hk⟩ := isNd_nat hi
 simp [List.getD, hk]
theorem stN_same (n : Nat) (E : List (List Nd)) (from_ : List Int) : ∀ k, Same2 n (stN n E from_ k)
 | 0 => (fold_mem _ (st0_ok n) (same2_0 n)).1
 | k + 1 => by
  rw [stN, stepN]
  split
  ·exact (fold_mem _ (stN_ok n E from_ k) (stN_same n E from_ k)).1
  ·exact stN_same n E from_ k
theorem stN_rch {n : Nat} {E : List (List Nd)} {from_ : List Int} : ∀ (k : Nat) (i : Int), i ∈ (stN n E from_ k).2 → Rch n E from_ i
 | 0, i, h => by
  rw [stN, (fold_mem _ (st0_ok n) (same2_0 n)).2] at h
  rcases h with h | ⟨h, h'⟩
  ·simp at h
  ·exact .start h h'
 | k + 1, i, h => by
  rw [stN, stepN] at h
  split at h
  ·rename_i x hx
   rw [(fold_mem _ (stN_ok n E from_ k) (stN_same n E from_ k)).2] at h
   rcases h with h | ⟨h, h'⟩
   ·exact stN_rch k i h
   ·exact .step (stN_rch k x (List.mem_of_getElem? hx)) h h'
  ·exact stN_rch k i h
theorem stN_up {n : Nat} {E : List (List Nd)} {from_ : List Int} {k : Nat} : ∀ d, ∃ r, (stN n E from_ (k + d)).2 = (stN n E from_ k).2 ++ r
 | 0 => ⟨[], by simp⟩
 | d + 1 => by
  obtain ⟨r, hr⟩ := stN_up (k := k) d
  obtain ⟨r', hr'⟩ := stN_grow (n := n) (E := E) (from_ := from_) (k + d)
  exact ⟨r ++ r', by rw [← Nat.add_assoc, hr', hr, List.append_assoc]⟩
theorem reachG_iff {n : Nat} {E : List (List Nd)} {from_ : List Int} {i : Int} (hi : isNd n i = true) : (reachG n E from_).getD i.toNat false = true ↔ Rch n E from_ i := by
 rw [reachG, ← stN_same n E from_ n i hi]
 refine ⟨stN_rch n i, fun h => ?_⟩
 clear hi
 induction h with
 | start h h' =>
  obtain ⟨r, hr⟩ := stN_up (n := n) (E := E) (from_ := from_) (k := 0) n
  rw [Nat.zero_add] at hr
  rw [hr, List.mem_append]
  exact .inl (((fold_mem _ (st0_ok n) (same2_0 n)).2 _).2 (.inr ⟨h, h'⟩))
 | @step i j _ hj hn ih =>
  obtain ⟨k, hk⟩ := List.getElem?_of_mem ih
  have hkn : k < n := by
   have := (gB.1 hk).1
   have := (stN_ok n E from_ n).le
   omega
  have hk' : (stN n E from_ k).2[k]? = some i := by
   by_cases hs : k < (stN n E from_ k).2.length
   ·obtain ⟨r, hr⟩ := stN_up (n := n) (E := E) (from_ := from_) (k := k) (n - k)
    rw [show k + (n - k) = n by omega] at hr
    rw [hr, gC hs] at hk
    exact hk
   ·have e := stN_stop (n := n) (E := E) (from_ := from_) (k := k) (by omega) (n - k)
    rw [show k + (n - k) = n by omega] at e
    rw [e] at hk
    exact hk
  obtain ⟨r, hr⟩ := stN_up (n := n) (E := E) (from_ := from_) (k := k + 1) (n - (k + 1))
  rw [show k + 1 + (n - (k + 1)) = n by omega] at hr
  rw [hr, List.mem_append]
  left
  rw [stN_next hk', (fold_mem _ (stN_ok n E from_ k) (stN_same n E from_ k)).2]
  exact .inr ⟨hj, hn⟩
end Go.Proofs.YtiebpncpdbnelaaGreatDoor
namespace Go.Proofs.YtiebpncpdbnelaaGreatDoor
def turn1 (n a : Nat) (R : List (List Nd)) (e : Nd) : List (List Nd) :=
 if isNd n e.op = true then R.set e.op.toNat (R.getD e.op.toNat [] ++ [⟨a, e.n⟩]) else R
def turnTo (n : Nat) (E : List (List Nd)) : Nat → List (List Nd)
 | 0 => List.replicate n []
 | a + 1 => (E.getD a []).foldl (turn1 n a) (turnTo n E a)
def turnE (E : List (List Nd)) : List (List Nd) := turnTo E.length E E.length
theorem turn1_len {n a : Nat} (R : List (List Nd)) (e : Nd) : (turn1 n a R e).length = R.length := by unfold turn1; split <;> simp
theorem turnF_len {n a : Nat} : ∀ (l : List Nd) (R : List (List Nd)), (l.foldl (turn1 n a) R).length = R.length
 | [], _ => rfl
 | e :: l, R => by rw [List.foldl_cons, turnF_len l, turn1_len]
theorem turnTo_len {n : Nat} {E : List (List Nd)} : ∀ a, (turnTo n E a).length = n
 | 0 => by simp [turnTo]
 | a + 1 => by rw [turnTo, turnF_len, turnTo_len a]
theorem turnE_len (E : List (List Nd)) : (turnE E).length = E.length := turnTo_len _
theorem getD_set_same {α : Type} {l : List α} {k : Nat} {x d : α} (h : k < l.length) : (l.set k x).getD k d = x := by simp [List.getD, h]
theorem getD_set_ne' {α : Type} {l : List α} {k m : Nat} {x d : α} (h : k ≠ m) : (l.set k x).getD m d = l.getD m d := by simp [List.getD, List.getElem?_set_ne h]
theorem turn1_mem {n a : Nat} {R : List (List Nd)} (hR : R.length = n) (e : Nd) {t : Nat} (ht : t < n) (x : Nd) :
  x ∈ (turn1 n a R e).getD t [] ↔ x ∈ R.getD t [] ∨ (e.op = t ∧ x = ⟨a, e.n⟩) := by
 unfold turn1
 split
 ·rename_i h
  obtain ⟨k, hk, hkn⟩ := isNd_nat h
  rw [hk, tN]
  by_cases e1 : k = t
  ·subst e1
   rw [getD_set_same (by omega)]
   simp
  ·rw [getD_set_ne' e1]
   constructor
   ·exact .inl
   ·rintro (h | ⟨h, _⟩)
    ·exact h
    ·exact absurd (by omega) e1
 ·rename_i h
  constructor
  ·exact .inl
  ·rintro (h' | ⟨h', _⟩)
   ·exact h'
   ·exact absurd (isNd_iff.2 ⟨by omega, by omega⟩) h
theorem turnF_mem {n a : Nat} {t : Nat} (ht : t < n) (x : Nd) : ∀ (l : List Nd) {R : List (List Nd)}, R.length = n →
  (x ∈ (l.foldl (turn1 n a) R).getD t [] ↔ x ∈ R.getD t [] ∨ ∃ e ∈ l, e.op = t ∧ x = ⟨a, e.n⟩)
 | [], R, _ => by simp
 | e :: l, R, hR => by
  rw [List.foldl_cons, turnF_mem ht x l (by rw [turn1_len, hR]), turn1_mem hR e ht]
  simp only [List.mem_cons, exists_eq_or_imp, or_assoc]
theorem turnTo_mem {n : Nat} {E : List (List Nd)} {t : Nat} (ht : t < n) (x : Nd) : ∀ k, (x ∈ (turnTo n E k).getD t [] ↔ ∃ a, a < k ∧ ∃ e ∈ E.getD a [], e.op = t ∧ x = ⟨a, e.n⟩)
 | 0 => by simp [turnTo, List.getD, ht]
 | k + 1 => by
  rw [turnTo, turnF_mem ht x _ (turnTo_len k), turnTo_mem ht x k]
  constructor
  ·rintro (⟨a, ha, h⟩ | h)
   ·exact ⟨a, by omega, h⟩
   ·exact ⟨k, by omega, h⟩
  ·rintro ⟨a, ha, h⟩
   by_cases e : a = k
   ·subst e; exact .inr h
   ·exact .inl ⟨a, by omega, h⟩
theorem turn_tgt {E : List (List Nd)} {t : Nat} (ht : t < E.length) {j : Int} : j ∈ tgts ((turnE E).getD t []) ↔ ∃ a : Nat, j = a ∧ a < E.length ∧ (t : Int) ∈ tgts (E.getD a []) := by
 simp only [tgts, List.mem_map]
 constructor
 ·rintro ⟨x, hx, rfl⟩
  obtain ⟨a, ha, e, he, h1, rfl⟩ := (turnTo_mem ht x _).1 hx
  exact ⟨a, rfl, ha, e, he, h1⟩
 ·rintro ⟨a, rfl, ha, e, he, h1⟩
  exact ⟨⟨a, e.n⟩, (turnTo_mem ht _ _).2 ⟨a, ha, e, he, h1, rfl⟩, rfl⟩
def goalsG (n : Nat) (goal : List Bool) : List Int := ((List.range (min goal.length n)).filter (fun i => goal.getD i false)).map (fun (i : Nat) => (i : Int))
end Go.Proofs.YtiebpncpdbnelaaGreatDoor
namespace Go.Proofs.YtiebpncpdbnelaaGreatDoor
structure DOk (n : Nat) (T : List (List Nd)) (goals : List Int) (s : List Int × List Int) : Prop where
 len : s.1.length = n
 rng : ∀ i ∈ s.2, isNd n i = true
 cnt : s.2.length = s.1.countP (fun x => decide (0 ≤ x))
 lo : ∀ i : Nat, -1 ≤ s.1.getD i 0
 at_ : ∀ (j : Nat) i, s.2[j]? = some i → 0 ≤ s.1.getD i.toNat 0 ∧ s.1.getD i.toNat 0 ≤ (j : Int)
 mem : ∀ i : Nat, i < n → 0 ≤ s.1.getD i 0 → (i : Int) ∈ s.2
 zero : ∀ i : Nat, i < n → (s.1.getD i 0 = 0 ↔ (i : Int) ∈ goals)
 pre : ∀ i : Nat, i < n → 1 ≤ s.1.getD i 0 → ∃ a ∈ s.2, s.1.getD a.toNat 0 = s.1.getD i 0 - 1 ∧ (i : Int) ∈ tgts (T.getD a.toNat [])
section
variable {n : Nat} {T : List (List Nd)} {goals : List Int}
theorem DOk.le {s : List Int × List Int} (h : DOk n T goals s) : s.2.length ≤ n := by
 rw [h.cnt, ← h.len]; exact List.countP_le_length
theorem DOk.hi {s : List Int × List Int} (h : DOk n T goals s) (i : Nat) (hi : i < n) : s.1.getD i 0 < (n : Int) := by
 by_cases h0 : 0 ≤ s.1.getD i 0
 ·obtain ⟨j, hj⟩ := List.getElem?_of_mem (h.mem i hi h0)
  have h1 := h.at_ j i hj
  have := (gB.1 hj).1
  have := h.le
  rw [tN] at h1
  omega
 ·omega
end
end Go.Proofs.YtiebpncpdbnelaaGreatDoor
namespace Go.Proofs.YtiebpncpdbnelaaGreatDoor
theorem goalsG_mem {n : Nat} {goal : List Bool} {i : Nat} (hi : i < n) : (i : Int) ∈ goalsG n goal ↔ goal.getD i false = true := by
 simp only [goalsG, List.mem_map, List.mem_filter, List.mem_range]
 constructor
 ·rintro ⟨k, ⟨h1, h2⟩, h3⟩
  have : k = i := by omega
  subst this; exact h2
 ·intro h
  have hg : i < goal.length := by
   by_cases h' : i < goal.length
   ·exact h'
   ·simp [List.getD, List.getElem?_eq_none (by omega : goal.length ≤ i)] at h
  exact ⟨i, ⟨by omega, h⟩, rfl⟩
end Go.Proofs.YtiebpncpdbnelaaGreatDoor
namespace Go.Proofs.YtiebpncpdbnelaaGreatDoor
def hasB (s : List Bool) (i : Int) : Bool := isNd s.length i && s.getD i.toNat false
theorem hasB_nat {s : List Bool} {k : Nat} (h : k < s.length) : hasB s (k : Int) = s.getD k false := by
 rw [hasB, isNd_iff.2 ⟨by omega, by omega⟩, Bool.true_and, tN]
theorem hasB_iff {s : List Bool} {i : Int} : hasB s i = true ↔ ∃ k : Nat, i = k ∧ k < s.length ∧ s.getD k false = true := by
 rw [hasB, Bool.and_eq_true]
 constructor
 ·rintro ⟨h1, h2⟩
  obtain ⟨k, rfl, hk⟩ := isNd_nat h1
  exact ⟨k, rfl, hk, by simpa using h2⟩
 ·rintro ⟨k, rfl, hk, h⟩
  exact ⟨isNd_iff.2 ⟨by omega, by omega⟩, by simpa using h⟩
def withinE (E : List (List Nd)) (z : List Bool) : List (List Nd) := (List.range E.length).map fun i => if z.getD i false = true then (E.getD i []).filter (fun e => hasB z e.op) else []
def goalZ (z : List Bool) (ask : Nat → Bool) : List Bool := (List.range z.length).map fun i => z.getD i false && ask i
def stepZ (E : List (List Nd)) (z : List Bool) (ask : Nat → Bool) : List Bool :=
 (List.range z.length).map fun i => ((withinE E z).getD i []).any (fun e => (backG' z.length (withinE E z) (goalZ z ask)).getD e.op.toNat false)
where backG' (n : Nat) (E : List (List Nd)) (goal : List Bool) : List Bool := reachG n (turnE E) (goalsG n goal)
theorem withinE_len (E : List (List Nd)) (z : List Bool) : (withinE E z).length = E.length := by simp [withinE]
theorem stepZ_len (E : List (List Nd)) (z : List Bool) (ask : Nat → Bool) : (stepZ E z ask).length = z.length := by simp [stepZ]
theorem within_mem {E : List (List Nd)} {z : List Bool} {i : Nat} (hi : i < E.length) {e : Nd} : e ∈ (withinE E z).getD i [] ↔ z.getD i false = true ∧ e ∈ E.getD i [] ∧ hasB z e.op = true := by
 have : (withinE E z).getD i [] = if z.getD i false = true then (E.getD i []).filter (fun e => hasB z e.op) else [] := by simp [withinE, List.getD, hi]
 rw [this]
 split
 ·rename_i h
  rw [List.mem_filter]
  exact ⟨fun ⟨a, b⟩ => ⟨h, a, b⟩, fun ⟨_, a, b⟩ => ⟨a, b⟩⟩
 ·rename_i h
  simp only [List.not_mem_nil, false_iff]
  exact fun h' => h h'.1
def Ed (E : List (List Nd)) (z : List Bool) (i j : Nat) : Prop := i < E.length ∧ j < z.length ∧ z.getD i false = true ∧ z.getD j false = true ∧ (j : Int) ∈ tgts (E.getD i [])
inductive Lead (R : Nat → Nat → Prop) : Nat → Nat → Prop
 | refl (a : Nat) : Lead R a a
 | step {a b c : Nat} : R a b → Lead R b c → Lead R a c
theorem Lead.mono {R S : Nat → Nat → Prop} (h : ∀ a b, R a b → S a b) {a b : Nat} (l : Lead R a b) : Lead S a b := by
 induction l with
 | refl a => exact .refl a
 | step r _ ih => exact .step (h _ _ r) ih
theorem Lead.snoc {R : Nat → Nat → Prop} {a b c : Nat} (l : Lead R a b) (r : R b c) : Lead R a c := by
 induction l with
 | refl a => exact .step r (.refl _)
 | step r' _ ih => exact .step r' (ih r)
theorem Lead.trans {R : Nat → Nat → Prop} {a b c : Nat} (l : Lead R a b) (m : Lead R b c) : Lead R a c := by
 induction l with
 | refl a => exact m
 | step r _ ih => exact .step r (ih m)
theorem ed_within {E : List (List Nd)} {z : List Bool} (_hz : z.length = E.length) {i j : Nat} (hi : i < E.length) : (j : Int) ∈ tgts ((withinE E z).getD i []) ↔ Ed E z i j := by
 simp only [tgts, List.mem_map]
 constructor
 ·rintro ⟨e, he, hj⟩
  obtain ⟨h1, h2, h3⟩ := (within_mem hi).1 he
  obtain ⟨k, hk, hkl, hkz⟩ := hasB_iff.1 h3
  have : k = j := by omega
  subst this
  exact ⟨hi, hkl, h1, hkz, by simp only [tgts, List.mem_map]; exact ⟨e, h2, hj⟩⟩
 ·rintro ⟨_, h2, h3, h4, h5⟩
  simp only [tgts, List.mem_map] at h5
  obtain ⟨e, he, hj⟩ := h5
  exact ⟨e, (within_mem hi).2 ⟨h3, he, by rw [hj, hasB_nat h2]; exact h4⟩, hj⟩
theorem rch_lead {E : List (List Nd)} {gs : List Int} {n : Nat} (hn : n = E.length) {i : Nat} (hi : i < n) : Rch n (turnE E) gs (i : Int) ↔ ∃ k : Nat, k < n ∧ (k : Int) ∈ gs ∧ Lead (fun a b => a < n ∧ b < n ∧ (b : Int) ∈ tgts (E.getD a [])) i k := by
 subst hn
 constructor
 ·intro h
  generalize hx : (i : Int) = x at h
  induction h generalizing i with
  | start h1 h2 => subst hx; exact ⟨i, hi, h1, .refl _⟩
  | @step a b ha hb hn ih =>
   subst hx
   obtain ⟨m, rfl, hm⟩ := isNd_nat ha.node
   rw [tN, turn_tgt hm] at hb
   obtain ⟨a', e1, _, h4⟩ := hb
   have : i = a' := by omega
   subst this
   obtain ⟨k, h1, h2, h3⟩ := ih hm rfl
   exact ⟨k, h1, h2, .step ⟨hi, hm, h4⟩ h3⟩
 ·rintro ⟨k, hk, hg, hl⟩
  induction hl with
  | refl a => exact .start hg (isNd_iff.2 ⟨by omega, by omega⟩)
  | @step a b c r _ ih =>
   refine .step (ih r.2.1 hk hg) ?_ (isNd_iff.2 ⟨by omega, by omega⟩)
   rw [tN, turn_tgt r.2.1]
   exact ⟨a, rfl, r.1, r.2.2⟩
theorem goalZ_len (z : List Bool) (ask : Nat → Bool) : (goalZ z ask).length = z.length := by simp [goalZ]
theorem goalZ_at {z : List Bool} {ask : Nat → Bool} {k : Nat} (hk : k < z.length) : (goalZ z ask).getD k false = (z.getD k false && ask k) := by simp [goalZ, List.getD, hk]
theorem step_iff {E : List (List Nd)} {z : List Bool} {ask : Nat → Bool} (hz : z.length = E.length) {i : Nat} (hi : i < z.length) :
  (stepZ E z ask).getD i false = true ↔ ∃ j k : Nat, Ed E z i j ∧ Lead (Ed E z) j k ∧ k < z.length ∧ z.getD k false = true ∧ ask k = true := by
 have hs : (stepZ E z ask).getD i false = ((withinE E z).getD i []).any (fun e => (reachG z.length (turnE (withinE E z)) (goalsG z.length (goalZ z ask))).getD e.op.toNat false) := by
  simp [stepZ, stepZ.backG', List.getD, hi]
 have hw : z.length = (withinE E z).length := by rw [withinE_len, hz]
 have hR : ∀ a b, (a < z.length ∧ b < z.length ∧ (b : Int) ∈ tgts ((withinE E z).getD a [])) ↔ Ed E z a b := fun a b => by
  constructor
  ·rintro ⟨h1, _, h3⟩; exact (ed_within hz (by omega)).1 h3
  ·intro h; exact ⟨by have := h.1; omega, h.2.1, (ed_within hz h.1).2 h⟩
 rw [hs, List.any_eq_true]
 constructor
 ·rintro ⟨e, he, hr⟩
  obtain ⟨h1, h2, h3⟩ := (within_mem (by omega)).1 he
  obtain ⟨j, hj, hjl, hjz⟩ := hasB_iff.1 h3
  have hn : isNd z.length e.op = true := by rw [hj]; exact isNd_iff.2 ⟨by omega, by omega⟩
  rw [reachG_iff hn, hj, rch_lead hw hjl] at hr
  obtain ⟨k, hk, hg, hl⟩ := hr
  have hg' := (goalsG_mem hk).1 hg
  rw [goalZ_at hk, Bool.and_eq_true] at hg'
  exact ⟨j, k, ⟨by omega, hjl, h1, hjz, by simp only [tgts, List.mem_map]; exact ⟨e, h2, hj⟩⟩, hl.mono (fun a b r => (hR a b).1 r), hk, hg'.1, hg'.2⟩
 ·rintro ⟨j, k, hE, hl, hk, hkz, hka⟩
  have hm := (ed_within hz hE.1).2 hE
  simp only [tgts, List.mem_map] at hm
  obtain ⟨e, he, hj⟩ := hm
  refine ⟨e, he, ?_⟩
  rw [reachG_iff (by rw [hj]; exact isNd_iff.2 ⟨by omega, by have := hE.2.1; omega⟩), hj, rch_lead hw hE.2.1]
  exact ⟨k, hk, (goalsG_mem hk).2 (by rw [goalZ_at hk, hkz, hka]; rfl), hl.mono (fun a b r => (hR a b).2 r)⟩
def SubB (y z : List Bool) : Prop := ∀ i : Nat, y.getD i false = true → z.getD i false = true
theorem getD_lt {z : List Bool} {i : Nat} (h : z.getD i false = true) : i < z.length := by
 by_cases hc : i < z.length
 ·exact hc
 ·simp [List.getD, List.getElem?_eq_none (by omega : z.length ≤ i)] at h
theorem sub_anti {y z : List Bool} (hl : y.length = z.length) (h1 : SubB y z) (h2 : SubB z y) : y = z := by
 refine List.ext_getElem hl (fun i a b => ?_)
 have e1 := h1 i
 have e2 := h2 i
 simp only [List.getD, gE a, gE b, Option.getD_some] at e1 e2
 exact Bool.eq_iff_iff.2 ⟨e1, e2⟩
theorem ed_mono {E : List (List Nd)} {y z : List Bool} (hs : SubB y z) {a b : Nat} (h : Ed E y a b) : Ed E z a b := ⟨h.1, getD_lt (hs _ h.2.2.2.1), hs _ h.2.2.1, hs _ h.2.2.2.1, h.2.2.2.2⟩
theorem step_mono {E : List (List Nd)} {y z : List Bool} {p q : Nat → Bool} (hy : y.length = E.length) (hz : z.length = E.length) (hs : SubB y z) (hp : ∀ i, p i = true → q i = true) : SubB (stepZ E y p) (stepZ E z q) := by
 intro i hi
 have h1 := getD_lt hi
 rw [stepZ_len] at h1
 obtain ⟨j, k, a, b, c, d, e⟩ := (step_iff hy h1).1 hi
 exact (step_iff hz (by omega)).2 ⟨j, k, ed_mono hs a, b.mono (fun _ _ r => ed_mono hs r), by omega, hs _ d, hp _ e⟩
theorem step_sub {E : List (List Nd)} {z : List Bool} {p : Nat → Bool} (hz : z.length = E.length) : SubB (stepZ E z p) z := by
 intro i hi
 have h1 := getD_lt hi
 rw [stepZ_len] at h1
 obtain ⟨j, k, a, _⟩ := (step_iff hz h1).1 hi
 exact a.2.2.1
end Go.Proofs.YtiebpncpdbnelaaGreatDoor
