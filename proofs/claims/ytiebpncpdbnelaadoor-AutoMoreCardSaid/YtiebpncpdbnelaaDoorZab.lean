/- Texts that stand one behind the other, in one file. -/
import Derived.Test.YtiebpncpdbnelaaDoorMa
namespace Go.Proofs.YtiebpncpdbnelaaDoor
structure Gph where
 init : List Int
 edges : List (List Nd)
 labels : List Int
def isNd (n : Nat) (i : Int) : Bool := decide (0 ≤ i) && decide (i < (n : Int))
theorem isNd_iff {n : Nat} {i : Int} : isNd n i = true ↔ 0 ≤ i ∧ i < (n : Int) := by simp [isNd]
theorem isNd_nat {n : Nat} {i : Int} (h : isNd n i = true) : ∃ k : Nat, i = k ∧ k < n := by
 have := isNd_iff.1 h
 exact ⟨i.toNat, by omega, by omega⟩
def vis (n : Nat) (s : List Bool × List Int) (i : Int) : List Bool × List Int :=
 if isNd n i = true ∧ s.1.getD i.toNat true = false then (s.1.set i.toNat true, s.2 ++ [i]) else s
def tgts (l : List Nd) : List Int := l.map (·.op)
def stepN (n : Nat) (E : List (List Nd)) (s : List Bool × List Int) (k : Nat) : List Bool × List Int :=
 match s.2[k]? with
 | some i => (tgts (E.getD i.toNat [])).foldl (vis n) s
 | none => s
def stN (n : Nat) (E : List (List Nd)) (from_ : List Int) : Nat → List Bool × List Int
 | 0 => from_.foldl (vis n) (List.replicate n false, [])
 | k + 1 => stepN n E (stN n E from_ k) k
structure VOk (n : Nat) (s : List Bool × List Int) : Prop where
 len : s.1.length = n
 cnt : s.2.length = s.1.count true
 rng : ∀ i ∈ s.2, isNd n i = true
theorem count_set {l : List Bool} {k : Nat} (hk : k < l.length) (h : l.getD k true = false) : (l.set k true).count true = l.count true + 1 := by
 induction l generalizing k with
 | nil => simp at hk
 | cons x l ih =>
  cases k with
  | zero =>
   simp [List.getD] at h
   subst h
   simp
  | succ k =>
   simp [List.getD] at h hk
   have := ih (k := k) hk (by simpa [List.getD] using h)
   simp [List.count_cons, this]
   omega
theorem vis_ok {n : Nat} {s : List Bool × List Int} (h : VOk n s) (i : Int) : VOk n (vis n s i) := by
 unfold vis
 split
 ·rename_i hc
  obtain ⟨k, rfl, hk⟩ := isNd_nat hc.1
  refine ⟨by simp [h.len], ?_, ?_⟩
  ·simp only [lA, List.length_cons, List.length_nil, tN]
   rw [count_set (by rw [h.len]; exact hk) (by simpa using hc.2), h.cnt]
  ·intro j hj
   simp only [List.mem_append, mS] at hj
   rcases hj with hj | rfl
   ·exact h.rng j hj
   ·exact hc.1
 ·exact h
theorem fold_ok {n : Nat} : ∀ (l : List Int) {s : List Bool × List Int}, VOk n s → VOk n (l.foldl (vis n) s)
 | [], _, h => h
 | i :: l, _, h => fold_ok l (vis_ok h i)
theorem st0_ok (n : Nat) : VOk n (List.replicate n false, []) := ⟨by simp, by simp [List.count_replicate], by simp⟩
theorem stN_ok (n : Nat) (E : List (List Nd)) (from_ : List Int) : ∀ k, VOk n (stN n E from_ k)
 | 0 => fold_ok _ (st0_ok n)
 | k + 1 => by
  rw [stN, stepN]
  split
  ·exact fold_ok _ (stN_ok n E from_ k)
  ·exact stN_ok n E from_ k
theorem VOk.le {n : Nat} {s : List Bool × List Int} (h : VOk n s) : s.2.length ≤ n := by
 rw [h.cnt, ← h.len]; exact List.count_le_length
theorem VOk.lt {n : Nat} {s : List Bool × List Int} (h : VOk n s) {k : Nat} (hk : k < n) (hf : s.1.getD k true = false) : s.2.length < n := by
 have h1 := h.le
 have h2 := vis_ok h (k : Int)
 have h3 : (vis n s (k : Int)).2.length = s.2.length + 1 := by
  rw [vis, if_pos ⟨isNd_iff.2 ⟨by omega, by omega⟩, by simpa using hf⟩]; simp
 have := h2.le
 omega
theorem fold_grow {n : Nat} : ∀ (l : List Int) (s : List Bool × List Int), ∃ r, (l.foldl (vis n) s).2 = s.2 ++ r
 | [], s => ⟨[], by simp⟩
 | i :: l, s => by
  obtain ⟨r, hr⟩ := fold_grow l (vis n s i)
  unfold vis at hr
  simp only [List.foldl_cons]
  unfold vis
  split at hr
  ·rename_i h
   rw [if_pos h]
   exact ⟨i :: r, by rw [hr]; simp⟩
  ·rename_i h
   rw [if_neg h]
   exact ⟨r, hr⟩
theorem stN_grow {n : Nat} {E : List (List Nd)} {from_ : List Int} (k : Nat) : ∃ r, (stN n E from_ (k + 1)).2 = (stN n E from_ k).2 ++ r := by
 rw [stN, stepN]
 split
 ·exact fold_grow _ _
 ·exact ⟨[], by simp⟩
theorem stN_next {n : Nat} {E : List (List Nd)} {from_ : List Int} {k : Nat} {i : Int} (h : (stN n E from_ k).2[k]? = some i) : stN n E from_ (k + 1) = (tgts (E.getD i.toNat [])).foldl (vis n) (stN n E from_ k) := by
 rw [stN, stepN, h]
theorem stN_stop {n : Nat} {E : List (List Nd)} {from_ : List Int} {k : Nat} (h : (stN n E from_ k).2.length ≤ k) : ∀ d, stN n E from_ (k + d) = stN n E from_ k
 | 0 => rfl
 | d + 1 => by
  have ih := stN_stop h d
  rw [← Nat.add_assoc, stN, ih, stepN, List.getElem?_eq_none (by omega)]
def reachG (n : Nat) (E : List (List Nd)) (from_ : List Int) : List Bool := (stN n E from_ n).1
theorem reachG_end {n : Nat} {E : List (List Nd)} {from_ : List Int} {k : Nat} (hk : k ≤ (stN n E from_ k).2.length) (h : (stN n E from_ k).2.length ≤ k) : reachG n E from_ = (stN n E from_ k).1 := by
 have := (stN_ok n E from_ k).le
 rw [reachG, show n = k + (n - k) by omega]
 have e := stN_stop (E := E) (from_ := from_) (n := k + (n - k)) (k := k) (by rw [show k + (n - k) = n by omega]; exact h) (n - k)
 rw [e]
theorem reachG_len (n : Nat) (E : List (List Nd)) (from_ : List Int) : (reachG n E from_).length = n := (stN_ok n E from_ n).len
inductive Rch (n : Nat) (E : List (List Nd)) (from_ : List Int) : Int → Prop
 | start {i : Int} : i ∈ from_ → isNd n i = true → Rch n E from_ i
 | step {i j : Int} : Rch n E from_ i → j ∈ tgts (E.getD i.toNat []) → isNd n j = true → Rch n E from_ j
theorem Rch.node {n : Nat} {E : List (List Nd)} {from_ : List Int} {i : Int} (h : Rch n E from_ i) : isNd n i = true := by
 cases h <;> assumption
def Same2 (n : Nat) (s : List Bool × List Int) : Prop := ∀ i : Int, isNd n i = true → (i ∈ s.2 ↔ s.1.getD i.toNat false = true)
theorem vis_mem {n : Nat} {s : List Bool × List Int} (hl : s.1.length = n) (h : Same2 n s) (i : Int) : Same2 n (vis n s i) ∧ (∀ j, j ∈ (vis n s i).2 ↔ j ∈ s.2 ∨ (j = i ∧ isNd n i = true)) := by
 unfold vis
 split
 ·rename_i hc
  obtain ⟨k, rfl, hk⟩ := isNd_nat hc.1
  refine ⟨fun j hj => ?_, fun j => by simp [hc.1]⟩
  obtain ⟨m, rfl, hm⟩ := isNd_nat hj
  simp only [List.mem_append, mS, tN]
  by_cases e : (m : Int) = k
  ·have : m = k := by omega
   subst this
   simp [List.getD, hl, hm]
  ·have hne : k ≠ m := fun h => e (by omega)
   have := h (m : Int) hj
   rw [this]
   simp only [tN, List.getD, List.getElem?_set_ne hne]
   simp [e]
 ·rename_i hc
  refine ⟨h, fun j => ⟨.inl, ?_⟩⟩
  rintro (hj | ⟨rfl, hj⟩)
  ·exact hj
  ·obtain ⟨k, rfl, hk⟩ := isNd_nat hj
   refine (h _ hj).2 ?_
   have hx : ¬ s.1.getD k true = false := fun e => hc ⟨hj, by simpa using e⟩
   simp only [tN]
   simp only [List.getD, gE (show k < s.1.length by omega), Option.getD_some] at hx ⊢
   simpa using hx
theorem fold_mem {n : Nat} : ∀ (l : List Int) {s : List Bool × List Int}, VOk n s → Same2 n s → Same2 n (l.foldl (vis n) s) ∧ (∀ j, j ∈ (l.foldl (vis n) s).2 ↔ j ∈ s.2 ∨ (j ∈ l ∧ isNd n j = true))
 | [], s, _, h => ⟨h, by simp⟩
 | i :: l, s, ho, h => by
  obtain ⟨h1, h2⟩ := vis_mem ho.len h i
  obtain ⟨h3, h4⟩ := fold_mem l (vis_ok ho i) h1
  refine ⟨h3, fun j => ?_⟩
  rw [List.foldl_cons, h4, h2]
  simp only [List.mem_cons]
  constructor
  ·rintro ((h | ⟨rfl, h⟩) | ⟨h, h'⟩)
   ·exact .inl h
   ·exact .inr ⟨.inl rfl, h⟩
   ·exact .inr ⟨.inr h, h'⟩
  ·rintro (h | ⟨rfl | h, h'⟩)
   ·exact .inl (.inl h)
   ·exact .inl (.inr ⟨rfl, h'⟩)
   ·exact .inr ⟨h, h'⟩
theorem same2_0 (n : Nat) : Same2 n (List.replicate n false, []) := fun i hi => by
 obtain ⟨k, rfl, hk⟩ := isNd_nat hi
 simp [List.getD, hk]
theorem stN_same (n : Nat) (E : List (List Nd)) (from_ : List Int) : ∀ k, Same2 n (stN n E from_ k)
 | 0 => (fold_mem _ (st0_ok n) (same2_0 n)).1
 | k + 1 => by
  rw [stN, stepN]
  split
  ·exact (fold_mem _ (stN_ok n E from_ k) (stN_same n E from_ k)).1
  ·exact stN_same n E from_ k
theorem stN_rch {n : Nat} {E : List (List Nd)} {from_ : List Int} : ∀ (k : Nat) (i : Int), i ∈ (stN n E from_ k).2 → Rch n E from_ i
 | 0, i, h => by
  rw [stN, (fold_mem _ (st0_ok n) (same2_0 n)).2] at h
  rcases h with h | ⟨h, h'⟩
  ·simp at h
  ·exact .start h h'
 | k + 1, i, h => by
  rw [stN, stepN] at h
  split at h
  ·rename_i x hx
   rw [(fold_mem _ (stN_ok n E from_ k) (stN_same n E from_ k)).2] at h
   rcases h with h | ⟨h, h'⟩
   ·exact stN_rch k i h
   ·exact .step (stN_rch k x (List.mem_of_getElem? hx)) h h'
  ·exact stN_rch k i h
theorem stN_up {n : Nat} {E : List (List Nd)} {from_ : List Int} {k : Nat} : ∀ d, ∃ r, (stN n E from_ (k + d)).2 = (stN n E from_ k).2 ++ r
 | 0 => ⟨[], by simp⟩
 | d + 1 => by
  obtain ⟨r, hr⟩ := stN_up (k := k) d
  obtain ⟨r', hr'⟩ := stN_grow (n := n) (E := E) (from_ := from_) (k + d)
  exact ⟨r ++ r', by rw [← Nat.add_assoc, hr', hr, List.append_assoc]⟩
theorem reachG_iff {n : Nat} {E : List (List Nd)} {from_ : List Int} {i : Int} (hi : isNd n i = true) : (reachG n E from_).getD i.toNat false = true ↔ Rch n E from_ i := by
 rw [reachG, ← stN_same n E from_ n i hi]
 refine ⟨stN_rch n i, fun h => ?_⟩
 clear hi
 induction h with
 | start h h' =>
  obtain ⟨r, hr⟩ := stN_up (n := n) (E := E) (from_ := from_) (k := 0) n
  rw [Nat.zero_add] at hr
  rw [hr, List.mem_append]
  exact .inl (((fold_mem _ (st0_ok n) (same2_0 n)).2 _).2 (.inr ⟨h, h'⟩))
 | @step i j _ hj hn ih =>
  obtain ⟨k, hk⟩ := List.getElem?_of_mem ih
  have hkn : k < n := by
   have := (gB.1 hk).1
   have := (stN_ok n E from_ n).le
   omega
  have hk' : (stN n E from_ k).2[k]? = some i := by
   by_cases hs : k < (stN n E from_ k).2.length
   ·obtain ⟨r, hr⟩ := stN_up (n := n) (E := E) (from_ := from_) (k := k) (n - k)
    rw [show k + (n - k) = n by omega] at hr
    rw [hr, gC hs] at hk
    exact hk
   ·have e := stN_stop (n := n) (E := E) (from_ := from_) (k := k) (by omega) (n - k)
    rw [show k + (n - k) = n by omega] at e
    rw [e] at hk
    exact hk
  obtain ⟨r, hr⟩ := stN_up (n := n) (E := E) (from_ := from_) (k := k + 1) (n - (k + 1))
  rw [show k + 1 + (n - (k + 1)) = n by omega] at hr
  rw [hr, List.mem_append]
  left
  rw [stN_next hk', (fold_mem _ (stN_ok n E from_ k) (stN_same n E from_ k)).2]
  exact .inr ⟨hj, hn⟩
end Go.Proofs.YtiebpncpdbnelaaDoor
namespace Go.Proofs.YtiebpncpdbnelaaDoor
def turn1 (n a : Nat) (R : List (List Nd)) (e : Nd) : List (List Nd) :=
 if isNd n e.op = true then R.set e.op.toNat (R.getD e.op.toNat [] ++ [⟨a, e.n⟩]) else R
def turnTo (n : Nat) (E : List (List Nd)) : Nat → List (List Nd)
 | 0 => List.replicate n []
 | a + 1 => (E.getD a []).foldl (turn1 n a) (turnTo n E a)
def turnE (E : List (List Nd)) : List (List Nd) := turnTo E.length E E.length
theorem turn1_len {n a : Nat} (R : List (List Nd)) (e : Nd) : (turn1 n a R e).length = R.length := by unfold turn1; split <;> simp
theorem turnF_len {n a : Nat} : ∀ (l : List Nd) (R : List (List Nd)), (l.foldl (turn1 n a) R).length = R.length
 | [], _ => rfl
 | e :: l, R => by rw [List.foldl_cons, turnF_len l, turn1_len]
theorem turnTo_len {n : Nat} {E : List (List Nd)} : ∀ a, (turnTo n E a).length = n
 | 0 => by simp [turnTo]
 | a + 1 => by rw [turnTo, turnF_len, turnTo_len a]
theorem turnE_len (E : List (List Nd)) : (turnE E).length = E.length := turnTo_len _
theorem getD_set_same {α : Type} {l : List α} {k : Nat} {x d : α} (h : k < l.length) : (l.set k x).getD k d = x := by simp [List.getD, h]
theorem getD_set_ne' {α : Type} {l : List α} {k m : Nat} {x d : α} (h : k ≠ m) : (l.set k x).getD m d = l.getD m d := by simp [List.getD, List.getElem?_set_ne h]
theorem turn1_mem {n a : Nat} {R : List (List Nd)} (hR : R.length = n) (e : Nd) {t : Nat} (ht : t < n) (x : Nd) :
  x ∈ (turn1 n a R e).getD t [] ↔ x ∈ R.getD t [] ∨ (e.op = t ∧ x = ⟨a, e.n⟩) := by
 unfold turn1
 split
 ·rename_i h
  obtain ⟨k, hk, hkn⟩ := isNd_nat h
  rw [hk, tN]
  by_cases e1 : k = t
  ·subst e1
   rw [getD_set_same (by omega)]
   simp
  ·rw [getD_set_ne' e1]
   constructor
   ·exact .inl
   ·rintro (h | ⟨h, _⟩)
    ·exact h
    ·exact absurd (by omega) e1
 ·rename_i h
  constructor
  ·exact .inl
  ·rintro (h' | ⟨h', _⟩)
   ·exact h'
   ·exact absurd (isNd_iff.2 ⟨by omega, by omega⟩) h
theorem turnF_mem {n a : Nat} {t : Nat} (ht : t < n) (x : Nd) : ∀ (l : List Nd) {R : List (List Nd)}, R.length = n →
  (x ∈ (l.foldl (turn1 n a) R).getD t [] ↔ x ∈ R.getD t [] ∨ ∃ e ∈ l, e.op = t ∧ x = ⟨a, e.n⟩)
 | [], R, _ => by simp
 | e :: l, R, hR => by
  rw [List.foldl_cons, turnF_mem ht x l (by rw [turn1_len, hR]), turn1_mem hR e ht]
  simp only [List.mem_cons, exists_eq_or_imp, or_assoc]
theorem turnTo_mem {n : Nat} {E : List (List Nd)} {t : Nat} (ht : t < n) (x : Nd) : ∀ k, (x ∈ (turnTo n E k).getD t [] ↔ ∃ a, a < k ∧ ∃ e ∈ E.getD a [], e.op = t ∧ x = ⟨a, e.n⟩)
 | 0 => by simp [turnTo, List.getD, ht]
 | k + 1 => by
  rw [turnTo, turnF_mem ht x _ (turnTo_len k), turnTo_mem ht x k]
  constructor
  ·rintro (⟨a, ha, h⟩ | h)
   ·exact ⟨a, by omega, h⟩
   ·exact ⟨k, by omega, h⟩
  ·rintro ⟨a, ha, h⟩
   by_cases e : a = k
   ·subst e; exact .inr h
   ·exact .inl ⟨a, by omega, h⟩
theorem turn_tgt {E : List (List Nd)} {t : Nat} (ht : t < E.length) {j : Int} : j ∈ tgts ((turnE E).getD t []) ↔ ∃ a : Nat, j = a ∧ a < E.length ∧ (t : Int) ∈ tgts (E.getD a []) := by
 simp only [tgts, List.mem_map]
 constructor
 ·rintro ⟨x, hx, rfl⟩
  obtain ⟨a, ha, e, he, h1, rfl⟩ := (turnTo_mem ht x _).1 hx
  exact ⟨a, rfl, ha, e, he, h1⟩
 ·rintro ⟨a, rfl, ha, e, he, h1⟩
  exact ⟨⟨a, e.n⟩, (turnTo_mem ht _ _).2 ⟨a, ha, e, he, h1, rfl⟩, rfl⟩
def goalsG (n : Nat) (goal : List Bool) : List Int := ((List.range (min goal.length n)).filter (fun i => goal.getD i false)).map (fun (i : Nat) => (i : Int))
end Go.Proofs.YtiebpncpdbnelaaDoor
namespace Go.Proofs.YtiebpncpdbnelaaDoor
def dvis (d : Int) (s : List Int × List Int) (i : Int) : List Int × List Int :=
 if s.1.getD i.toNat 0 < 0 then (s.1.set i.toNat d, s.2 ++ [i]) else s
def dst0 (n : Nat) (goals : List Int) : List Int × List Int := (goals.foldl (fun D i => D.set i.toNat 0) (List.replicate n (-1)), goals)
def dstep (T : List (List Nd)) (s : List Int × List Int) (k : Nat) : List Int × List Int :=
 match s.2[k]? with
 | some i => (tgts (T.getD i.toNat [])).foldl (dvis (s.1.getD i.toNat 0 + 1)) s
 | none => s
def dstN (n : Nat) (T : List (List Nd)) (goals : List Int) : Nat → List Int × List Int
 | 0 => dst0 n goals
 | k + 1 => dstep T (dstN n T goals k) k
def farG (n : Nat) (T : List (List Nd)) (goals : List Int) : List Int := (dstN n T goals n).1
def TOk (n : Nat) (T : List (List Nd)) : Prop := ∀ (t : Nat), ∀ j ∈ tgts (T.getD t []), isNd n j = true
structure DOk (n : Nat) (T : List (List Nd)) (goals : List Int) (s : List Int × List Int) : Prop where
 len : s.1.length = n
 rng : ∀ i ∈ s.2, isNd n i = true
 cnt : s.2.length = s.1.countP (fun x => decide (0 ≤ x))
 lo : ∀ i : Nat, -1 ≤ s.1.getD i 0
 at_ : ∀ (j : Nat) i, s.2[j]? = some i → 0 ≤ s.1.getD i.toNat 0 ∧ s.1.getD i.toNat 0 ≤ (j : Int)
 mem : ∀ i : Nat, i < n → 0 ≤ s.1.getD i 0 → (i : Int) ∈ s.2
 zero : ∀ i : Nat, i < n → (s.1.getD i 0 = 0 ↔ (i : Int) ∈ goals)
 pre : ∀ i : Nat, i < n → 1 ≤ s.1.getD i 0 → ∃ a ∈ s.2, s.1.getD a.toNat 0 = s.1.getD i 0 - 1 ∧ (i : Int) ∈ tgts (T.getD a.toNat [])
theorem countP_set {l : List Int} {k : Nat} {d : Int} (hk : k < l.length) (h : l.getD k 0 < 0) (hd : 0 ≤ d) : (l.set k d).countP (fun x => decide (0 ≤ x)) = l.countP (fun x => decide (0 ≤ x)) + 1 := by
 induction l generalizing k with
 | nil => simp at hk
 | cons x l ih =>
  cases k with
  | zero =>
   simp [List.getD] at h
   rw [List.set_cons_zero, List.countP_cons, List.countP_cons, if_pos (by simpa using hd), if_neg (by simp; omega)]
  | succ k =>
   simp [List.getD] at h hk
   have := ih (k := k) hk (by simpa [List.getD] using h)
   rw [List.set_cons_succ, List.countP_cons, List.countP_cons, this]
   omega
section
variable {n : Nat} {T : List (List Nd)} {goals : List Int}
structure GOk (n : Nat) (goals : List Int) : Prop where
 rng : ∀ i ∈ goals, isNd n i = true
 dis : goals.Nodup
theorem zeros_getD : ∀ (gs : List Int) (D : List Int), (∀ i ∈ gs, 0 ≤ i ∧ i < (D.length : Int)) → ∀ m : Nat, (gs.foldl (fun D i => D.set i.toNat 0) D).getD m 0 = if (m : Int) ∈ gs then 0 else D.getD m 0
 | [], D, _, m => by simp
 | g :: gs, D, h, m => by
  have h0 := h g (by simp)
  rw [List.foldl_cons, zeros_getD gs (D.set g.toNat 0) (fun i hi => by simpa using h i (by simp [hi])) m]
  by_cases e : (m : Int) = g
  ·subst e
   rw [tN, getD_set_same (by omega)]
   simp
  ·rw [getD_set_ne' (by omega)]
   simp [e]
theorem zeros_len : ∀ (gs : List Int) (D : List Int), (gs.foldl (fun D i => D.set i.toNat 0) D).length = D.length
 | [], _ => rfl
 | g :: gs, D => by rw [List.foldl_cons, zeros_len gs]; simp
theorem zeros_cnt : ∀ (gs : List Int) (D : List Int), gs.Nodup → (∀ i ∈ gs, 0 ≤ i ∧ i < (D.length : Int) ∧ D.getD i.toNat 0 < 0) →
  (gs.foldl (fun D i => D.set i.toNat 0) D).countP (fun x => decide (0 ≤ x)) = D.countP (fun x => decide (0 ≤ x)) + gs.length
 | [], D, _, _ => by simp
 | g :: gs, D, hn, h => by
  have h0 := h g (by simp)
  rw [List.nodup_cons] at hn
  rw [List.foldl_cons, zeros_cnt gs (D.set g.toNat 0) hn.2 (fun i hi => by
   have hi' := h i (by simp [hi])
   have hne : i ≠ g := fun e => hn.1 (e ▸ hi)
   refine ⟨hi'.1, by simpa using hi'.2.1, ?_⟩
   rw [getD_set_ne' (by omega)]
   exact hi'.2.2), countP_set (by omega) h0.2.2 (by omega), List.length_cons]
  omega
theorem dst0_ok (hg : GOk n goals) : DOk n T goals (dst0 n goals) := by
 have hr : ∀ i ∈ goals, 0 ≤ i ∧ i < ((List.replicate n (-1 : Int)).length : Int) := fun i hi => by
  have := isNd_iff.1 (hg.rng i hi); simpa using this
 have hz := zeros_getD goals (List.replicate n (-1)) hr
 have hm1 : ∀ m : Nat, (List.replicate n (-1 : Int)).getD m 0 = if m < n then -1 else 0 := fun m => by
  by_cases h : m < n <;> simp [List.getD, h]
 refine ⟨?_, hg.rng, ?_, ?_, ?_, ?_, ?_, ?_⟩
 ·show (goals.foldl (fun D i => D.set i.toNat 0) (List.replicate n (-1))).length = n
  rw [zeros_len]; simp
 ·show goals.length = (goals.foldl (fun D i => D.set i.toNat 0) (List.replicate n (-1))).countP _
  rw [zeros_cnt goals _ hg.dis (fun i hi => ⟨(hr i hi).1, (hr i hi).2, by
   have := isNd_iff.1 (hg.rng i hi)
   rw [hm1, if_pos (by omega)]; decide⟩)]
  rw [List.countP_replicate]; simp
 ·intro i
  show -1 ≤ (goals.foldl (fun D i => D.set i.toNat 0) (List.replicate n (-1))).getD i 0
  rw [hz, hm1]
  split
  ·decide
  ·split <;> decide
 ·intro j i hi
  have hi' : i ∈ goals := List.mem_of_getElem? hi
  have := isNd_iff.1 (hg.rng i hi')
  show 0 ≤ (goals.foldl (fun D i => D.set i.toNat 0) (List.replicate n (-1))).getD i.toNat 0 ∧ (goals.foldl (fun D i => D.set i.toNat 0) (List.replicate n (-1))).getD i.toNat 0 ≤ (j : Int)
  rw [hz, if_pos (by rw [Int.toNat_of_nonneg this.1]; exact hi')]
  omega
 ·intro i hi h
  have h' : 0 ≤ (goals.foldl (fun D i => D.set i.toNat 0) (List.replicate n (-1))).getD i 0 := h
  rw [hz, hm1, if_pos hi] at h'
  show (i : Int) ∈ goals
  by_cases hx : (i : Int) ∈ goals
  ·exact hx
  ·rw [if_neg hx] at h'; omega
 ·intro i hi
  show (goals.foldl (fun D i => D.set i.toNat 0) (List.replicate n (-1))).getD i 0 = 0 ↔ _
  rw [hz, hm1, if_pos hi]
  by_cases hx : (i : Int) ∈ goals <;> simp [hx]
 ·intro i hi h
  have h' : 1 ≤ (goals.foldl (fun D i => D.set i.toNat 0) (List.replicate n (-1))).getD i 0 := h
  rw [hz, hm1] at h'
  split at h' <;> (try split at h') <;> omega
theorem dvis_ok {s : List Int × List Int} (h : DOk n T goals s) {a : Int} (ha : a ∈ s.2) {i : Int} (hi : i ∈ tgts (T.getD a.toNat [])) (hn : isNd n i = true) (hl : s.1.getD a.toNat 0 + 1 ≤ (s.2.length : Int)) :
  DOk n T goals (dvis (s.1.getD a.toNat 0 + 1) s i) ∧ (dvis (s.1.getD a.toNat 0 + 1) s i).1.getD a.toNat 0 = s.1.getD a.toNat 0 := by
 obtain ⟨k, rfl, hk⟩ := isNd_nat hn
 obtain ⟨ja, hja⟩ := List.getElem?_of_mem ha
 have ha0 := (h.at_ ja a hja).1
 obtain ⟨m, hm, hmn⟩ := isNd_nat (h.rng a ha)
 subst hm
 rw [tN] at *
 unfold dvis
 rw [tN]
 split
 ·rename_i hc
  have hkm : k ≠ m := fun e => by subst e; omega
  have hlen := h.len
  generalize hd : s.1.getD m 0 + 1 = d at *
  have hd0 : 1 ≤ d := by omega
  have gs : ∀ j : Nat, (s.1.set k d).getD j 0 = if j = k then d else s.1.getD j 0 := fun j => by
   by_cases e : j = k
   ·subst e; rw [getD_set_same (by omega), if_pos rfl]
   ·rw [getD_set_ne' (fun h => e h.symm), if_neg e]
  refine ⟨⟨by simp [hlen], ?_, ?_, ?_, ?_, ?_, ?_, ?_⟩, ?_⟩
  ·intro j hj
   simp only [List.mem_append, mS] at hj
   rcases hj with hj | rfl
   ·exact h.rng j hj
   ·exact hn
  ·dsimp only
   rw [countP_set (by omega) hc (by omega), lA, h.cnt]; simp
  ·intro j
   dsimp only
   rw [gs]
   split
   ·omega
   ·exact h.lo j
  ·intro j i hj
   dsimp only at hj ⊢
   rw [gs]
   by_cases hjl : j < s.2.length
   ·rw [gC hjl] at hj
    have := h.at_ j i hj
    rw [if_neg (fun e => by rw [e] at this; omega)]
    exact this
   ·rw [gR (by omega)] at hj
    have hj0 : j - s.2.length = 0 := by
     have := (gB.1 hj).1
     simp at this; omega
    rw [hj0] at hj
    simp at hj
    subst hj
    rw [tN, if_pos rfl]
    omega
  ·intro j hj hx
   dsimp only at hx ⊢
   rw [gs] at hx
   simp only [List.mem_append, mS]
   by_cases e : j = k
   ·exact .inr (by omega)
   ·rw [if_neg e] at hx
    exact .inl (h.mem j hj hx)
  ·intro j hj
   dsimp only
   rw [gs]
   by_cases e : j = k
   ·rw [if_pos e]
    have := h.zero j hj
    rw [e] at this ⊢
    constructor
    ·intro h'; omega
    ·intro h'; have := this.2 h'; omega
   ·rw [if_neg e]; exact h.zero j hj
  ·intro j hj hx
   dsimp only at hx ⊢
   rw [gs] at hx
   by_cases e : j = k
   ·rw [if_pos e] at hx
    refine ⟨(m : Int), by simp [ha], ?_, ?_⟩
    ·rw [tN, gs, gs, if_neg (fun h => hkm h.symm), if_pos e]; omega
    ·rw [e, tN]; exact hi
   ·rw [if_neg e] at hx
    obtain ⟨b, hb, h1, h2⟩ := h.pre j hj hx
    refine ⟨b, by simp [hb], ?_, h2⟩
    rw [gs, gs, if_neg e, if_neg (fun h' => by rw [h'] at h1; omega)]
    exact h1
  ·dsimp only
   rw [gs, if_neg (fun h => hkm h.symm)]
 ·exact ⟨h, rfl⟩
theorem dfold_ok {a : Int} : ∀ (l : List Int) {s : List Int × List Int}, DOk n T goals s → a ∈ s.2 → (∀ i ∈ l, i ∈ tgts (T.getD a.toNat []) ∧ isNd n i = true) → s.1.getD a.toNat 0 + 1 ≤ (s.2.length : Int) →
  DOk n T goals (l.foldl (dvis (s.1.getD a.toNat 0 + 1)) s)
 | [], s, h, _, _, _ => h
 | i :: l, s, h, ha, hl, hb => by
  obtain ⟨h1, h2⟩ := dvis_ok h ha (hl i (by simp)).1 (hl i (by simp)).2 hb
  have hs : ∃ r, (dvis (s.1.getD a.toNat 0 + 1) s i).2 = s.2 ++ r := by
   unfold dvis; split
   ·exact ⟨[i], rfl⟩
   ·exact ⟨[], by simp⟩
  obtain ⟨r, hr⟩ := hs
  have := dfold_ok l h1 (by rw [hr]; simp [ha]) (fun j hj => hl j (by simp [hj])) (by rw [h2, hr, lA]; omega)
  rw [h2] at this
  exact this
theorem dstN_ok (hT : TOk n T) (hg : GOk n goals) : ∀ k, DOk n T goals (dstN n T goals k)
 | 0 => dst0_ok hg
 | k + 1 => by
  have ih := dstN_ok hT hg k
  rw [dstN, dstep]
  split
  ·rename_i i hi
   have h1 := ih.at_ k i hi
   have hk := (gB.1 hi).1
   exact dfold_ok _ ih (List.mem_of_getElem? hi) (fun j hj => ⟨hj, hT _ j hj⟩) (by omega)
  ·exact ih
theorem DOk.le {s : List Int × List Int} (h : DOk n T goals s) : s.2.length ≤ n := by
 rw [h.cnt, ← h.len]; exact List.countP_le_length
theorem DOk.hi {s : List Int × List Int} (h : DOk n T goals s) (i : Nat) (hi : i < n) : s.1.getD i 0 < (n : Int) := by
 by_cases h0 : 0 ≤ s.1.getD i 0
 ·obtain ⟨j, hj⟩ := List.getElem?_of_mem (h.mem i hi h0)
  have h1 := h.at_ j i hj
  have := (gB.1 hj).1
  have := h.le
  rw [tN] at h1
  omega
 ·omega
theorem dstN_next {k : Nat} {i : Int} (h : (dstN n T goals k).2[k]? = some i) : dstN n T goals (k + 1) = (tgts (T.getD i.toNat [])).foldl (dvis ((dstN n T goals k).1.getD i.toNat 0 + 1)) (dstN n T goals k) := by
 rw [dstN, dstep, h]
theorem dstN_stop {k : Nat} (h : (dstN n T goals k).2.length ≤ k) : ∀ d, dstN n T goals (k + d) = dstN n T goals k
 | 0 => rfl
 | d + 1 => by
  have ih := dstN_stop h d
  rw [← Nat.add_assoc, dstN, ih, dstep, List.getElem?_eq_none (by omega)]
theorem farG_end (hT : TOk n T) (hg : GOk n goals) {k : Nat} (hk : k ≤ (dstN n T goals k).2.length) (h : (dstN n T goals k).2.length ≤ k) : farG n T goals = (dstN n T goals k).1 := by
 have := (dstN_ok hT hg k).le
 have e := dstN_stop h (n - k)
 rw [show k + (n - k) = n by omega] at e
 rw [farG, e]
theorem dfold_new {d : Int} (hd : 0 ≤ d) : ∀ (l : List Int) (s : List Int × List Int), (∀ i ∈ l, 0 ≤ i ∧ i < (s.1.length : Int)) →
  (∃ r, (l.foldl (dvis d) s).2 = s.2 ++ r ∧ ∀ i ∈ r, (l.foldl (dvis d) s).1.getD i.toNat 0 = d) ∧ (∀ m : Nat, 0 ≤ s.1.getD m 0 → (l.foldl (dvis d) s).1.getD m 0 = s.1.getD m 0) ∧ (l.foldl (dvis d) s).1.length = s.1.length
 | [], s, _ => ⟨⟨[], by simp⟩, by simp, rfl⟩
 | i :: l, s, h => by
  have h0 := h i (by simp)
  rw [List.foldl_cons]
  by_cases hc : s.1.getD i.toNat 0 < 0
  ·have e : dvis d s i = (s.1.set i.toNat d, s.2 ++ [i]) := by rw [dvis, if_pos hc]
   obtain ⟨⟨r, h1, h2⟩, h3, h4⟩ := dfold_new hd l (dvis d s i) (fun j hj => by rw [e]; simpa using h j (by simp [hj]))
   rw [e] at h1 h2 h3 h4 ⊢
   refine ⟨⟨i :: r, by rw [h1]; simp, fun j hj => ?_⟩, fun m hm => ?_, by rw [h4]; simp⟩
   ·rcases List.mem_cons.1 hj with rfl | hj
    ·rw [h3 _ (by dsimp only; rw [getD_set_same (by omega)]; exact hd)]
     dsimp only; rw [getD_set_same (by omega)]
    ·exact h2 j hj
   ·have hne : i.toNat ≠ m := fun e => by rw [e] at hc; omega
    rw [h3 m (by dsimp only; rw [getD_set_ne' hne]; exact hm)]
    dsimp only; rw [getD_set_ne' hne]
  ·have e : dvis d s i = s := by rw [dvis, if_neg hc]
   rw [e]
   exact dfold_new hd l s (fun j hj => h j (by simp [hj]))
end
end Go.Proofs.YtiebpncpdbnelaaDoor
