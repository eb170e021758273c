/- Texts of one kind, in one file. -/
import Derived.Test.YtamhjgkigjpbhaaDoorMa

/- (XGrP) Graphs: what ways reach, by a list of open nodes. Plain. -/
namespace Go.Proofs.YtamhjgkigjpbhaaDoor

/-- A graph: first nodes, of each node its edges (op: where it leads to; n: its act), labels. -/
structure Gph where
  init : List Int
  edges : List (List Nd)
  labels : List Int

def isNd (n : Nat) (i : Int) : Bool := decide (0 ≤ i) && decide (i < (n : Int))
theorem isNd_iff {n : Nat} {i : Int} : isNd n i = true ↔ 0 ≤ i ∧ i < (n : Int) := by simp [isNd]
theorem isNd_nat {n : Nat} {i : Int} (h : isNd n i = true) : ∃ k : Nat, i = k ∧ k < n := by
  have := isNd_iff.1 h
  exact ⟨i.toNat, by omega, by omega⟩

/-- A node is met: marked and opened, if it is new. -/
def vis (n : Nat) (s : List Bool × List Int) (i : Int) : List Bool × List Int :=
  if isNd n i = true ∧ s.1.getD i.toNat true = false then (s.1.set i.toNat true, s.2 ++ [i]) else s
def tgts (l : List Nd) : List Int := l.map (·.op)
/-- The node that is next behind k is gone through. -/
def stepN (n : Nat) (E : List (List Nd)) (s : List Bool × List Int) (k : Nat) : List Bool × List Int :=
  match s.2[k]? with
  | some i => (tgts (E.getD i.toNat [])).foldl (vis n) s
  | none => s
/-- After k nodes. -/
def stN (n : Nat) (E : List (List Nd)) (from_ : List Int) : Nat → List Bool × List Int
  | 0 => from_.foldl (vis n) (List.replicate n false, [])
  | k + 1 => stepN n E (stN n E from_ k) k
/-- What is known of marks and open nodes. -/
structure VOk (n : Nat) (s : List Bool × List Int) : Prop where
  len : s.1.length = n
  cnt : s.2.length = s.1.count true
  rng : ∀ i ∈ s.2, isNd n i = true

theorem count_set {l : List Bool} {k : Nat} (hk : k < l.length) (h : l.getD k true = false) : (l.set k true).count true = l.count true + 1 := by
  induction l generalizing k with
  | nil => simp at hk
  | cons x l ih =>
    cases k with
    | zero =>
      simp [List.getD] at h
      subst h
      simp
    | succ k =>
      simp [List.getD] at h hk
      have := ih (k := k) hk (by simpa [List.getD] using h)
      simp [List.count_cons, this]
      omega
theorem vis_ok {n : Nat} {s : List Bool × List Int} (h : VOk n s) (i : Int) : VOk n (vis n s i) := by
  unfold vis
  split
  · rename_i hc
    obtain ⟨k, rfl, hk⟩ := isNd_nat hc.1
    refine ⟨by simp [h.len], ?_, ?_⟩
    · simp only [List.length_append, List.length_cons, List.length_nil, Int.toNat_natCast]
      rw [count_set (by rw [h.len]; exact hk) (by simpa using hc.2), h.cnt]
    · intro j hj
      simp only [List.mem_append, List.mem_singleton] at hj
      rcases hj with hj | rfl
      · exact h.rng j hj
      · exact hc.1
  · exact h
theorem fold_ok {n : Nat} : ∀ (l : List Int) {s : List Bool × List Int}, VOk n s → VOk n (l.foldl (vis n) s)
  | [], _, h => h
  | i :: l, _, h => fold_ok l (vis_ok h i)
theorem st0_ok (n : Nat) : VOk n (List.replicate n false, []) := ⟨by simp, by simp [List.count_replicate], by simp⟩
theorem stN_ok (n : Nat) (E : List (List Nd)) (from_ : List Int) : ∀ k, VOk n (stN n E from_ k)
  | 0 => fold_ok _ (st0_ok n)
  | k + 1 => by
    rw [stN, stepN]
    split
    · exact fold_ok _ (stN_ok n E from_ k)
    · exact stN_ok n E from_ k
theorem VOk.le {n : Nat} {s : List Bool × List Int} (h : VOk n s) : s.2.length ≤ n := by
  rw [h.cnt, ← h.len]; exact List.count_le_length
theorem VOk.lt {n : Nat} {s : List Bool × List Int} (h : VOk n s) {k : Nat} (hk : k < n) (hf : s.1.getD k true = false) : s.2.length < n := by
  have h1 := h.le
  have h2 := vis_ok h (k : Int)
  have h3 : (vis n s (k : Int)).2.length = s.2.length + 1 := by
    rw [vis, if_pos ⟨isNd_iff.2 ⟨by omega, by omega⟩, by simpa using hf⟩]; simp
  have := h2.le
  omega
theorem fold_grow {n : Nat} : ∀ (l : List Int) (s : List Bool × List Int), ∃ r, (l.foldl (vis n) s).2 = s.2 ++ r
  | [], s => ⟨[], by simp⟩
  | i :: l, s => by
    obtain ⟨r, hr⟩ := fold_grow l (vis n s i)
    unfold vis at hr
    simp only [List.foldl_cons]
    unfold vis
    split at hr
    · rename_i h
      rw [if_pos h]
      exact ⟨i :: r, by rw [hr]; simp⟩
    · rename_i h
      rw [if_neg h]
      exact ⟨r, hr⟩
theorem stN_grow {n : Nat} {E : List (List Nd)} {from_ : List Int} (k : Nat) : ∃ r, (stN n E from_ (k + 1)).2 = (stN n E from_ k).2 ++ r := by
  rw [stN, stepN]
  split
  · exact fold_grow _ _
  · exact ⟨[], by simp⟩
theorem stN_next {n : Nat} {E : List (List Nd)} {from_ : List Int} {k : Nat} {i : Int} (h : (stN n E from_ k).2[k]? = some i) : stN n E from_ (k + 1) = (tgts (E.getD i.toNat [])).foldl (vis n) (stN n E from_ k) := by
  rw [stN, stepN, h]
theorem stN_stop {n : Nat} {E : List (List Nd)} {from_ : List Int} {k : Nat} (h : (stN n E from_ k).2.length ≤ k) : ∀ d, stN n E from_ (k + d) = stN n E from_ k
  | 0 => rfl
  | d + 1 => by
    have ih := stN_stop h d
    rw [← Nat.add_assoc, stN, ih, stepN, List.getElem?_eq_none (by omega)]

/-- The marks at the end: as many steps as there are nodes are enough. -/
def reachG (n : Nat) (E : List (List Nd)) (from_ : List Int) : List Bool := (stN n E from_ n).1
theorem reachG_end {n : Nat} {E : List (List Nd)} {from_ : List Int} {k : Nat} (hk : k ≤ (stN n E from_ k).2.length) (h : (stN n E from_ k).2.length ≤ k) : reachG n E from_ = (stN n E from_ k).1 := by
  have := (stN_ok n E from_ k).le
  rw [reachG, show n = k + (n - k) by omega]
  have e := stN_stop (E := E) (from_ := from_) (n := k + (n - k)) (k := k) (by rw [show k + (n - k) = n by omega]; exact h) (n - k)
  rw [e]
theorem reachG_len (n : Nat) (E : List (List Nd)) (from_ : List Int) : (reachG n E from_).length = n := (stN_ok n E from_ n).len

/-- What a way leads to. -/
inductive Rch (n : Nat) (E : List (List Nd)) (from_ : List Int) : Int → Prop
  | start {i : Int} : i ∈ from_ → isNd n i = true → Rch n E from_ i
  | step {i j : Int} : Rch n E from_ i → j ∈ tgts (E.getD i.toNat []) → isNd n j = true → Rch n E from_ j
theorem Rch.node {n : Nat} {E : List (List Nd)} {from_ : List Int} {i : Int} (h : Rch n E from_ i) : isNd n i = true := by
  cases h <;> assumption

/-- Marked and open are one. -/
def Same2 (n : Nat) (s : List Bool × List Int) : Prop := ∀ i : Int, isNd n i = true → (i ∈ s.2 ↔ s.1.getD i.toNat false = true)
theorem vis_mem {n : Nat} {s : List Bool × List Int} (hl : s.1.length = n) (h : Same2 n s) (i : Int) : Same2 n (vis n s i) ∧ (∀ j, j ∈ (vis n s i).2 ↔ j ∈ s.2 ∨ (j = i ∧ isNd n i = true)) := by
  unfold vis
  split
  · rename_i hc
    obtain ⟨k, rfl, hk⟩ := isNd_nat hc.1
    refine ⟨fun j hj => ?_, fun j => by simp [hc.1]⟩
    obtain ⟨m, rfl, hm⟩ := isNd_nat hj
    simp only [List.mem_append, List.mem_singleton, Int.toNat_natCast]
    by_cases e : (m : Int) = k
    · have : m = k := by omega
      subst this
      simp [List.getD, hl, hm]
    · have hne : k ≠ m := fun h => e (by omega)
      have := h (m : Int) hj
      rw [this]
      simp only [Int.toNat_natCast, List.getD, List.getElem?_set_ne hne]
      simp [e]
  · rename_i hc
    refine ⟨h, fun j => ⟨.inl, ?_⟩⟩
    rintro (hj | ⟨rfl, hj⟩)
    · exact hj
    · obtain ⟨k, rfl, hk⟩ := isNd_nat hj
      refine (h _ hj).2 ?_
      have hx : ¬ s.1.getD k true = false := fun e => hc ⟨hj, by simpa using e⟩
      simp only [Int.toNat_natCast]
      simp only [List.getD, List.getElem?_eq_getElem (show k < s.1.length by omega), Option.getD_some] at hx ⊢
      simpa using hx
theorem fold_mem {n : Nat} : ∀ (l : List Int) {s : List Bool × List Int}, VOk n s → Same2 n s → Same2 n (l.foldl (vis n) s) ∧ (∀ j, j ∈ (l.foldl (vis n) s).2 ↔ j ∈ s.2 ∨ (j ∈ l ∧ isNd n j = true))
  | [], s, _, h => ⟨h, by simp⟩
  | i :: l, s, ho, h => by
    obtain ⟨h1, h2⟩ := vis_mem ho.len h i
    obtain ⟨h3, h4⟩ := fold_mem l (vis_ok ho i) h1
    refine ⟨h3, fun j => ?_⟩
    rw [List.foldl_cons, h4, h2]
    simp only [List.mem_cons]
    constructor
    · rintro ((h | ⟨rfl, h⟩) | ⟨h, h'⟩)
      · exact .inl h
      · exact .inr ⟨.inl rfl, h⟩
      · exact .inr ⟨.inr h, h'⟩
    · rintro (h | ⟨rfl | h, h'⟩)
      · exact .inl (.inl h)
      · exact .inl (.inr ⟨rfl, h'⟩)
      · exact .inr ⟨h, h'⟩
theorem same2_0 (n : Nat) : Same2 n (List.replicate n false, []) := fun i hi => by
  obtain ⟨k, rfl, hk⟩ := isNd_nat hi
  simp [List.getD, hk]
theorem stN_same (n : Nat) (E : List (List Nd)) (from_ : List Int) : ∀ k, Same2 n (stN n E from_ k)
  | 0 => (fold_mem _ (st0_ok n) (same2_0 n)).1
  | k + 1 => by
    rw [stN, stepN]
    split
    · exact (fold_mem _ (stN_ok n E from_ k) (stN_same n E from_ k)).1
    · exact stN_same n E from_ k
theorem stN_rch {n : Nat} {E : List (List Nd)} {from_ : List Int} : ∀ (k : Nat) (i : Int), i ∈ (stN n E from_ k).2 → Rch n E from_ i
  | 0, i, h => by
    rw [stN, (fold_mem _ (st0_ok n) (same2_0 n)).2] at h
    rcases h with h | ⟨h, h'⟩
    · simp at h
    · exact .start h h'
  | k + 1, i, h => by
    rw [stN, stepN] at h
    split at h
    · rename_i x hx
      rw [(fold_mem _ (stN_ok n E from_ k) (stN_same n E from_ k)).2] at h
      rcases h with h | ⟨h, h'⟩
      · exact stN_rch k i h
      · exact .step (stN_rch k x (List.mem_of_getElem? hx)) h h'
    · exact stN_rch k i h
theorem stN_up {n : Nat} {E : List (List Nd)} {from_ : List Int} {k : Nat} : ∀ d, ∃ r, (stN n E from_ (k + d)).2 = (stN n E from_ k).2 ++ r
  | 0 => ⟨[], by simp⟩
  | d + 1 => by
    obtain ⟨r, hr⟩ := stN_up (k := k) d
    obtain ⟨r', hr'⟩ := stN_grow (n := n) (E := E) (from_ := from_) (k + d)
    exact ⟨r ++ r', by rw [← Nat.add_assoc, hr', hr, List.append_assoc]⟩
/-- Marked at the end: just what a way leads to. -/
theorem reachG_iff {n : Nat} {E : List (List Nd)} {from_ : List Int} {i : Int} (hi : isNd n i = true) : (reachG n E from_).getD i.toNat false = true ↔ Rch n E from_ i := by
  rw [reachG, ← stN_same n E from_ n i hi]
  refine ⟨stN_rch n i, fun h => ?_⟩
  clear hi
  induction h with
  | start h h' =>
    obtain ⟨r, hr⟩ := stN_up (n := n) (E := E) (from_ := from_) (k := 0) n
    rw [Nat.zero_add] at hr
    rw [hr, List.mem_append]
    exact .inl (((fold_mem _ (st0_ok n) (same2_0 n)).2 _).2 (.inr ⟨h, h'⟩))
  | @step i j _ hj hn ih =>
    obtain ⟨k, hk⟩ := List.getElem?_of_mem ih
    have hkn : k < n := by
      have := (List.getElem?_eq_some_iff.1 hk).1
      have := (stN_ok n E from_ n).le
      omega
    -- at step k the node stands at k already
    have hk' : (stN n E from_ k).2[k]? = some i := by
      by_cases hs : k < (stN n E from_ k).2.length
      · obtain ⟨r, hr⟩ := stN_up (n := n) (E := E) (from_ := from_) (k := k) (n - k)
        rw [show k + (n - k) = n by omega] at hr
        rw [hr, List.getElem?_append_left hs] at hk
        exact hk
      · have e := stN_stop (n := n) (E := E) (from_ := from_) (k := k) (by omega) (n - k)
        rw [show k + (n - k) = n by omega] at e
        rw [e] at hk
        exact hk
    obtain ⟨r, hr⟩ := stN_up (n := n) (E := E) (from_ := from_) (k := k + 1) (n - (k + 1))
    rw [show k + 1 + (n - (k + 1)) = n by omega] at hr
    rw [hr, List.mem_append]
    left
    rw [stN_next hk', (fold_mem _ (stN_ok n E from_ k) (stN_same n E from_ k)).2]
    exact .inr ⟨hj, hn⟩
end Go.Proofs.YtamhjgkigjpbhaaDoor

/- (XGrQ) Graphs: turned about, made total; how far nodes are from goals. Plain. -/
namespace Go.Proofs.YtamhjgkigjpbhaaDoor

/-- An edge of the node a is turned about. -/
def turn1 (n a : Nat) (R : List (List Nd)) (e : Nd) : List (List Nd) :=
  if isNd n e.op = true then R.set e.op.toNat (R.getD e.op.toNat [] ++ [⟨a, e.n⟩]) else R
def turnTo (n : Nat) (E : List (List Nd)) : Nat → List (List Nd)
  | 0 => List.replicate n []
  | a + 1 => (E.getD a []).foldl (turn1 n a) (turnTo n E a)
def turnE (E : List (List Nd)) : List (List Nd) := turnTo E.length E E.length
theorem turn1_len {n a : Nat} (R : List (List Nd)) (e : Nd) : (turn1 n a R e).length = R.length := by unfold turn1; split <;> simp
theorem turnF_len {n a : Nat} : ∀ (l : List Nd) (R : List (List Nd)), (l.foldl (turn1 n a) R).length = R.length
  | [], _ => rfl
  | e :: l, R => by rw [List.foldl_cons, turnF_len l, turn1_len]
theorem turnTo_len {n : Nat} {E : List (List Nd)} : ∀ a, (turnTo n E a).length = n
  | 0 => by simp [turnTo]
  | a + 1 => by rw [turnTo, turnF_len, turnTo_len a]
theorem turnE_len (E : List (List Nd)) : (turnE E).length = E.length := turnTo_len _

theorem getD_set_same {α : Type} {l : List α} {k : Nat} {x d : α} (h : k < l.length) : (l.set k x).getD k d = x := by simp [List.getD, h]
theorem getD_set_ne' {α : Type} {l : List α} {k m : Nat} {x d : α} (h : k ≠ m) : (l.set k x).getD m d = l.getD m d := by simp [List.getD, List.getElem?_set_ne h]

theorem turn1_mem {n a : Nat} {R : List (List Nd)} (hR : R.length = n) (e : Nd) {t : Nat} (ht : t < n) (x : Nd) :
    x ∈ (turn1 n a R e).getD t [] ↔ x ∈ R.getD t [] ∨ (e.op = t ∧ x = ⟨a, e.n⟩) := by
  unfold turn1
  split
  · rename_i h
    obtain ⟨k, hk, hkn⟩ := isNd_nat h
    rw [hk, Int.toNat_natCast]
    by_cases e1 : k = t
    · subst e1
      rw [getD_set_same (by omega)]
      simp
    · rw [getD_set_ne' e1]
      constructor
      · exact .inl
      · rintro (h | ⟨h, _⟩)
        · exact h
        · exact absurd (by omega) e1
  · rename_i h
    constructor
    · exact .inl
    · rintro (h' | ⟨h', _⟩)
      · exact h'
      · exact absurd (isNd_iff.2 ⟨by omega, by omega⟩) h
theorem turnF_mem {n a : Nat} {t : Nat} (ht : t < n) (x : Nd) : ∀ (l : List Nd) {R : List (List Nd)}, R.length = n →
    (x ∈ (l.foldl (turn1 n a) R).getD t [] ↔ x ∈ R.getD t [] ∨ ∃ e ∈ l, e.op = t ∧ x = ⟨a, e.n⟩)
  | [], R, _ => by simp
  | e :: l, R, hR => by
    rw [List.foldl_cons, turnF_mem ht x l (by rw [turn1_len, hR]), turn1_mem hR e ht]
    simp only [List.mem_cons, exists_eq_or_imp, or_assoc]
theorem turnTo_mem {n : Nat} {E : List (List Nd)} {t : Nat} (ht : t < n) (x : Nd) : ∀ k, (x ∈ (turnTo n E k).getD t [] ↔ ∃ a, a < k ∧ ∃ e ∈ E.getD a [], e.op = t ∧ x = ⟨a, e.n⟩)
  | 0 => by simp [turnTo, List.getD, ht]
  | k + 1 => by
    rw [turnTo, turnF_mem ht x _ (turnTo_len k), turnTo_mem ht x k]
    constructor
    · rintro (⟨a, ha, h⟩ | h)
      · exact ⟨a, by omega, h⟩
      · exact ⟨k, by omega, h⟩
    · rintro ⟨a, ha, h⟩
      by_cases e : a = k
      · subst e; exact .inr h
      · exact .inl ⟨a, by omega, h⟩
theorem turn_tgt {E : List (List Nd)} {t : Nat} (ht : t < E.length) {j : Int} : j ∈ tgts ((turnE E).getD t []) ↔ ∃ a : Nat, j = a ∧ a < E.length ∧ (t : Int) ∈ tgts (E.getD a []) := by
  simp only [tgts, List.mem_map]
  constructor
  · rintro ⟨x, hx, rfl⟩
    obtain ⟨a, ha, e, he, h1, rfl⟩ := (turnTo_mem ht x _).1 hx
    exact ⟨a, rfl, ha, e, he, h1⟩
  · rintro ⟨a, rfl, ha, e, he, h1⟩
    exact ⟨⟨a, e.n⟩, (turnTo_mem ht _ _).2 ⟨a, ha, e, he, h1, rfl⟩, rfl⟩
/-- A way in the graph turned about leads the other way round. -/
theorem Rch.snoc {n : Nat} {E : List (List Nd)} {a : Int} : ∀ {j : Int}, Rch n E [a] j → ∀ {b : Int}, (b = a ∨ (isNd n b = true ∧ a ∈ tgts (E.getD b.toNat []))) → isNd n b = true → Rch n E [b] j := by
  intro j h b hb hn
  induction h with
  | start h1 h2 =>
    simp at h1
    subst h1
    rcases hb with rfl | ⟨h3, h4⟩
    · exact .start (by simp) hn
    · exact .step (.start (by simp) hn) h4 h2
  | step _ h2 h3 ih => exact .step ih h2 h3
theorem Rch.turn {E : List (List Nd)} {a b : Int} (ha : isNd E.length a = true) (h : Rch E.length E [a] b) : Rch E.length (turnE E) [b] a := by
  induction h with
  | start h1 h2 => simp at h1; subst h1; exact .start (by simp) h2
  | @step i j hi h2 h3 ih =>
    obtain ⟨k, rfl, hk⟩ := isNd_nat h3
    obtain ⟨m, rfl, hm⟩ := isNd_nat hi.node
    refine ih.snoc (.inr ⟨h3, ?_⟩) h3
    rw [Int.toNat_natCast, turn_tgt hk]
    exact ⟨m, rfl, hm, by simpa using h2⟩
theorem Rch.unturn {E : List (List Nd)} {a b : Int} (_ha : isNd E.length a = true) (h : Rch E.length (turnE E) [b] a) (hb : isNd E.length b = true) : Rch E.length E [a] b := by
  clear _ha
  induction h with
  | start h1 h2 => simp at h1; subst h1; exact .start (by simp) h2
  | @step i j hi h2 h3 ih =>
    obtain ⟨k, rfl, hk⟩ := isNd_nat h3
    obtain ⟨m, rfl, hm⟩ := isNd_nat hi.node
    rw [Int.toNat_natCast, turn_tgt hm] at h2
    obtain ⟨a, e1, _, h4⟩ := h2
    have : k = a := by omega
    subst this
    exact ih.snoc (.inr ⟨h3, by simpa using h4⟩) h3
theorem reach_turn {E : List (List Nd)} {a b : Nat} (ha : a < E.length) (hb : b < E.length) : (reachG E.length (turnE E) [(b : Int)]).getD a false = (reachG E.length E [(a : Int)]).getD b false := by
  have na : isNd E.length (a : Int) = true := isNd_iff.2 ⟨by omega, by omega⟩
  have nb : isNd E.length (b : Int) = true := isNd_iff.2 ⟨by omega, by omega⟩
  rw [Bool.eq_iff_iff]
  have h1 := reachG_iff (E := turnE E) (from_ := [(b : Int)]) na
  have h2 := reachG_iff (E := E) (from_ := [(a : Int)]) nb
  simp only [Int.toNat_natCast] at h1 h2
  rw [h1, h2]
  exact ⟨fun h => h.unturn na nb, fun h => h.turn na⟩

/-- Each node has an edge: what leads nowhere leads to itself. -/
def totRow (n a : Nat) (l : List Nd) : List Nd := if l.filter (fun e => isNd n e.op) = [] then [⟨a, -1⟩] else l.filter (fun e => isNd n e.op)
def totalE (E : List (List Nd)) : List (List Nd) := (List.range E.length).map fun a => totRow E.length a (E.getD a [])
theorem totalE_len (E : List (List Nd)) : (totalE E).length = E.length := by simp [totalE]
theorem totRow_ne (n a : Nat) (l : List Nd) : totRow n a l ≠ [] := by unfold totRow; split <;> simp_all
theorem totRow_tot {n a : Nat} (ha : a < n) (l : List Nd) : totRow n a (totRow n a l) = totRow n a l := by
  have h : (totRow n a l).filter (fun e => isNd n e.op) = totRow n a l := by
    rw [List.filter_eq_self]
    intro e he
    unfold totRow at he
    split at he
    · simp at he; subst he; exact isNd_iff.2 ⟨by simp, by simp; omega⟩
    · exact (List.mem_filter.1 he).2
  rw [show totRow n a (totRow n a l) = if (totRow n a l).filter (fun e => isNd n e.op) = [] then [⟨a, -1⟩] else (totRow n a l).filter (fun e => isNd n e.op) from rfl, h, if_neg (totRow_ne n a l)]
theorem totalE_tot (E : List (List Nd)) : totalE (totalE E) = totalE E := by
  conv => lhs; rw [totalE, totalE_len]
  conv => rhs; rw [totalE]
  refine List.map_congr_left (fun a ha => ?_)
  have ha := List.mem_range.1 ha
  have : (totalE E).getD a [] = totRow E.length a (E.getD a []) := by simp [totalE, List.getD, ha]
  rw [this, totRow_tot ha]

/-- The nodes that are goals, rising. -/
def goalsG (n : Nat) (goal : List Bool) : List Int := ((List.range (min goal.length n)).filter (fun i => goal.getD i false)).map (fun (i : Nat) => (i : Int))
end Go.Proofs.YtamhjgkigjpbhaaDoor

/- (XGrR) Graphs: how far nodes are from goals, and the shortest way. Plain. -/
namespace Go.Proofs.YtamhjgkigjpbhaaDoor

/-- A node is told how far it is, if it was not told yet. -/
def dvis (d : Int) (s : List Int × List Int) (i : Int) : List Int × List Int :=
  if s.1.getD i.toNat 0 < 0 then (s.1.set i.toNat d, s.2 ++ [i]) else s
def dst0 (n : Nat) (goals : List Int) : List Int × List Int := (goals.foldl (fun D i => D.set i.toNat 0) (List.replicate n (-1)), goals)
def dstep (T : List (List Nd)) (s : List Int × List Int) (k : Nat) : List Int × List Int :=
  match s.2[k]? with
  | some i => (tgts (T.getD i.toNat [])).foldl (dvis (s.1.getD i.toNat 0 + 1)) s
  | none => s
def dstN (n : Nat) (T : List (List Nd)) (goals : List Int) : Nat → List Int × List Int
  | 0 => dst0 n goals
  | k + 1 => dstep T (dstN n T goals k) k
def farG (n : Nat) (T : List (List Nd)) (goals : List Int) : List Int := (dstN n T goals n).1

/-- All targets are nodes. -/
def TOk (n : Nat) (T : List (List Nd)) : Prop := ∀ (t : Nat), ∀ j ∈ tgts (T.getD t []), isNd n j = true
/-- What is known of distances and open nodes. -/
structure DOk (n : Nat) (T : List (List Nd)) (goals : List Int) (s : List Int × List Int) : Prop where
  len : s.1.length = n
  rng : ∀ i ∈ s.2, isNd n i = true
  cnt : s.2.length = s.1.countP (fun x => decide (0 ≤ x))
  lo : ∀ i : Nat, -1 ≤ s.1.getD i 0
  at_ : ∀ (j : Nat) i, s.2[j]? = some i → 0 ≤ s.1.getD i.toNat 0 ∧ s.1.getD i.toNat 0 ≤ (j : Int)
  mem : ∀ i : Nat, i < n → 0 ≤ s.1.getD i 0 → (i : Int) ∈ s.2
  zero : ∀ i : Nat, i < n → (s.1.getD i 0 = 0 ↔ (i : Int) ∈ goals)
  pre : ∀ i : Nat, i < n → 1 ≤ s.1.getD i 0 → ∃ a ∈ s.2, s.1.getD a.toNat 0 = s.1.getD i 0 - 1 ∧ (i : Int) ∈ tgts (T.getD a.toNat [])

theorem countP_set {l : List Int} {k : Nat} {d : Int} (hk : k < l.length) (h : l.getD k 0 < 0) (hd : 0 ≤ d) : (l.set k d).countP (fun x => decide (0 ≤ x)) = l.countP (fun x => decide (0 ≤ x)) + 1 := by
  induction l generalizing k with
  | nil => simp at hk
  | cons x l ih =>
    cases k with
    | zero =>
      simp [List.getD] at h
      rw [List.set_cons_zero, List.countP_cons, List.countP_cons, if_pos (by simpa using hd), if_neg (by simp; omega)]
    | succ k =>
      simp [List.getD] at h hk
      have := ih (k := k) hk (by simpa [List.getD] using h)
      rw [List.set_cons_succ, List.countP_cons, List.countP_cons, this]
      omega
section
variable {n : Nat} {T : List (List Nd)} {goals : List Int}
/-- Goals: rising nodes. -/
structure GOk (n : Nat) (goals : List Int) : Prop where
  rng : ∀ i ∈ goals, isNd n i = true
  dis : goals.Nodup

theorem zeros_getD : ∀ (gs : List Int) (D : List Int), (∀ i ∈ gs, 0 ≤ i ∧ i < (D.length : Int)) → ∀ m : Nat, (gs.foldl (fun D i => D.set i.toNat 0) D).getD m 0 = if (m : Int) ∈ gs then 0 else D.getD m 0
  | [], D, _, m => by simp
  | g :: gs, D, h, m => by
    have h0 := h g (by simp)
    rw [List.foldl_cons, zeros_getD gs (D.set g.toNat 0) (fun i hi => by simpa using h i (by simp [hi])) m]
    by_cases e : (m : Int) = g
    · subst e
      rw [Int.toNat_natCast, getD_set_same (by omega)]
      simp
    · rw [getD_set_ne' (by omega)]
      simp [e]
theorem zeros_len : ∀ (gs : List Int) (D : List Int), (gs.foldl (fun D i => D.set i.toNat 0) D).length = D.length
  | [], _ => rfl
  | g :: gs, D => by rw [List.foldl_cons, zeros_len gs]; simp
theorem zeros_cnt : ∀ (gs : List Int) (D : List Int), gs.Nodup → (∀ i ∈ gs, 0 ≤ i ∧ i < (D.length : Int) ∧ D.getD i.toNat 0 < 0) →
    (gs.foldl (fun D i => D.set i.toNat 0) D).countP (fun x => decide (0 ≤ x)) = D.countP (fun x => decide (0 ≤ x)) + gs.length
  | [], D, _, _ => by simp
  | g :: gs, D, hn, h => by
    have h0 := h g (by simp)
    rw [List.nodup_cons] at hn
    rw [List.foldl_cons, zeros_cnt gs (D.set g.toNat 0) hn.2 (fun i hi => by
      have hi' := h i (by simp [hi])
      have hne : i ≠ g := fun e => hn.1 (e ▸ hi)
      refine ⟨hi'.1, by simpa using hi'.2.1, ?_⟩
      rw [getD_set_ne' (by omega)]
      exact hi'.2.2), countP_set (by omega) h0.2.2 (by omega), List.length_cons]
    omega
theorem dst0_ok (hg : GOk n goals) : DOk n T goals (dst0 n goals) := by
  have hr : ∀ i ∈ goals, 0 ≤ i ∧ i < ((List.replicate n (-1 : Int)).length : Int) := fun i hi => by
    have := isNd_iff.1 (hg.rng i hi); simpa using this
  have hz := zeros_getD goals (List.replicate n (-1)) hr
  have hm1 : ∀ m : Nat, (List.replicate n (-1 : Int)).getD m 0 = if m < n then -1 else 0 := fun m => by
    by_cases h : m < n <;> simp [List.getD, h]
  refine ⟨?_, hg.rng, ?_, ?_, ?_, ?_, ?_, ?_⟩
  · show (goals.foldl (fun D i => D.set i.toNat 0) (List.replicate n (-1))).length = n
    rw [zeros_len]; simp
  · show goals.length = (goals.foldl (fun D i => D.set i.toNat 0) (List.replicate n (-1))).countP _
    rw [zeros_cnt goals _ hg.dis (fun i hi => ⟨(hr i hi).1, (hr i hi).2, by
      have := isNd_iff.1 (hg.rng i hi)
      rw [hm1, if_pos (by omega)]; decide⟩)]
    rw [List.countP_replicate]; simp
  · intro i
    show -1 ≤ (goals.foldl (fun D i => D.set i.toNat 0) (List.replicate n (-1))).getD i 0
    rw [hz, hm1]
    split
    · decide
    · split <;> decide
  · intro j i hi
    have hi' : i ∈ goals := List.mem_of_getElem? hi
    have := isNd_iff.1 (hg.rng i hi')
    show 0 ≤ (goals.foldl (fun D i => D.set i.toNat 0) (List.replicate n (-1))).getD i.toNat 0 ∧ (goals.foldl (fun D i => D.set i.toNat 0) (List.replicate n (-1))).getD i.toNat 0 ≤ (j : Int)
    rw [hz, if_pos (by rw [Int.toNat_of_nonneg this.1]; exact hi')]
    omega
  · intro i hi h
    have h' : 0 ≤ (goals.foldl (fun D i => D.set i.toNat 0) (List.replicate n (-1))).getD i 0 := h
    rw [hz, hm1, if_pos hi] at h'
    show (i : Int) ∈ goals
    by_cases hx : (i : Int) ∈ goals
    · exact hx
    · rw [if_neg hx] at h'; omega
  · intro i hi
    show (goals.foldl (fun D i => D.set i.toNat 0) (List.replicate n (-1))).getD i 0 = 0 ↔ _
    rw [hz, hm1, if_pos hi]
    by_cases hx : (i : Int) ∈ goals <;> simp [hx]
  · intro i hi h
    have h' : 1 ≤ (goals.foldl (fun D i => D.set i.toNat 0) (List.replicate n (-1))).getD i 0 := h
    rw [hz, hm1] at h'
    split at h' <;> (try split at h') <;> omega

theorem dvis_ok {s : List Int × List Int} (h : DOk n T goals s) {a : Int} (ha : a ∈ s.2) {i : Int} (hi : i ∈ tgts (T.getD a.toNat [])) (hn : isNd n i = true) (hl : s.1.getD a.toNat 0 + 1 ≤ (s.2.length : Int)) :
    DOk n T goals (dvis (s.1.getD a.toNat 0 + 1) s i) ∧ (dvis (s.1.getD a.toNat 0 + 1) s i).1.getD a.toNat 0 = s.1.getD a.toNat 0 := by
  obtain ⟨k, rfl, hk⟩ := isNd_nat hn
  obtain ⟨ja, hja⟩ := List.getElem?_of_mem ha
  have ha0 := (h.at_ ja a hja).1
  obtain ⟨m, hm, hmn⟩ := isNd_nat (h.rng a ha)
  subst hm
  rw [Int.toNat_natCast] at *
  unfold dvis
  rw [Int.toNat_natCast]
  split
  · rename_i hc
    have hkm : k ≠ m := fun e => by subst e; omega
    have hlen := h.len
    generalize hd : s.1.getD m 0 + 1 = d at *
    have hd0 : 1 ≤ d := by omega
    have gs : ∀ j : Nat, (s.1.set k d).getD j 0 = if j = k then d else s.1.getD j 0 := fun j => by
      by_cases e : j = k
      · subst e; rw [getD_set_same (by omega), if_pos rfl]
      · rw [getD_set_ne' (fun h => e h.symm), if_neg e]
    refine ⟨⟨by simp [hlen], ?_, ?_, ?_, ?_, ?_, ?_, ?_⟩, ?_⟩
    · intro j hj
      simp only [List.mem_append, List.mem_singleton] at hj
      rcases hj with hj | rfl
      · exact h.rng j hj
      · exact hn
    · dsimp only
      rw [countP_set (by omega) hc (by omega), List.length_append, h.cnt]; simp
    · intro j
      dsimp only
      rw [gs]
      split
      · omega
      · exact h.lo j
    · intro j i hj
      dsimp only at hj ⊢
      rw [gs]
      by_cases hjl : j < s.2.length
      · rw [List.getElem?_append_left hjl] at hj
        have := h.at_ j i hj
        rw [if_neg (fun e => by rw [e] at this; omega)]
        exact this
      · rw [List.getElem?_append_right (by omega)] at hj
        have hj0 : j - s.2.length = 0 := by
          have := (List.getElem?_eq_some_iff.1 hj).1
          simp at this; omega
        rw [hj0] at hj
        simp at hj
        subst hj
        rw [Int.toNat_natCast, if_pos rfl]
        omega
    · intro j hj hx
      dsimp only at hx ⊢
      rw [gs] at hx
      simp only [List.mem_append, List.mem_singleton]
      by_cases e : j = k
      · exact .inr (by omega)
      · rw [if_neg e] at hx
        exact .inl (h.mem j hj hx)
    · intro j hj
      dsimp only
      rw [gs]
      by_cases e : j = k
      · rw [if_pos e]
        have := h.zero j hj
        rw [e] at this ⊢
        constructor
        · intro h'; omega
        · intro h'; have := this.2 h'; omega
      · rw [if_neg e]; exact h.zero j hj
    · intro j hj hx
      dsimp only at hx ⊢
      rw [gs] at hx
      by_cases e : j = k
      · rw [if_pos e] at hx
        refine ⟨(m : Int), by simp [ha], ?_, ?_⟩
        · rw [Int.toNat_natCast, gs, gs, if_neg (fun h => hkm h.symm), if_pos e]; omega
        · rw [e, Int.toNat_natCast]; exact hi
      · rw [if_neg e] at hx
        obtain ⟨b, hb, h1, h2⟩ := h.pre j hj hx
        refine ⟨b, by simp [hb], ?_, h2⟩
        rw [gs, gs, if_neg e, if_neg (fun h' => by rw [h'] at h1; omega)]
        exact h1
    · dsimp only
      rw [gs, if_neg (fun h => hkm h.symm)]
  · exact ⟨h, rfl⟩
theorem dfold_ok {a : Int} : ∀ (l : List Int) {s : List Int × List Int}, DOk n T goals s → a ∈ s.2 → (∀ i ∈ l, i ∈ tgts (T.getD a.toNat []) ∧ isNd n i = true) → s.1.getD a.toNat 0 + 1 ≤ (s.2.length : Int) →
    DOk n T goals (l.foldl (dvis (s.1.getD a.toNat 0 + 1)) s)
  | [], s, h, _, _, _ => h
  | i :: l, s, h, ha, hl, hb => by
    obtain ⟨h1, h2⟩ := dvis_ok h ha (hl i (by simp)).1 (hl i (by simp)).2 hb
    have hs : ∃ r, (dvis (s.1.getD a.toNat 0 + 1) s i).2 = s.2 ++ r := by
      unfold dvis; split
      · exact ⟨[i], rfl⟩
      · exact ⟨[], by simp⟩
    obtain ⟨r, hr⟩ := hs
    have := dfold_ok l h1 (by rw [hr]; simp [ha]) (fun j hj => hl j (by simp [hj])) (by rw [h2, hr, List.length_append]; omega)
    rw [h2] at this
    exact this
theorem dstN_ok (hT : TOk n T) (hg : GOk n goals) : ∀ k, DOk n T goals (dstN n T goals k)
  | 0 => dst0_ok hg
  | k + 1 => by
    have ih := dstN_ok hT hg k
    rw [dstN, dstep]
    split
    · rename_i i hi
      have h1 := ih.at_ k i hi
      have hk := (List.getElem?_eq_some_iff.1 hi).1
      exact dfold_ok _ ih (List.mem_of_getElem? hi) (fun j hj => ⟨hj, hT _ j hj⟩) (by omega)
    · exact ih
theorem DOk.le {s : List Int × List Int} (h : DOk n T goals s) : s.2.length ≤ n := by
  rw [h.cnt, ← h.len]; exact List.countP_le_length
theorem DOk.hi {s : List Int × List Int} (h : DOk n T goals s) (i : Nat) (hi : i < n) : s.1.getD i 0 < (n : Int) := by
  by_cases h0 : 0 ≤ s.1.getD i 0
  · obtain ⟨j, hj⟩ := List.getElem?_of_mem (h.mem i hi h0)
    have h1 := h.at_ j i hj
    have := (List.getElem?_eq_some_iff.1 hj).1
    have := h.le
    rw [Int.toNat_natCast] at h1
    omega
  · omega
theorem dstN_next {k : Nat} {i : Int} (h : (dstN n T goals k).2[k]? = some i) : dstN n T goals (k + 1) = (tgts (T.getD i.toNat [])).foldl (dvis ((dstN n T goals k).1.getD i.toNat 0 + 1)) (dstN n T goals k) := by
  rw [dstN, dstep, h]
theorem dstN_stop {k : Nat} (h : (dstN n T goals k).2.length ≤ k) : ∀ d, dstN n T goals (k + d) = dstN n T goals k
  | 0 => rfl
  | d + 1 => by
    have ih := dstN_stop h d
    rw [← Nat.add_assoc, dstN, ih, dstep, List.getElem?_eq_none (by omega)]
theorem farG_end (hT : TOk n T) (hg : GOk n goals) {k : Nat} (hk : k ≤ (dstN n T goals k).2.length) (h : (dstN n T goals k).2.length ≤ k) : farG n T goals = (dstN n T goals k).1 := by
  have := (dstN_ok hT hg k).le
  have e := dstN_stop h (n - k)
  rw [show k + (n - k) = n by omega] at e
  rw [farG, e]
/-- A list of targets, gone through: what was told stays, what is new is told d. -/
theorem dfold_new {d : Int} (hd : 0 ≤ d) : ∀ (l : List Int) (s : List Int × List Int), (∀ i ∈ l, 0 ≤ i ∧ i < (s.1.length : Int)) →
    (∃ r, (l.foldl (dvis d) s).2 = s.2 ++ r ∧ ∀ i ∈ r, (l.foldl (dvis d) s).1.getD i.toNat 0 = d) ∧ (∀ m : Nat, 0 ≤ s.1.getD m 0 → (l.foldl (dvis d) s).1.getD m 0 = s.1.getD m 0) ∧ (l.foldl (dvis d) s).1.length = s.1.length
  | [], s, _ => ⟨⟨[], by simp⟩, by simp, rfl⟩
  | i :: l, s, h => by
    have h0 := h i (by simp)
    rw [List.foldl_cons]
    by_cases hc : s.1.getD i.toNat 0 < 0
    · have e : dvis d s i = (s.1.set i.toNat d, s.2 ++ [i]) := by rw [dvis, if_pos hc]
      obtain ⟨⟨r, h1, h2⟩, h3, h4⟩ := dfold_new hd l (dvis d s i) (fun j hj => by rw [e]; simpa using h j (by simp [hj]))
      rw [e] at h1 h2 h3 h4 ⊢
      refine ⟨⟨i :: r, by rw [h1]; simp, fun j hj => ?_⟩, fun m hm => ?_, by rw [h4]; simp⟩
      · rcases List.mem_cons.1 hj with rfl | hj
        · rw [h3 _ (by dsimp only; rw [getD_set_same (by omega)]; exact hd)]
          dsimp only; rw [getD_set_same (by omega)]
        · exact h2 j hj
      · have hne : i.toNat ≠ m := fun e => by rw [e] at hc; omega
        rw [h3 m (by dsimp only; rw [getD_set_ne' hne]; exact hm)]
        dsimp only; rw [getD_set_ne' hne]
    · have e : dvis d s i = s := by rw [dvis, if_neg hc]
      rw [e]
      exact dfold_new hd l s (fun j hj => h j (by simp [hj]))
end
end Go.Proofs.YtamhjgkigjpbhaaDoor

/- (XGrS) Graphs: the shortest way. Plain. -/
namespace Go.Proofs.YtamhjgkigjpbhaaDoor

def nxtStep (n : Nat) (D : List Int) (c nx : Int) (e : Nd) : Int := if (isNd n e.op = true ∧ D.getD e.op.toNat 0 = c) ∧ (nx < 0 ∨ e.op < nx) then e.op else nx
def nxtG (n : Nat) (D : List Int) (c : Int) (l : List Nd) : Int := l.foldl (nxtStep n D c) (-1)
def bestStep (n : Nat) (D : List Int) (a i : Int) : Int :=
  if (isNd n i = true ∧ 0 ≤ D.getD i.toNat 0) ∧ (a < 0 ∨ D.getD i.toNat 0 < D.getD a.toNat 0 ∨ (D.getD i.toNat 0 = D.getD a.toNat 0 ∧ i < a)) then i else a
def bestG (n : Nat) (D : List Int) (l : List Int) : Int := l.foldl (bestStep n D) (-1)
def pathW (n : Nat) (D : List Int) (E : List (List Nd)) : Nat → Int → List Int
  | 0, a => [a]
  | k + 1, a => a :: pathW n D E k (nxtG n D (k : Int) (E.getD a.toNat []))
def pathG (n : Nat) (D : List Int) (E : List (List Nd)) (from_ : List Int) : List Int × Bool :=
  if bestG n D from_ < 0 then ([], false) else (pathW n D E (D.getD (bestG n D from_).toNat 0).toNat (bestG n D from_), true)

/-- What is known of a node that was picked: none, or one of the list that fits. -/
def NxOk (n : Nat) (D : List Int) (c : Int) (l : List Nd) (x : Int) : Prop := x = -1 ∨ (isNd n x = true ∧ D.getD x.toNat 0 = c ∧ x ∈ tgts l)
theorem nxtF_ok {n : Nat} {D : List Int} {c : Int} : ∀ (l m : List Nd) (x : Int), NxOk n D c m x → NxOk n D c (m ++ l) (l.foldl (nxtStep n D c) x)
  | [], m, x, h => by simpa using h
  | e :: l, m, x, h => by
    rw [List.foldl_cons, show m ++ e :: l = (m ++ [e]) ++ l by simp]
    refine nxtF_ok l (m ++ [e]) _ ?_
    unfold nxtStep
    split
    · rename_i hc
      exact .inr ⟨hc.1.1, hc.1.2, by simp [tgts]⟩
    · rcases h with h | ⟨h1, h2, h3⟩
      · exact .inl h
      · exact .inr ⟨h1, h2, by simp only [tgts, List.map_append, List.mem_append] at h3 ⊢; exact .inl h3⟩
theorem nxtG_ok {n : Nat} {D : List Int} {c : Int} (l : List Nd) : NxOk n D c l (nxtG n D c l) := by
  have := nxtF_ok (n := n) (D := D) (c := c) l [] (-1) (.inl rfl)
  rwa [List.nil_append] at this
theorem nxtF_ge {n : Nat} {D : List Int} {c : Int} : ∀ (l : List Nd) (x : Int), (0 ≤ x ∨ ∃ e ∈ l, isNd n e.op = true ∧ D.getD e.op.toNat 0 = c) → 0 ≤ l.foldl (nxtStep n D c) x
  | [], x, h => by simpa using h
  | e :: l, x, h => by
    rw [List.foldl_cons]
    apply nxtF_ge l
    unfold nxtStep
    split
    · rename_i hc
      exact .inl (isNd_iff.1 hc.1.1).1
    · rename_i hc
      rcases h with h | ⟨e', he', h1, h2⟩
      · exact .inl h
      · rcases List.mem_cons.1 he' with rfl | he'
        · left
          by_cases hx : x < 0
          · exact absurd ⟨⟨h1, h2⟩, .inl hx⟩ hc
          · omega
        · exact .inr ⟨e', he', h1, h2⟩
theorem nxtG_node {n : Nat} {D : List Int} {c : Int} {l : List Nd} (h : ∃ e ∈ l, isNd n e.op = true ∧ D.getD e.op.toNat 0 = c) : isNd n (nxtG n D c l) = true ∧ D.getD (nxtG n D c l).toNat 0 = c ∧ nxtG n D c l ∈ tgts l := by
  have h0 := nxtF_ge l (-1) (.inr h)
  rcases nxtG_ok (n := n) (D := D) (c := c) l with h1 | h1
  · have : (0 : Int) ≤ nxtG n D c l := h0
    omega
  · exact h1
def BsOk (n : Nat) (D : List Int) (l : List Int) (x : Int) : Prop := x = -1 ∨ (isNd n x = true ∧ 0 ≤ D.getD x.toNat 0 ∧ x ∈ l)
theorem bestF_ok {n : Nat} {D : List Int} : ∀ (l m : List Int) (x : Int), BsOk n D m x → BsOk n D (m ++ l) (l.foldl (bestStep n D) x)
  | [], m, x, h => by simpa using h
  | e :: l, m, x, h => by
    rw [List.foldl_cons, show m ++ e :: l = (m ++ [e]) ++ l by simp]
    refine bestF_ok l (m ++ [e]) _ ?_
    unfold bestStep
    split
    · rename_i hc
      exact .inr ⟨hc.1.1, hc.1.2, by simp⟩
    · rcases h with h | ⟨h1, h2, h3⟩
      · exact .inl h
      · exact .inr ⟨h1, h2, by simp [h3]⟩
theorem bestG_ok {n : Nat} {D : List Int} (l : List Int) : BsOk n D l (bestG n D l) := by
  have := bestF_ok (n := n) (D := D) l [] (-1) (.inl rfl)
  rwa [List.nil_append] at this
theorem bestG_take {n : Nat} {D : List Int} {l : List Int} {k : Nat} (hk : k < l.length) : bestG n D (l.take (k + 1)) = bestStep n D (bestG n D (l.take k)) l[k] := by
  rw [bestG, bestG, take_snoc l k hk, List.foldl_append]; rfl
theorem nxtG_take {n : Nat} {D : List Int} {c : Int} {l : List Nd} {k : Nat} (hk : k < l.length) : nxtG n D c (l.take (k + 1)) = nxtStep n D c (nxtG n D c (l.take k)) l[k] := by
  rw [nxtG, nxtG, take_snoc l k hk, List.foldl_append]; rfl
theorem bestF_ge {n : Nat} {D : List Int} : ∀ (l : List Int) (x : Int), (0 ≤ x ∨ ∃ i ∈ l, isNd n i = true ∧ 0 ≤ D.getD i.toNat 0) → 0 ≤ l.foldl (bestStep n D) x
  | [], x, h => by simpa using h
  | e :: l, x, h => by
    rw [List.foldl_cons]
    apply bestF_ge l
    unfold bestStep
    split
    · rename_i hc
      exact .inl (isNd_iff.1 hc.1.1).1
    · rename_i hc
      rcases h with h | ⟨e', he', h1, h2⟩
      · exact .inl h
      · rcases List.mem_cons.1 he' with rfl | he'
        · left
          by_cases hx : x < 0
          · exact absurd ⟨⟨h1, h2⟩, .inl hx⟩ hc
          · omega
        · exact .inr ⟨e', he', h1, h2⟩
theorem bestG_ge {n : Nat} {D : List Int} {l : List Int} (h : ∃ i ∈ l, isNd n i = true ∧ 0 ≤ D.getD i.toNat 0) : 0 ≤ bestG n D l := bestF_ge l (-1) (.inr h)

/-- Distances that go down along some edge. -/
def Dn (n : Nat) (D : List Int) (E : List (List Nd)) : Prop := ∀ i : Nat, i < n → 1 ≤ D.getD i 0 → ∃ e ∈ E.getD i [], isNd n e.op = true ∧ D.getD e.op.toNat 0 = D.getD i 0 - 1
theorem Dn.next {n : Nat} {D : List Int} {E : List (List Nd)} (h : Dn n D E) {a : Int} {k : Nat} (ha : isNd n a = true) (hd : D.getD a.toNat 0 = ((k + 1 : Nat) : Int)) :
    isNd n (nxtG n D (k : Int) (E.getD a.toNat [])) = true ∧ D.getD (nxtG n D (k : Int) (E.getD a.toNat [])).toNat 0 = (k : Int) ∧ nxtG n D (k : Int) (E.getD a.toNat []) ∈ tgts (E.getD a.toNat []) := by
  obtain ⟨m, rfl, hm⟩ := isNd_nat ha
  rw [Int.toNat_natCast] at hd ⊢
  obtain ⟨e, he, h1, h2⟩ := h m hm (by omega)
  exact nxtG_node ⟨e, he, h1, by rw [h2, hd]; omega⟩
/-- A way: node by node, the distance going down to 0. -/
structure PathOk (n : Nat) (D : List Int) (E : List (List Nd)) (K : Nat) (l : List Int) : Prop where
  len : l.length = K + 1
  nd : ∀ (i : Nat) x, l[i]? = some x → isNd n x = true ∧ D.getD x.toNat 0 = (K : Int) - i
  ed : ∀ (i : Nat) x y, l[i]? = some x → l[i + 1]? = some y → y ∈ tgts (E.getD x.toNat [])
theorem pathW_ok {n : Nat} {D : List Int} {E : List (List Nd)} (h : Dn n D E) : ∀ (K : Nat) (a : Int), isNd n a = true → D.getD a.toNat 0 = (K : Int) → PathOk n D E K (pathW n D E K a)
  | 0, a, ha, hd => by
    refine ⟨rfl, fun i x hx => ?_, fun i x y hx hy => ?_⟩
    · cases i with
      | zero => simp [pathW] at hx; subst hx; exact ⟨ha, by simpa using hd⟩
      | succ i => simp [pathW] at hx
    · simp [pathW] at hy
  | K + 1, a, ha, hd => by
    obtain ⟨h1, h2, h3⟩ := h.next ha hd
    have ih := pathW_ok h K _ h1 h2
    refine ⟨by rw [pathW, List.length_cons, ih.len], fun i x hx => ?_, fun i x y hx hy => ?_⟩
    · cases i with
      | zero => simp [pathW] at hx; subst hx; exact ⟨ha, by simpa using hd⟩
      | succ i =>
        simp [pathW] at hx
        have := ih.nd i x hx
        exact ⟨this.1, by rw [this.2]; omega⟩
    · cases i with
      | zero =>
        simp [pathW] at hx hy
        subst hx
        have hy0 : y = nxtG n D (K : Int) (E.getD a.toNat []) := by
          cases K <;> simp [pathW] at hy <;> exact hy.symm
        rw [hy0]; exact h3
      | succ i =>
        simp [pathW] at hx hy
        exact ih.ed i x y hx hy
theorem pathW_head {n : Nat} {D : List Int} {E : List (List Nd)} (K : Nat) (a : Int) : (pathW n D E K a)[0]? = some a := by cases K <;> rfl

/-- How far each node of a graph is from goals. -/
def farE (E : List (List Nd)) (goal : List Bool) : List Int := farG E.length (turnE E) (goalsG E.length goal)
theorem turn_TOk (E : List (List Nd)) : TOk E.length (turnE E) := by
  intro t j hj
  by_cases ht : t < E.length
  · obtain ⟨a, rfl, ha, _⟩ := (turn_tgt ht).1 hj
    exact isNd_iff.2 ⟨by omega, by omega⟩
  · rw [List.getD_eq_getElem?_getD, List.getElem?_eq_none (by rw [turnE_len]; omega)] at hj
    simp [tgts] at hj
theorem goalsG_ok (n : Nat) (goal : List Bool) : GOk n (goalsG n goal) := by
  refine ⟨fun i hi => ?_, ?_⟩
  · obtain ⟨k, hk, rfl⟩ := List.mem_map.1 hi
    have := List.mem_range.1 (List.mem_filter.1 hk).1
    exact isNd_iff.2 ⟨by omega, by omega⟩
  · unfold goalsG
    exact List.Pairwise.map _ (fun a b (h : a ≠ b) e => h (by omega)) (List.Pairwise.filter _ List.nodup_range)
theorem goalsG_mem {n : Nat} {goal : List Bool} {i : Nat} (hi : i < n) : (i : Int) ∈ goalsG n goal ↔ goal.getD i false = true := by
  simp only [goalsG, List.mem_map, List.mem_filter, List.mem_range]
  constructor
  · rintro ⟨k, ⟨h1, h2⟩, h3⟩
    have : k = i := by omega
    subst this; exact h2
  · intro h
    have hg : i < goal.length := by
      by_cases h' : i < goal.length
      · exact h'
      · simp [List.getD, List.getElem?_eq_none (by omega : goal.length ≤ i)] at h
    exact ⟨i, ⟨by omega, h⟩, rfl⟩
theorem farE_ok (E : List (List Nd)) (goal : List Bool) : DOk E.length (turnE E) (goalsG E.length goal) (dstN E.length (turnE E) (goalsG E.length goal) E.length) :=
  dstN_ok (turn_TOk E) (goalsG_ok _ _) _
theorem farE_len (E : List (List Nd)) (goal : List Bool) : (farE E goal).length = E.length := (farE_ok E goal).len
theorem farE_Dn (E : List (List Nd)) (goal : List Bool) : Dn E.length (farE E goal) E := by
  intro i hi h
  obtain ⟨a, ha, h1, h2⟩ := (farE_ok E goal).pre i hi h
  obtain ⟨k, rfl, hk⟩ := isNd_nat ((farE_ok E goal).rng a ha)
  rw [Int.toNat_natCast] at h1 h2
  obtain ⟨j, hj, _, h4⟩ := (turn_tgt hk).1 h2
  have : i = j := by omega
  subst this
  obtain ⟨e, he, heq⟩ := List.mem_map.1 h4
  exact ⟨e, he, by rw [heq]; exact isNd_iff.2 ⟨by omega, by omega⟩, by rw [heq, Int.toNat_natCast]; exact h1⟩
/-- The open nodes are met in one order, by marks or by distances. -/
theorem dst_mem {n : Nat} {T : List (List Nd)} {goals : List Int} (hT : TOk n T) (hg : GOk n goals) : ∀ (k : Nat) (i : Int), i ∈ (dstN n T goals k).2 → Rch n T goals i
  | 0, i, h => .start h (hg.rng i h)
  | k + 1, i, h => by
    rw [dstN, dstep] at h
    split at h
    · rename_i x hx
      have hxm := List.mem_of_getElem? hx
      have key : ∀ (l : List Int) (s : List Int × List Int), (∀ j ∈ l, j ∈ tgts (T.getD x.toNat [])) → (∀ j ∈ s.2, Rch n T goals j) → ∀ d, ∀ j ∈ (l.foldl (dvis d) s).2, Rch n T goals j := by
        intro l
        induction l with
        | nil => intro s _ hs d j hj; exact hs j hj
        | cons y l ih =>
          intro s hl hs d j hj
          refine ih (dvis d s y) (fun j hj => hl j (by simp [hj])) ?_ d j hj
          intro j hj
          unfold dvis at hj
          split at hj
          · simp only [List.mem_append, List.mem_singleton] at hj
            rcases hj with hj | rfl
            · exact hs j hj
            · exact .step (dst_mem hT hg k x hxm) (hl _ (by simp)) (hT _ _ (hl _ (by simp)))
          · exact hs j hj
      exact key _ _ (fun j hj => hj) (fun j hj => dst_mem hT hg k j hj) _ i h
    · exact dst_mem hT hg k i h
theorem dst_up {n : Nat} {T : List (List Nd)} {goals : List Int} (hT : TOk n T) (hg : GOk n goals) (k : Nat) : ∀ d, ∃ r, (dstN n T goals (k + d)).2 = (dstN n T goals k).2 ++ r
  | 0 => ⟨[], by simp⟩
  | d + 1 => by
    obtain ⟨r, hr⟩ := dst_up hT hg k d
    rw [← Nat.add_assoc, dstN, dstep]
    split
    · rename_i i hi
      have hok := dstN_ok hT hg (k + d)
      have h0 := (hok.at_ _ i hi).1
      obtain ⟨⟨r', h1, _⟩, _⟩ := dfold_new (d := (dstN n T goals (k + d)).1.getD i.toNat 0 + 1) (by omega) (tgts (T.getD i.toNat [])) (dstN n T goals (k + d)) (fun j hj => by
        have := isNd_iff.1 (hT _ j hj); rw [hok.len]; exact this)
      exact ⟨r ++ r', by rw [h1, hr, List.append_assoc]⟩
    · exact ⟨r, hr⟩
theorem far_rch {n : Nat} {T : List (List Nd)} {goals : List Int} (hT : TOk n T) (hg : GOk n goals) {i : Nat} (hi : i < n) : 0 ≤ (farG n T goals).getD i 0 ↔ Rch n T goals (i : Int) := by
  have hok := dstN_ok hT hg n
  constructor
  · intro h; exact dst_mem hT hg n i (hok.mem i hi h)
  · intro h
    suffices hm : ∀ j : Int, Rch n T goals j → j ∈ (dstN n T goals n).2 by
      obtain ⟨j, hj⟩ := List.getElem?_of_mem (hm _ h)
      have := (hok.at_ j _ hj).1
      rwa [Int.toNat_natCast] at this
    intro j hj
    induction hj with
    | @start i h h' =>
      obtain ⟨r, hr⟩ := dst_up hT hg 0 n
      rw [Nat.zero_add] at hr
      rw [hr]; exact List.mem_append_left _ h
    | @step i j _ hj hn ih =>
      obtain ⟨k, hk⟩ := List.getElem?_of_mem ih
      have hkn : k < n := by
        have := (List.getElem?_eq_some_iff.1 hk).1
        have := hok.le
        omega
      have hk' : (dstN n T goals k).2[k]? = some i := by
        by_cases hs : k < (dstN n T goals k).2.length
        · obtain ⟨r, hr⟩ := dst_up hT hg k (n - k)
          rw [show k + (n - k) = n by omega] at hr
          rw [hr, List.getElem?_append_left hs] at hk
          exact hk
        · have e := dstN_stop (n := n) (T := T) (goals := goals) (k := k) (by omega) (n - k)
          rw [show k + (n - k) = n by omega] at e
          rw [e] at hk
          exact hk
      obtain ⟨r, hr⟩ := dst_up hT hg (k + 1) (n - (k + 1))
      rw [show k + 1 + (n - (k + 1)) = n by omega] at hr
      rw [hr]
      refine List.mem_append_left _ ?_
      have hokk := dstN_ok hT hg k
      have h0 := (hokk.at_ k i hk').1
      have hok1 := dstN_ok hT hg (k + 1)
      obtain ⟨m, rfl, hm⟩ := isNd_nat hn
      refine hok1.mem m hm ?_
      rw [dstN_next hk']
      -- once gone through, it is told
      have key : ∀ (d : Int), 0 ≤ d → ∀ (l : List Int) (s : List Int × List Int), (∀ j ∈ l, 0 ≤ j ∧ j < (s.1.length : Int)) → (m : Int) ∈ l → 0 ≤ (l.foldl (dvis d) s).1.getD m 0 := by
        intro d hd l
        induction l with
        | nil => intro s _ h; simp at h
        | cons y l ih =>
          intro s hl hmem
          rw [List.foldl_cons]
          have hlen : (dvis d s y).1.length = s.1.length := by unfold dvis; split <;> simp
          by_cases hx : 0 ≤ (dvis d s y).1.getD m 0
          · obtain ⟨_, h3, _⟩ := dfold_new hd l (dvis d s y) (fun j hj => by rw [hlen]; exact hl j (by simp [hj]))
            rw [h3 m hx]; exact hx
          · refine ih _ (fun j hj => by rw [hlen]; exact hl j (by simp [hj])) ?_
            rcases List.mem_cons.1 hmem with rfl | h
            · exfalso
              apply hx
              unfold dvis
              rw [Int.toNat_natCast]
              split
              · have := hl (m : Int) (by simp)
                rw [getD_set_same (by omega)]; exact hd
              · omega
            · exact h
      exact key _ (by omega) _ _ (fun j hj => by have := isNd_iff.1 (hT _ j hj); rw [hokk.len]; exact this) hj
end Go.Proofs.YtamhjgkigjpbhaaDoor

/- (XFixP) Fixpoints over a graph: plain. -/
namespace Go.Proofs.YtamhjgkigjpbhaaDoor

/-- Is a number of a set? -/
def hasB (s : List Bool) (i : Int) : Bool := isNd s.length i && s.getD i.toNat false
theorem hasB_nat {s : List Bool} {k : Nat} (h : k < s.length) : hasB s (k : Int) = s.getD k false := by
  rw [hasB, isNd_iff.2 ⟨by omega, by omega⟩, Bool.true_and, Int.toNat_natCast]
theorem hasB_iff {s : List Bool} {i : Int} : hasB s i = true ↔ ∃ k : Nat, i = k ∧ k < s.length ∧ s.getD k false = true := by
  rw [hasB, Bool.and_eq_true]
  constructor
  · rintro ⟨h1, h2⟩
    obtain ⟨k, rfl, hk⟩ := isNd_nat h1
    exact ⟨k, rfl, hk, by simpa using h2⟩
  · rintro ⟨k, rfl, hk, h⟩
    exact ⟨isNd_iff.2 ⟨by omega, by omega⟩, by simpa using h⟩
/-- The edges between nodes that are left. -/
def withinE (E : List (List Nd)) (z : List Bool) : List (List Nd) := (List.range E.length).map fun i => if z.getD i false = true then (E.getD i []).filter (fun e => hasB z e.op) else []
def goalZ (z : List Bool) (ask : Nat → Bool) : List Bool := (List.range z.length).map fun i => z.getD i false && ask i
/-- From where a way of one edge or more leads to one that is asked for. -/
def stepZ (E : List (List Nd)) (z : List Bool) (ask : Nat → Bool) : List Bool :=
  (List.range z.length).map fun i => ((withinE E z).getD i []).any (fun e => (backG' z.length (withinE E z) (goalZ z ask)).getD e.op.toNat false)
where backG' (n : Nat) (E : List (List Nd)) (goal : List Bool) : List Bool := reachG n (turnE E) (goalsG n goal)
theorem withinE_len (E : List (List Nd)) (z : List Bool) : (withinE E z).length = E.length := by simp [withinE]
theorem stepZ_len (E : List (List Nd)) (z : List Bool) (ask : Nat → Bool) : (stepZ E z ask).length = z.length := by simp [stepZ]
theorem within_mem {E : List (List Nd)} {z : List Bool} {i : Nat} (hi : i < E.length) {e : Nd} : e ∈ (withinE E z).getD i [] ↔ z.getD i false = true ∧ e ∈ E.getD i [] ∧ hasB z e.op = true := by
  have : (withinE E z).getD i [] = if z.getD i false = true then (E.getD i []).filter (fun e => hasB z e.op) else [] := by simp [withinE, List.getD, hi]
  rw [this]
  split
  · rename_i h
    rw [List.mem_filter]
    exact ⟨fun ⟨a, b⟩ => ⟨h, a, b⟩, fun ⟨_, a, b⟩ => ⟨a, b⟩⟩
  · rename_i h
    simp only [List.not_mem_nil, false_iff]
    exact fun h' => h h'.1

/-- An edge within what is left. -/
def Ed (E : List (List Nd)) (z : List Bool) (i j : Nat) : Prop := i < E.length ∧ j < z.length ∧ z.getD i false = true ∧ z.getD j false = true ∧ (j : Int) ∈ tgts (E.getD i [])
inductive Lead (R : Nat → Nat → Prop) : Nat → Nat → Prop
  | refl (a : Nat) : Lead R a a
  | step {a b c : Nat} : R a b → Lead R b c → Lead R a c
theorem Lead.mono {R S : Nat → Nat → Prop} (h : ∀ a b, R a b → S a b) {a b : Nat} (l : Lead R a b) : Lead S a b := by
  induction l with
  | refl a => exact .refl a
  | step r _ ih => exact .step (h _ _ r) ih
theorem Lead.snoc {R : Nat → Nat → Prop} {a b c : Nat} (l : Lead R a b) (r : R b c) : Lead R a c := by
  induction l with
  | refl a => exact .step r (.refl _)
  | step r' _ ih => exact .step r' (ih r)
theorem Lead.trans {R : Nat → Nat → Prop} {a b c : Nat} (l : Lead R a b) (m : Lead R b c) : Lead R a c := by
  induction l with
  | refl a => exact m
  | step r _ ih => exact .step r (ih m)
theorem ed_within {E : List (List Nd)} {z : List Bool} (_hz : z.length = E.length) {i j : Nat} (hi : i < E.length) : (j : Int) ∈ tgts ((withinE E z).getD i []) ↔ Ed E z i j := by
  simp only [tgts, List.mem_map]
  constructor
  · rintro ⟨e, he, hj⟩
    obtain ⟨h1, h2, h3⟩ := (within_mem hi).1 he
    obtain ⟨k, hk, hkl, hkz⟩ := hasB_iff.1 h3
    have : k = j := by omega
    subst this
    exact ⟨hi, hkl, h1, hkz, by simp only [tgts, List.mem_map]; exact ⟨e, h2, hj⟩⟩
  · rintro ⟨_, h2, h3, h4, h5⟩
    simp only [tgts, List.mem_map] at h5
    obtain ⟨e, he, hj⟩ := h5
    exact ⟨e, (within_mem hi).2 ⟨h3, he, by rw [hj, hasB_nat h2]; exact h4⟩, hj⟩
/-- What leads back, in the graph turned about. -/
theorem rch_lead {E : List (List Nd)} {gs : List Int} {n : Nat} (hn : n = E.length) {i : Nat} (hi : i < n) : Rch n (turnE E) gs (i : Int) ↔ ∃ k : Nat, k < n ∧ (k : Int) ∈ gs ∧ Lead (fun a b => a < n ∧ b < n ∧ (b : Int) ∈ tgts (E.getD a [])) i k := by
  subst hn
  constructor
  · intro h
    generalize hx : (i : Int) = x at h
    induction h generalizing i with
    | start h1 h2 => subst hx; exact ⟨i, hi, h1, .refl _⟩
    | @step a b ha hb hn ih =>
      subst hx
      obtain ⟨m, rfl, hm⟩ := isNd_nat ha.node
      rw [Int.toNat_natCast, turn_tgt hm] at hb
      obtain ⟨a', e1, _, h4⟩ := hb
      have : i = a' := by omega
      subst this
      obtain ⟨k, h1, h2, h3⟩ := ih hm rfl
      exact ⟨k, h1, h2, .step ⟨hi, hm, h4⟩ h3⟩
  · rintro ⟨k, hk, hg, hl⟩
    induction hl with
    | refl a => exact .start hg (isNd_iff.2 ⟨by omega, by omega⟩)
    | @step a b c r _ ih =>
      refine .step (ih r.2.1 hk hg) ?_ (isNd_iff.2 ⟨by omega, by omega⟩)
      rw [Int.toNat_natCast, turn_tgt r.2.1]
      exact ⟨a, rfl, r.1, r.2.2⟩
theorem goalZ_len (z : List Bool) (ask : Nat → Bool) : (goalZ z ask).length = z.length := by simp [goalZ]
theorem goalZ_at {z : List Bool} {ask : Nat → Bool} {k : Nat} (hk : k < z.length) : (goalZ z ask).getD k false = (z.getD k false && ask k) := by simp [goalZ, List.getD, hk]
/-- What a step tells. -/
theorem step_iff {E : List (List Nd)} {z : List Bool} {ask : Nat → Bool} (hz : z.length = E.length) {i : Nat} (hi : i < z.length) :
    (stepZ E z ask).getD i false = true ↔ ∃ j k : Nat, Ed E z i j ∧ Lead (Ed E z) j k ∧ k < z.length ∧ z.getD k false = true ∧ ask k = true := by
  have hs : (stepZ E z ask).getD i false = ((withinE E z).getD i []).any (fun e => (reachG z.length (turnE (withinE E z)) (goalsG z.length (goalZ z ask))).getD e.op.toNat false) := by
    simp [stepZ, stepZ.backG', List.getD, hi]
  have hw : z.length = (withinE E z).length := by rw [withinE_len, hz]
  have hR : ∀ a b, (a < z.length ∧ b < z.length ∧ (b : Int) ∈ tgts ((withinE E z).getD a [])) ↔ Ed E z a b := fun a b => by
    constructor
    · rintro ⟨h1, _, h3⟩; exact (ed_within hz (by omega)).1 h3
    · intro h; exact ⟨by have := h.1; omega, h.2.1, (ed_within hz h.1).2 h⟩
  rw [hs, List.any_eq_true]
  constructor
  · rintro ⟨e, he, hr⟩
    obtain ⟨h1, h2, h3⟩ := (within_mem (by omega)).1 he
    obtain ⟨j, hj, hjl, hjz⟩ := hasB_iff.1 h3
    have hn : isNd z.length e.op = true := by rw [hj]; exact isNd_iff.2 ⟨by omega, by omega⟩
    rw [reachG_iff hn, hj, rch_lead hw hjl] at hr
    obtain ⟨k, hk, hg, hl⟩ := hr
    have hg' := (goalsG_mem hk).1 hg
    rw [goalZ_at hk, Bool.and_eq_true] at hg'
    exact ⟨j, k, ⟨by omega, hjl, h1, hjz, by simp only [tgts, List.mem_map]; exact ⟨e, h2, hj⟩⟩, hl.mono (fun a b r => (hR a b).1 r), hk, hg'.1, hg'.2⟩
  · rintro ⟨j, k, hE, hl, hk, hkz, hka⟩
    have hm := (ed_within hz hE.1).2 hE
    simp only [tgts, List.mem_map] at hm
    obtain ⟨e, he, hj⟩ := hm
    refine ⟨e, he, ?_⟩
    rw [reachG_iff (by rw [hj]; exact isNd_iff.2 ⟨by omega, by have := hE.2.1; omega⟩), hj, rch_lead hw hE.2.1]
    exact ⟨k, hk, (goalsG_mem hk).2 (by rw [goalZ_at hk, hkz, hka]; rfl), hl.mono (fun a b r => (hR a b).2 r)⟩

/-- All of one set are of another one. -/
def SubB (y z : List Bool) : Prop := ∀ i : Nat, y.getD i false = true → z.getD i false = true
theorem getD_lt {z : List Bool} {i : Nat} (h : z.getD i false = true) : i < z.length := by
  by_cases hc : i < z.length
  · exact hc
  · simp [List.getD, List.getElem?_eq_none (by omega : z.length ≤ i)] at h
theorem sub_anti {y z : List Bool} (hl : y.length = z.length) (h1 : SubB y z) (h2 : SubB z y) : y = z := by
  refine List.ext_getElem hl (fun i a b => ?_)
  have e1 := h1 i
  have e2 := h2 i
  simp only [List.getD, List.getElem?_eq_getElem a, List.getElem?_eq_getElem b, Option.getD_some] at e1 e2
  exact Bool.eq_iff_iff.2 ⟨e1, e2⟩
theorem ed_mono {E : List (List Nd)} {y z : List Bool} (hs : SubB y z) {a b : Nat} (h : Ed E y a b) : Ed E z a b := ⟨h.1, getD_lt (hs _ h.2.2.2.1), hs _ h.2.2.1, hs _ h.2.2.2.1, h.2.2.2.2⟩
/-- A step grows with what is left, and with what is asked for. -/
theorem step_mono {E : List (List Nd)} {y z : List Bool} {p q : Nat → Bool} (hy : y.length = E.length) (hz : z.length = E.length) (hs : SubB y z) (hp : ∀ i, p i = true → q i = true) : SubB (stepZ E y p) (stepZ E z q) := by
  intro i hi
  have h1 := getD_lt hi
  rw [stepZ_len] at h1
  obtain ⟨j, k, a, b, c, d, e⟩ := (step_iff hy h1).1 hi
  exact (step_iff hz (by omega)).2 ⟨j, k, ed_mono hs a, b.mono (fun _ _ r => ed_mono hs r), by omega, hs _ d, hp _ e⟩
/-- What a step leaves was left. -/
theorem step_sub {E : List (List Nd)} {z : List Bool} {p : Nat → Bool} (hz : z.length = E.length) : SubB (stepZ E z p) z := by
  intro i hi
  have h1 := getD_lt hi
  rw [stepZ_len] at h1
  obtain ⟨j, k, a, _⟩ := (step_iff hz h1).1 hi
  exact a.2.2.1
end Go.Proofs.YtamhjgkigjpbhaaDoor

/- (XFixQ) Fixpoints over a graph: the greatest one. Plain. -/
namespace Go.Proofs.YtamhjgkigjpbhaaDoor

theorem SubB.refl (z : List Bool) : SubB z z := fun _ h => h
theorem SubB.trans {x y z : List Bool} (h : SubB x y) (k : SubB y z) : SubB x z := fun i a => k i (h i a)
/-- One round. -/
def roundZ (E : List (List Nd)) (asks : List (Nat → Bool)) (z : List Bool) : List Bool := asks.foldl (stepZ E) z
theorem roundZ_len (E : List (List Nd)) : ∀ (asks : List (Nat → Bool)) (z : List Bool), (roundZ E asks z).length = z.length
  | [], _ => rfl
  | p :: l, z => by
    show (roundZ E l (stepZ E z p)).length = _
    rw [roundZ_len E l, stepZ_len]
theorem roundZ_sub {E : List (List Nd)} : ∀ (asks : List (Nat → Bool)) {z : List Bool}, z.length = E.length → SubB (roundZ E asks z) z
  | [], _, _ => SubB.refl _
  | p :: l, z, hz => (roundZ_sub l (z := stepZ E z p) (by rw [stepZ_len]; exact hz)).trans (step_sub hz)
/-- What each step keeps. -/
def Fixd (E : List (List Nd)) (asks : List (Nat → Bool)) (z : List Bool) : Prop := ∀ p ∈ asks, SubB z (stepZ E z p)
theorem roundZ_inv {E : List (List Nd)} {y : List Bool} (hy : y.length = E.length) : ∀ (asks : List (Nat → Bool)) {z : List Bool}, z.length = E.length → Fixd E asks y → SubB y z → SubB y (roundZ E asks z)
  | [], _, _, _, h => h
  | p :: l, z, hz, hf, h => roundZ_inv hy l (z := stepZ E z p) (by rw [stepZ_len]; exact hz) (fun q hq => hf q (List.mem_cons_of_mem _ hq))
      ((hf p (List.mem_cons_self ..)).trans (step_mono hy hz h (fun _ a => a)))
theorem roundZ_fix {E : List (List Nd)} : ∀ (asks : List (Nat → Bool)) {z : List Bool}, z.length = E.length → SubB z (roundZ E asks z) → Fixd E asks z
  | [], _, _, _ => fun _ h => by cases h
  | p :: l, z, hz, h => by
    have h1 : SubB (roundZ E l (stepZ E z p)) (stepZ E z p) := roundZ_sub l (by rw [stepZ_len]; exact hz)
    have h2 : SubB z (stepZ E z p) := h.trans h1
    have h3 : stepZ E z p = z := sub_anti (stepZ_len _ _ _) (step_sub hz) h2
    intro q hq
    rcases List.mem_cons.1 hq with rfl | hq
    · exact h2
    · refine roundZ_fix l hz ?_ q hq
      have : roundZ E (p :: l) z = roundZ E l z := by
        show roundZ E l (stepZ E z p) = _
        rw [h3]
      rw [← this]; exact h
/-- The greatest one. -/
def Gfp (E : List (List Nd)) (asks : List (Nat → Bool)) (z : List Bool) : Prop := z.length = E.length ∧ Fixd E asks z ∧ ∀ y : List Bool, y.length = E.length → Fixd E asks y → SubB y z
theorem Gfp.uniq {E : List (List Nd)} {asks : List (Nat → Bool)} {y z : List Bool} (h : Gfp E asks y) (k : Gfp E asks z) : y = z :=
  sub_anti (h.1.trans k.1.symm) (k.2.2 y h.1 h.2.1) (h.2.2 z k.1 k.2.1)
/-- What is under way: nothing that must stay is lost. -/
def GInv (E : List (List Nd)) (asks : List (Nat → Bool)) (z : List Bool) : Prop := z.length = E.length ∧ ∀ y : List Bool, y.length = E.length → Fixd E asks y → SubB y z
theorem GInv.start (E : List (List Nd)) (asks : List (Nat → Bool)) : GInv E asks (List.replicate E.length true) :=
  ⟨by simp, fun y hy _ i hi => by
    have := getD_lt hi
    simp only [List.getD]
    rw [List.getElem?_replicate, if_pos (by omega)]; rfl⟩
theorem GInv.round {E : List (List Nd)} {asks : List (Nat → Bool)} {z : List Bool} (h : GInv E asks z) : GInv E asks (roundZ E asks z) :=
  ⟨by rw [roundZ_len]; exact h.1, fun y hy hf => roundZ_inv hy asks h.1 hf (h.2 y hy hf)⟩
theorem GInv.done {E : List (List Nd)} {asks : List (Nat → Bool)} {z : List Bool} (h : GInv E asks z) (hs : SubB z (roundZ E asks z)) : Gfp E asks z := ⟨h.1, roundZ_fix asks h.1 hs, h.2⟩
/-- Beside another set the set of all nodes asks for nothing. -/
theorem fixd_true {E : List (List Nd)} {asks : List (Nat → Bool)} {z : List Bool} (hz : z.length = E.length) (hne : asks ≠ []) : Fixd E ((fun _ => true) :: asks) z ↔ Fixd E asks z := by
  constructor
  · intro h p hp; exact h p (List.mem_cons_of_mem _ hp)
  · intro h p hp
    rcases List.mem_cons.1 hp with rfl | hp
    · cases asks with
      | nil => exact absurd rfl hne
      | cons q l => exact (h q (List.mem_cons_self ..)).trans (step_mono hz hz (SubB.refl z) (fun _ _ => rfl))
    · exact h p hp
theorem gfp_true {E : List (List Nd)} {asks : List (Nat → Bool)} {z : List Bool} (hne : asks ≠ []) : Gfp E ((fun _ => true) :: asks) z ↔ Gfp E asks z :=
  ⟨fun ⟨a, b, c⟩ => ⟨a, (fixd_true a hne).1 b, fun y hy hf => c y hy ((fixd_true hy hne).2 hf)⟩, fun ⟨a, b, c⟩ => ⟨a, (fixd_true a hne).2 b, fun y hy hf => c y hy ((fixd_true hy hne).1 hf)⟩⟩
/-- With less to ask for, no node is lost. -/
theorem gfp_less {E : List (List Nd)} {as bs : List (Nat → Bool)} {y z : List Bool} (h : Gfp E as y) (k : Gfp E bs z) (hl : ∀ p ∈ bs, ∃ q ∈ as, ∀ i, q i = true → p i = true) : SubB y z :=
  k.2.2 y h.1 (fun p hp => by
    obtain ⟨q, hq, hi⟩ := hl p hp
    exact (h.2.1 q hq).trans (step_mono h.1 h.1 (SubB.refl y) hi))
/-- How many are left. -/
def cntB (z : List Bool) : Nat := z.countP (fun b => b)
theorem cntB_le (z : List Bool) : cntB z ≤ z.length := List.countP_le_length
end Go.Proofs.YtamhjgkigjpbhaaDoor
