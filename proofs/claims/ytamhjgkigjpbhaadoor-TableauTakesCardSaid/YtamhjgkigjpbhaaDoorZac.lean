/- Texts that stand one behind the other, in one file. -/
import Derived.Test.YtamhjgkigjpbhaaDoorGrP

/- Graphs: turned about, made total; how far nodes are from goals. Plain. -/
namespace Go.Proofs.YtamhjgkigjpbhaaDoor

/-- An edge of the node a is turned about. -/
def turn1 (n a : Nat) (R : List (List Nd)) (e : Nd) : List (List Nd) :=
  if isNd n e.op = true then R.set e.op.toNat (R.getD e.op.toNat [] ++ [⟨a, e.n⟩]) else R
def turnTo (n : Nat) (E : List (List Nd)) : Nat → List (List Nd)
  | 0 => List.replicate n []
  | a + 1 => (E.getD a []).foldl (turn1 n a) (turnTo n E a)
def turnE (E : List (List Nd)) : List (List Nd) := turnTo E.length E E.length
theorem turn1_len {n a : Nat} (R : List (List Nd)) (e : Nd) : (turn1 n a R e).length = R.length := by unfold turn1; split <;> simp
theorem turnF_len {n a : Nat} : ∀ (l : List Nd) (R : List (List Nd)), (l.foldl (turn1 n a) R).length = R.length
  | [], _ => rfl
  | e :: l, R => by rw [List.foldl_cons, turnF_len l, turn1_len]
theorem turnTo_len {n : Nat} {E : List (List Nd)} : ∀ a, (turnTo n E a).length = n
  | 0 => by simp [turnTo]
  | a + 1 => by rw [turnTo, turnF_len, turnTo_len a]
theorem turnE_len (E : List (List Nd)) : (turnE E).length = E.length := turnTo_len _

theorem getD_set_same {α : Type} {l : List α} {k : Nat} {x d : α} (h : k < l.length) : (l.set k x).getD k d = x := by simp [List.getD, h]
theorem getD_set_ne' {α : Type} {l : List α} {k m : Nat} {x d : α} (h : k ≠ m) : (l.set k x).getD m d = l.getD m d := by simp [List.getD, List.getElem?_set_ne h]

theorem turn1_mem {n a : Nat} {R : List (List Nd)} (hR : R.length = n) (e : Nd) {t : Nat} (ht : t < n) (x : Nd) :
    x ∈ (turn1 n a R e).getD t [] ↔ x ∈ R.getD t [] ∨ (e.op = t ∧ x = ⟨a, e.n⟩) := by
  unfold turn1
  split
  · rename_i h
    obtain ⟨k, hk, hkn⟩ := isNd_nat h
    rw [hk, Int.toNat_natCast]
    by_cases e1 : k = t
    · subst e1
      rw [getD_set_same (by omega)]
      simp
    · rw [getD_set_ne' e1]
      constructor
      · exact .inl
      · rintro (h | ⟨h, _⟩)
        · exact h
        · exact absurd (by omega) e1
  · rename_i h
    constructor
    · exact .inl
    · rintro (h' | ⟨h', _⟩)
      · exact h'
      · exact absurd (isNd_iff.2 ⟨by omega, by omega⟩) h
theorem turnF_mem {n a : Nat} {t : Nat} (ht : t < n) (x : Nd) : ∀ (l : List Nd) {R : List (List Nd)}, R.length = n →
    (x ∈ (l.foldl (turn1 n a) R).getD t [] ↔ x ∈ R.getD t [] ∨ ∃ e ∈ l, e.op = t ∧ x = ⟨a, e.n⟩)
  | [], R, _ => by simp
  | e :: l, R, hR => by
    rw [List.foldl_cons, turnF_mem ht x l (by rw [turn1_len, hR]), turn1_mem hR e ht]
    simp only [List.mem_cons, exists_eq_or_imp, or_assoc]
theorem turnTo_mem {n : Nat} {E : List (List Nd)} {t : Nat} (ht : t < n) (x : Nd) : ∀ k, (x ∈ (turnTo n E k).getD t [] ↔ ∃ a, a < k ∧ ∃ e ∈ E.getD a [], e.op = t ∧ x = ⟨a, e.n⟩)
  | 0 => by simp [turnTo, List.getD, ht]
  | k + 1 => by
    rw [turnTo, turnF_mem ht x _ (turnTo_len k), turnTo_mem ht x k]
    constructor
    · rintro (⟨a, ha, h⟩ | h)
      · exact ⟨a, by omega, h⟩
      · exact ⟨k, by omega, h⟩
    · rintro ⟨a, ha, h⟩
      by_cases e : a = k
      · subst e; exact .inr h
      · exact .inl ⟨a, by omega, h⟩
theorem turn_tgt {E : List (List Nd)} {t : Nat} (ht : t < E.length) {j : Int} : j ∈ tgts ((turnE E).getD t []) ↔ ∃ a : Nat, j = a ∧ a < E.length ∧ (t : Int) ∈ tgts (E.getD a []) := by
  simp only [tgts, List.mem_map]
  constructor
  · rintro ⟨x, hx, rfl⟩
    obtain ⟨a, ha, e, he, h1, rfl⟩ := (turnTo_mem ht x _).1 hx
    exact ⟨a, rfl, ha, e, he, h1⟩
  · rintro ⟨a, rfl, ha, e, he, h1⟩
    exact ⟨⟨a, e.n⟩, (turnTo_mem ht _ _).2 ⟨a, ha, e, he, h1, rfl⟩, rfl⟩
/-- The nodes that are goals, rising. -/
def goalsG (n : Nat) (goal : List Bool) : List Int := ((List.range (min goal.length n)).filter (fun i => goal.getD i false)).map (fun (i : Nat) => (i : Int))
end Go.Proofs.YtamhjgkigjpbhaaDoor

/- Graphs: how far nodes are from goals, and the shortest way. Plain. -/
namespace Go.Proofs.YtamhjgkigjpbhaaDoor

/-- What is known of distances and open nodes. -/
structure DOk (n : Nat) (T : List (List Nd)) (goals : List Int) (s : List Int × List Int) : Prop where
  len : s.1.length = n
  rng : ∀ i ∈ s.2, isNd n i = true
  cnt : s.2.length = s.1.countP (fun x => decide (0 ≤ x))
  lo : ∀ i : Nat, -1 ≤ s.1.getD i 0
  at_ : ∀ (j : Nat) i, s.2[j]? = some i → 0 ≤ s.1.getD i.toNat 0 ∧ s.1.getD i.toNat 0 ≤ (j : Int)
  mem : ∀ i : Nat, i < n → 0 ≤ s.1.getD i 0 → (i : Int) ∈ s.2
  zero : ∀ i : Nat, i < n → (s.1.getD i 0 = 0 ↔ (i : Int) ∈ goals)
  pre : ∀ i : Nat, i < n → 1 ≤ s.1.getD i 0 → ∃ a ∈ s.2, s.1.getD a.toNat 0 = s.1.getD i 0 - 1 ∧ (i : Int) ∈ tgts (T.getD a.toNat [])

theorem countP_set {l : List Int} {k : Nat} {d : Int} (hk : k < l.length) (h : l.getD k 0 < 0) (hd : 0 ≤ d) : (l.set k d).countP (fun x => decide (0 ≤ x)) = l.countP (fun x => decide (0 ≤ x)) + 1 := by
  induction l generalizing k with
  | nil => simp at hk
  | cons x l ih =>
    cases k with
    | zero =>
      simp [List.getD] at h
      rw [List.set_cons_zero, List.countP_cons, List.countP_cons, if_pos (by simpa using hd), if_neg (by simp; omega)]
    | succ k =>
      simp [List.getD] at h hk
      have := ih (k := k) hk (by simpa [List.getD] using h)
      rw [List.set_cons_succ, List.countP_cons, List.countP_cons, this]
      omega
section
variable {n : Nat} {T : List (List Nd)} {goals : List Int}
theorem DOk.le {s : List Int × List Int} (h : DOk n T goals s) : s.2.length ≤ n := by
  rw [h.cnt, ← h.len]; exact List.countP_le_length
theorem DOk.hi {s : List Int × List Int} (h : DOk n T goals s) (i : Nat) (hi : i < n) : s.1.getD i 0 < (n : Int) := by
  by_cases h0 : 0 ≤ s.1.getD i 0
  · obtain ⟨j, hj⟩ := List.getElem?_of_mem (h.mem i hi h0)
    have h1 := h.at_ j i hj
    have := (List.getElem?_eq_some_iff.1 hj).1
    have := h.le
    rw [Int.toNat_natCast] at h1
    omega
  · omega
end
end Go.Proofs.YtamhjgkigjpbhaaDoor

/- Graphs: the shortest way. Plain. -/
namespace Go.Proofs.YtamhjgkigjpbhaaDoor

def nxtStep (n : Nat) (D : List Int) (c nx : Int) (e : Nd) : Int := if (isNd n e.op = true ∧ D.getD e.op.toNat 0 = c) ∧ (nx < 0 ∨ e.op < nx) then e.op else nx
def nxtG (n : Nat) (D : List Int) (c : Int) (l : List Nd) : Int := l.foldl (nxtStep n D c) (-1)
/-- What is known of a node that was picked: none, or one of the list that fits. -/
def NxOk (n : Nat) (D : List Int) (c : Int) (l : List Nd) (x : Int) : Prop := x = -1 ∨ (isNd n x = true ∧ D.getD x.toNat 0 = c ∧ x ∈ tgts l)
theorem nxtF_ok {n : Nat} {D : List Int} {c : Int} : ∀ (l m : List Nd) (x : Int), NxOk n D c m x → NxOk n D c (m ++ l) (l.foldl (nxtStep n D c) x)
  | [], m, x, h => by simpa using h
  | e :: l, m, x, h => by
    rw [List.foldl_cons, show m ++ e :: l = (m ++ [e]) ++ l by simp]
    refine nxtF_ok l (m ++ [e]) _ ?_
    unfold nxtStep
    split
    · rename_i hc
      exact .inr ⟨hc.1.1, hc.1.2, by simp [tgts]⟩
    · rcases h with h | ⟨h1, h2, h3⟩
      · exact .inl h
      · exact .inr ⟨h1, h2, by simp only [tgts, List.map_append, List.mem_append] at h3 ⊢; exact .inl h3⟩
theorem nxtG_ok {n : Nat} {D : List Int} {c : Int} (l : List Nd) : NxOk n D c l (nxtG n D c l) := by
  have := nxtF_ok (n := n) (D := D) (c := c) l [] (-1) (.inl rfl)
  rwa [List.nil_append] at this
theorem nxtF_ge {n : Nat} {D : List Int} {c : Int} : ∀ (l : List Nd) (x : Int), (0 ≤ x ∨ ∃ e ∈ l, isNd n e.op = true ∧ D.getD e.op.toNat 0 = c) → 0 ≤ l.foldl (nxtStep n D c) x
  | [], x, h => by simpa using h
  | e :: l, x, h => by
    rw [List.foldl_cons]
    apply nxtF_ge l
    unfold nxtStep
    split
    · rename_i hc
      exact .inl (isNd_iff.1 hc.1.1).1
    · rename_i hc
      rcases h with h | ⟨e', he', h1, h2⟩
      · exact .inl h
      · rcases List.mem_cons.1 he' with rfl | he'
        · left
          by_cases hx : x < 0
          · exact absurd ⟨⟨h1, h2⟩, .inl hx⟩ hc
          · omega
        · exact .inr ⟨e', he', h1, h2⟩
theorem nxtG_node {n : Nat} {D : List Int} {c : Int} {l : List Nd} (h : ∃ e ∈ l, isNd n e.op = true ∧ D.getD e.op.toNat 0 = c) : isNd n (nxtG n D c l) = true ∧ D.getD (nxtG n D c l).toNat 0 = c ∧ nxtG n D c l ∈ tgts l := by
  have h0 := nxtF_ge l (-1) (.inr h)
  rcases nxtG_ok (n := n) (D := D) (c := c) l with h1 | h1
  · have : (0 : Int) ≤ nxtG n D c l := h0
    omega
  · exact h1
/-- Distances that go down along some edge. -/
def Dn (n : Nat) (D : List Int) (E : List (List Nd)) : Prop := ∀ i : Nat, i < n → 1 ≤ D.getD i 0 → ∃ e ∈ E.getD i [], isNd n e.op = true ∧ D.getD e.op.toNat 0 = D.getD i 0 - 1
theorem Dn.next {n : Nat} {D : List Int} {E : List (List Nd)} (h : Dn n D E) {a : Int} {k : Nat} (ha : isNd n a = true) (hd : D.getD a.toNat 0 = ((k + 1 : Nat) : Int)) :
    isNd n (nxtG n D (k : Int) (E.getD a.toNat [])) = true ∧ D.getD (nxtG n D (k : Int) (E.getD a.toNat [])).toNat 0 = (k : Int) ∧ nxtG n D (k : Int) (E.getD a.toNat []) ∈ tgts (E.getD a.toNat []) := by
  obtain ⟨m, rfl, hm⟩ := isNd_nat ha
  rw [Int.toNat_natCast] at hd ⊢
  obtain ⟨e, he, h1, h2⟩ := h m hm (by omega)
  exact nxtG_node ⟨e, he, h1, by rw [h2, hd]; omega⟩
theorem goalsG_mem {n : Nat} {goal : List Bool} {i : Nat} (hi : i < n) : (i : Int) ∈ goalsG n goal ↔ goal.getD i false = true := by
  simp only [goalsG, List.mem_map, List.mem_filter, List.mem_range]
  constructor
  · rintro ⟨k, ⟨h1, h2⟩, h3⟩
    have : k = i := by omega
    subst this; exact h2
  · intro h
    have hg : i < goal.length := by
      by_cases h' : i < goal.length
      · exact h'
      · simp [List.getD, List.getElem?_eq_none (by omega : goal.length ≤ i)] at h
    exact ⟨i, ⟨by omega, h⟩, rfl⟩
end Go.Proofs.YtamhjgkigjpbhaaDoor

/- Fixpoints over a graph: plain. -/
namespace Go.Proofs.YtamhjgkigjpbhaaDoor

/-- Is a number of a set? -/
def hasB (s : List Bool) (i : Int) : Bool := isNd s.length i && s.getD i.toNat false
theorem hasB_nat {s : List Bool} {k : Nat} (h : k < s.length) : hasB s (k : Int) = s.getD k false := by
  rw [hasB, isNd_iff.2 ⟨by omega, by omega⟩, Bool.true_and, Int.toNat_natCast]
theorem hasB_iff {s : List Bool} {i : Int} : hasB s i = true ↔ ∃ k : Nat, i = k ∧ k < s.length ∧ s.getD k false = true := by
  rw [hasB, Bool.and_eq_true]
  constructor
  · rintro ⟨h1, h2⟩
    obtain ⟨k, rfl, hk⟩ := isNd_nat h1
    exact ⟨k, rfl, hk, by simpa using h2⟩
  · rintro ⟨k, rfl, hk, h⟩
    exact ⟨isNd_iff.2 ⟨by omega, by omega⟩, by simpa using h⟩
/-- The edges between nodes that are left. -/
def withinE (E : List (List Nd)) (z : List Bool) : List (List Nd) := (List.range E.length).map fun i => if z.getD i false = true then (E.getD i []).filter (fun e => hasB z e.op) else []
def goalZ (z : List Bool) (ask : Nat → Bool) : List Bool := (List.range z.length).map fun i => z.getD i false && ask i
/-- From where a way of one edge or more leads to one that is asked for. -/
def stepZ (E : List (List Nd)) (z : List Bool) (ask : Nat → Bool) : List Bool :=
  (List.range z.length).map fun i => ((withinE E z).getD i []).any (fun e => (backG' z.length (withinE E z) (goalZ z ask)).getD e.op.toNat false)
where backG' (n : Nat) (E : List (List Nd)) (goal : List Bool) : List Bool := reachG n (turnE E) (goalsG n goal)
theorem withinE_len (E : List (List Nd)) (z : List Bool) : (withinE E z).length = E.length := by simp [withinE]
theorem stepZ_len (E : List (List Nd)) (z : List Bool) (ask : Nat → Bool) : (stepZ E z ask).length = z.length := by simp [stepZ]
theorem within_mem {E : List (List Nd)} {z : List Bool} {i : Nat} (hi : i < E.length) {e : Nd} : e ∈ (withinE E z).getD i [] ↔ z.getD i false = true ∧ e ∈ E.getD i [] ∧ hasB z e.op = true := by
  have : (withinE E z).getD i [] = if z.getD i false = true then (E.getD i []).filter (fun e => hasB z e.op) else [] := by simp [withinE, List.getD, hi]
  rw [this]
  split
  · rename_i h
    rw [List.mem_filter]
    exact ⟨fun ⟨a, b⟩ => ⟨h, a, b⟩, fun ⟨_, a, b⟩ => ⟨a, b⟩⟩
  · rename_i h
    simp only [List.not_mem_nil, false_iff]
    exact fun h' => h h'.1

/-- An edge within what is left. -/
def Ed (E : List (List Nd)) (z : List Bool) (i j : Nat) : Prop := i < E.length ∧ j < z.length ∧ z.getD i false = true ∧ z.getD j false = true ∧ (j : Int) ∈ tgts (E.getD i [])
inductive Lead (R : Nat → Nat → Prop) : Nat → Nat → Prop
  | refl (a : Nat) : Lead R a a
  | step {a b c : Nat} : R a b → Lead R b c → Lead R a c
theorem Lead.mono {R S : Nat → Nat → Prop} (h : ∀ a b, R a b → S a b) {a b : Nat} (l : Lead R a b) : Lead S a b := by
  induction l with
  | refl a => exact .refl a
  | step r _ ih => exact .step (h _ _ r) ih
theorem Lead.trans {R : Nat → Nat → Prop} {a b c : Nat} (l : Lead R a b) (m : Lead R b c) : Lead R a c := by
  induction l with
  | refl a => exact m
  | step r _ ih => exact .step r (ih m)
theorem ed_within {E : List (List Nd)} {z : List Bool} (_hz : z.length = E.length) {i j : Nat} (hi : i < E.length) : (j : Int) ∈ tgts ((withinE E z).getD i []) ↔ Ed E z i j := by
  simp only [tgts, List.mem_map]
  constructor
  · rintro ⟨e, he, hj⟩
    obtain ⟨h1, h2, h3⟩ := (within_mem hi).1 he
    obtain ⟨k, hk, hkl, hkz⟩ := hasB_iff.1 h3
    have : k = j := by omega
    subst this
    exact ⟨hi, hkl, h1, hkz, by simp only [tgts, List.mem_map]; exact ⟨e, h2, hj⟩⟩
  · rintro ⟨_, h2, h3, h4, h5⟩
    simp only [tgts, List.mem_map] at h5
    obtain ⟨e, he, hj⟩ := h5
    exact ⟨e, (within_mem hi).2 ⟨h3, he, by rw [hj, hasB_nat h2]; exact h4⟩, hj⟩
/-- What leads back, in the graph turned about. -/
theorem rch_lead {E : List (List Nd)} {gs : List Int} {n : Nat} (hn : n = E.length) {i : Nat} (hi : i < n) : Rch n (turnE E) gs (i : Int) ↔ ∃ k : Nat, k < n ∧ (k : Int) ∈ gs ∧ Lead (fun a b => a < n ∧ b < n ∧ (b : Int) ∈ tgts (E.getD a [])) i k := by
  subst hn
  constructor
  · intro h
    generalize hx : (i : Int) = x at h
    induction h generalizing i with
    | start h1 h2 => subst hx; exact ⟨i, hi, h1, .refl _⟩
    | @step a b ha hb hn ih =>
      subst hx
      obtain ⟨m, rfl, hm⟩ := isNd_nat ha.node
      rw [Int.toNat_natCast, turn_tgt hm] at hb
      obtain ⟨a', e1, _, h4⟩ := hb
      have : i = a' := by omega
      subst this
      obtain ⟨k, h1, h2, h3⟩ := ih hm rfl
      exact ⟨k, h1, h2, .step ⟨hi, hm, h4⟩ h3⟩
  · rintro ⟨k, hk, hg, hl⟩
    induction hl with
    | refl a => exact .start hg (isNd_iff.2 ⟨by omega, by omega⟩)
    | @step a b c r _ ih =>
      refine .step (ih r.2.1 hk hg) ?_ (isNd_iff.2 ⟨by omega, by omega⟩)
      rw [Int.toNat_natCast, turn_tgt r.2.1]
      exact ⟨a, rfl, r.1, r.2.2⟩
theorem goalZ_len (z : List Bool) (ask : Nat → Bool) : (goalZ z ask).length = z.length := by simp [goalZ]
theorem goalZ_at {z : List Bool} {ask : Nat → Bool} {k : Nat} (hk : k < z.length) : (goalZ z ask).getD k false = (z.getD k false && ask k) := by simp [goalZ, List.getD, hk]
/-- What a step tells. -/
theorem step_iff {E : List (List Nd)} {z : List Bool} {ask : Nat → Bool} (hz : z.length = E.length) {i : Nat} (hi : i < z.length) :
    (stepZ E z ask).getD i false = true ↔ ∃ j k : Nat, Ed E z i j ∧ Lead (Ed E z) j k ∧ k < z.length ∧ z.getD k false = true ∧ ask k = true := by
  have hs : (stepZ E z ask).getD i false = ((withinE E z).getD i []).any (fun e => (reachG z.length (turnE (withinE E z)) (goalsG z.length (goalZ z ask))).getD e.op.toNat false) := by
    simp [stepZ, stepZ.backG', List.getD, hi]
  have hw : z.length = (withinE E z).length := by rw [withinE_len, hz]
  have hR : ∀ a b, (a < z.length ∧ b < z.length ∧ (b : Int) ∈ tgts ((withinE E z).getD a [])) ↔ Ed E z a b := fun a b => by
    constructor
    · rintro ⟨h1, _, h3⟩; exact (ed_within hz (by omega)).1 h3
    · intro h; exact ⟨by have := h.1; omega, h.2.1, (ed_within hz h.1).2 h⟩
  rw [hs, List.any_eq_true]
  constructor
  · rintro ⟨e, he, hr⟩
    obtain ⟨h1, h2, h3⟩ := (within_mem (by omega)).1 he
    obtain ⟨j, hj, hjl, hjz⟩ := hasB_iff.1 h3
    have hn : isNd z.length e.op = true := by rw [hj]; exact isNd_iff.2 ⟨by omega, by omega⟩
    rw [reachG_iff hn, hj, rch_lead hw hjl] at hr
    obtain ⟨k, hk, hg, hl⟩ := hr
    have hg' := (goalsG_mem hk).1 hg
    rw [goalZ_at hk, Bool.and_eq_true] at hg'
    exact ⟨j, k, ⟨by omega, hjl, h1, hjz, by simp only [tgts, List.mem_map]; exact ⟨e, h2, hj⟩⟩, hl.mono (fun a b r => (hR a b).1 r), hk, hg'.1, hg'.2⟩
  · rintro ⟨j, k, hE, hl, hk, hkz, hka⟩
    have hm := (ed_within hz hE.1).2 hE
    simp only [tgts, List.mem_map] at hm
    obtain ⟨e, he, hj⟩ := hm
    refine ⟨e, he, ?_⟩
    rw [reachG_iff (by rw [hj]; exact isNd_iff.2 ⟨by omega, by have := hE.2.1; omega⟩), hj, rch_lead hw hE.2.1]
    exact ⟨k, hk, (goalsG_mem hk).2 (by rw [goalZ_at hk, hkz, hka]; rfl), hl.mono (fun a b r => (hR a b).2 r)⟩

/-- All of one set are of another one. -/
def SubB (y z : List Bool) : Prop := ∀ i : Nat, y.getD i false = true → z.getD i false = true
theorem getD_lt {z : List Bool} {i : Nat} (h : z.getD i false = true) : i < z.length := by
  by_cases hc : i < z.length
  · exact hc
  · simp [List.getD, List.getElem?_eq_none (by omega : z.length ≤ i)] at h
theorem sub_anti {y z : List Bool} (hl : y.length = z.length) (h1 : SubB y z) (h2 : SubB z y) : y = z := by
  refine List.ext_getElem hl (fun i a b => ?_)
  have e1 := h1 i
  have e2 := h2 i
  simp only [List.getD, List.getElem?_eq_getElem a, List.getElem?_eq_getElem b, Option.getD_some] at e1 e2
  exact Bool.eq_iff_iff.2 ⟨e1, e2⟩
theorem ed_mono {E : List (List Nd)} {y z : List Bool} (hs : SubB y z) {a b : Nat} (h : Ed E y a b) : Ed E z a b := ⟨h.1, getD_lt (hs _ h.2.2.2.1), hs _ h.2.2.1, hs _ h.2.2.2.1, h.2.2.2.2⟩
/-- A step grows with what is left, and with what is asked for. -/
theorem step_mono {E : List (List Nd)} {y z : List Bool} {p q : Nat → Bool} (hy : y.length = E.length) (hz : z.length = E.length) (hs : SubB y z) (hp : ∀ i, p i = true → q i = true) : SubB (stepZ E y p) (stepZ E z q) := by
  intro i hi
  have h1 := getD_lt hi
  rw [stepZ_len] at h1
  obtain ⟨j, k, a, b, c, d, e⟩ := (step_iff hy h1).1 hi
  exact (step_iff hz (by omega)).2 ⟨j, k, ed_mono hs a, b.mono (fun _ _ r => ed_mono hs r), by omega, hs _ d, hp _ e⟩
/-- What a step leaves was left. -/
theorem step_sub {E : List (List Nd)} {z : List Bool} {p : Nat → Bool} (hz : z.length = E.length) : SubB (stepZ E z p) z := by
  intro i hi
  have h1 := getD_lt hi
  rw [stepZ_len] at h1
  obtain ⟨j, k, a, _⟩ := (step_iff hz h1).1 hi
  exact a.2.2.1
end Go.Proofs.YtamhjgkigjpbhaaDoor
