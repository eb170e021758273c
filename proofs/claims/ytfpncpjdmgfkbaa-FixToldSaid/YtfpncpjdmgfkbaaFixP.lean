/- Fixpoints over a graph: plain. -/
import Derived.Test.YtfpncpjdmgfkbaaMb
namespace Go.Proofs.Ytfpncpjdmgfkbaa

/-- Is a number of a set? -/
def hasB (s : List Bool) (i : Int) : Bool := isNd s.length i && s.getD i.toNat false
theorem hasB_nat {s : List Bool} {k : Nat} (h : k < s.length) : hasB s (k : Int) = s.getD k false := by
  rw [hasB, isNd_iff.2 ⟨by omega, by omega⟩, Bool.true_and, Int.toNat_natCast]
theorem hasB_iff {s : List Bool} {i : Int} : hasB s i = true ↔ ∃ k : Nat, i = k ∧ k < s.length ∧ s.getD k false = true := by
  rw [hasB, Bool.and_eq_true]
  constructor
  · rintro ⟨h1, h2⟩
    obtain ⟨k, rfl, hk⟩ := isNd_nat h1
    exact ⟨k, rfl, hk, by simpa using h2⟩
  · rintro ⟨k, rfl, hk, h⟩
    exact ⟨isNd_iff.2 ⟨by omega, by omega⟩, by simpa using h⟩
/-- The edges between nodes that are left. -/
def withinE (E : List (List Nd)) (z : List Bool) : List (List Nd) := (List.range E.length).map fun i => if z.getD i false = true then (E.getD i []).filter (fun e => hasB z e.op) else []
def goalZ (z : List Bool) (ask : Nat → Bool) : List Bool := (List.range z.length).map fun i => z.getD i false && ask i
/-- From where a way of one edge or more leads to one that is asked for. -/
def stepZ (E : List (List Nd)) (z : List Bool) (ask : Nat → Bool) : List Bool :=
  (List.range z.length).map fun i => ((withinE E z).getD i []).any (fun e => (backG' z.length (withinE E z) (goalZ z ask)).getD e.op.toNat false)
where backG' (n : Nat) (E : List (List Nd)) (goal : List Bool) : List Bool := reachG n (turnE E) (goalsG n goal)
theorem withinE_len (E : List (List Nd)) (z : List Bool) : (withinE E z).length = E.length := by simp [withinE]
theorem stepZ_len (E : List (List Nd)) (z : List Bool) (ask : Nat → Bool) : (stepZ E z ask).length = z.length := by simp [stepZ]
theorem within_mem {E : List (List Nd)} {z : List Bool} {i : Nat} (hi : i < E.length) {e : Nd} : e ∈ (withinE E z).getD i [] ↔ z.getD i false = true ∧ e ∈ E.getD i [] ∧ hasB z e.op = true := by
  have : (withinE E z).getD i [] = if z.getD i false = true then (E.getD i []).filter (fun e => hasB z e.op) else [] := by simp [withinE, List.getD, hi]
  rw [this]
  split
  · rename_i h
    rw [List.mem_filter]
    exact ⟨fun ⟨a, b⟩ => ⟨h, a, b⟩, fun ⟨_, a, b⟩ => ⟨a, b⟩⟩
  · rename_i h
    simp only [List.not_mem_nil, false_iff]
    exact fun h' => h h'.1

/-- An edge within what is left. -/
def Ed (E : List (List Nd)) (z : List Bool) (i j : Nat) : Prop := i < E.length ∧ j < z.length ∧ z.getD i false = true ∧ z.getD j false = true ∧ (j : Int) ∈ tgts (E.getD i [])
inductive Lead (R : Nat → Nat → Prop) : Nat → Nat → Prop
  | refl (a : Nat) : Lead R a a
  | step {a b c : Nat} : R a b → Lead R b c → Lead R a c
theorem Lead.mono {R S : Nat → Nat → Prop} (h : ∀ a b, R a b → S a b) {a b : Nat} (l : Lead R a b) : Lead S a b := by
  induction l with
  | refl a => exact .refl a
  | step r _ ih => exact .step (h _ _ r) ih
theorem Lead.snoc {R : Nat → Nat → Prop} {a b c : Nat} (l : Lead R a b) (r : R b c) : Lead R a c := by
  induction l with
  | refl a => exact .step r (.refl _)
  | step r' _ ih => exact .step r' (ih r)
theorem Lead.trans {R : Nat → Nat → Prop} {a b c : Nat} (l : Lead R a b) (m : Lead R b c) : Lead R a c := by
  induction l with
  | refl a => exact m
  | step r _ ih => exact .step r (ih m)
theorem ed_within {E : List (List Nd)} {z : List Bool} (_hz : z.length = E.length) {i j : Nat} (hi : i < E.length) : (j : Int) ∈ tgts ((withinE E z).getD i []) ↔ Ed E z i j := by
  simp only [tgts, List.mem_map]
  constructor
  · rintro ⟨e, he, hj⟩
    obtain ⟨h1, h2, h3⟩ := (within_mem hi).1 he
    obtain ⟨k, hk, hkl, hkz⟩ := hasB_iff.1 h3
    have : k = j := by omega
    subst this
    exact ⟨hi, hkl, h1, hkz, by simp only [tgts, List.mem_map]; exact ⟨e, h2, hj⟩⟩
  · rintro ⟨_, h2, h3, h4, h5⟩
    simp only [tgts, List.mem_map] at h5
    obtain ⟨e, he, hj⟩ := h5
    exact ⟨e, (within_mem hi).2 ⟨h3, he, by rw [hj, hasB_nat h2]; exact h4⟩, hj⟩
/-- What leads back, in the graph turned about. -/
theorem rch_lead {E : List (List Nd)} {gs : List Int} {n : Nat} (hn : n = E.length) {i : Nat} (hi : i < n) : Rch n (turnE E) gs (i : Int) ↔ ∃ k : Nat, k < n ∧ (k : Int) ∈ gs ∧ Lead (fun a b => a < n ∧ b < n ∧ (b : Int) ∈ tgts (E.getD a [])) i k := by
  subst hn
  constructor
  · intro h
    generalize hx : (i : Int) = x at h
    induction h generalizing i with
    | start h1 h2 => subst hx; exact ⟨i, hi, h1, .refl _⟩
    | @step a b ha hb hn ih =>
      subst hx
      obtain ⟨m, rfl, hm⟩ := isNd_nat ha.node
      rw [Int.toNat_natCast, turn_tgt hm] at hb
      obtain ⟨a', e1, _, h4⟩ := hb
      have : i = a' := by omega
      subst this
      obtain ⟨k, h1, h2, h3⟩ := ih hm rfl
      exact ⟨k, h1, h2, .step ⟨hi, hm, h4⟩ h3⟩
  · rintro ⟨k, hk, hg, hl⟩
    induction hl with
    | refl a => exact .start hg (isNd_iff.2 ⟨by omega, by omega⟩)
    | @step a b c r _ ih =>
      refine .step (ih r.2.1 hk hg) ?_ (isNd_iff.2 ⟨by omega, by omega⟩)
      rw [Int.toNat_natCast, turn_tgt r.2.1]
      exact ⟨a, rfl, r.1, r.2.2⟩
theorem goalZ_len (z : List Bool) (ask : Nat → Bool) : (goalZ z ask).length = z.length := by simp [goalZ]
theorem goalZ_at {z : List Bool} {ask : Nat → Bool} {k : Nat} (hk : k < z.length) : (goalZ z ask).getD k false = (z.getD k false && ask k) := by simp [goalZ, List.getD, hk]
/-- What a step tells. -/
theorem step_iff {E : List (List Nd)} {z : List Bool} {ask : Nat → Bool} (hz : z.length = E.length) {i : Nat} (hi : i < z.length) :
    (stepZ E z ask).getD i false = true ↔ ∃ j k : Nat, Ed E z i j ∧ Lead (Ed E z) j k ∧ k < z.length ∧ z.getD k false = true ∧ ask k = true := by
  have hs : (stepZ E z ask).getD i false = ((withinE E z).getD i []).any (fun e => (reachG z.length (turnE (withinE E z)) (goalsG z.length (goalZ z ask))).getD e.op.toNat false) := by
    simp [stepZ, stepZ.backG', List.getD, hi]
  have hw : z.length = (withinE E z).length := by rw [withinE_len, hz]
  have hR : ∀ a b, (a < z.length ∧ b < z.length ∧ (b : Int) ∈ tgts ((withinE E z).getD a [])) ↔ Ed E z a b := fun a b => by
    constructor
    · rintro ⟨h1, _, h3⟩; exact (ed_within hz (by omega)).1 h3
    · intro h; exact ⟨by have := h.1; omega, h.2.1, (ed_within hz h.1).2 h⟩
  rw [hs, List.any_eq_true]
  constructor
  · rintro ⟨e, he, hr⟩
    obtain ⟨h1, h2, h3⟩ := (within_mem (by omega)).1 he
    obtain ⟨j, hj, hjl, hjz⟩ := hasB_iff.1 h3
    have hn : isNd z.length e.op = true := by rw [hj]; exact isNd_iff.2 ⟨by omega, by omega⟩
    rw [reachG_iff hn, hj, rch_lead hw hjl] at hr
    obtain ⟨k, hk, hg, hl⟩ := hr
    have hg' := (goalsG_mem hk).1 hg
    rw [goalZ_at hk, Bool.and_eq_true] at hg'
    exact ⟨j, k, ⟨by omega, hjl, h1, hjz, by simp only [tgts, List.mem_map]; exact ⟨e, h2, hj⟩⟩, hl.mono (fun a b r => (hR a b).1 r), hk, hg'.1, hg'.2⟩
  · rintro ⟨j, k, hE, hl, hk, hkz, hka⟩
    have hm := (ed_within hz hE.1).2 hE
    simp only [tgts, List.mem_map] at hm
    obtain ⟨e, he, hj⟩ := hm
    refine ⟨e, he, ?_⟩
    rw [reachG_iff (by rw [hj]; exact isNd_iff.2 ⟨by omega, by have := hE.2.1; omega⟩), hj, rch_lead hw hE.2.1]
    exact ⟨k, hk, (goalsG_mem hk).2 (by rw [goalZ_at hk, hkz, hka]; rfl), hl.mono (fun a b r => (hR a b).2 r)⟩

/-- All of one set are of another one. -/
def SubB (y z : List Bool) : Prop := ∀ i : Nat, y.getD i false = true → z.getD i false = true
theorem getD_lt {z : List Bool} {i : Nat} (h : z.getD i false = true) : i < z.length := by
  by_cases hc : i < z.length
  · exact hc
  · simp [List.getD, List.getElem?_eq_none (by omega : z.length ≤ i)] at h
theorem sub_anti {y z : List Bool} (hl : y.length = z.length) (h1 : SubB y z) (h2 : SubB z y) : y = z := by
  refine List.ext_getElem hl (fun i a b => ?_)
  have e1 := h1 i
  have e2 := h2 i
  simp only [List.getD, List.getElem?_eq_getElem a, List.getElem?_eq_getElem b, Option.getD_some] at e1 e2
  exact Bool.eq_iff_iff.2 ⟨e1, e2⟩
theorem ed_mono {E : List (List Nd)} {y z : List Bool} (hs : SubB y z) {a b : Nat} (h : Ed E y a b) : Ed E z a b := ⟨h.1, getD_lt (hs _ h.2.2.2.1), hs _ h.2.2.1, hs _ h.2.2.2.1, h.2.2.2.2⟩
/-- A step grows with what is left, and with what is asked for. -/
theorem step_mono {E : List (List Nd)} {y z : List Bool} {p q : Nat → Bool} (hy : y.length = E.length) (hz : z.length = E.length) (hs : SubB y z) (hp : ∀ i, p i = true → q i = true) : SubB (stepZ E y p) (stepZ E z q) := by
  intro i hi
  have h1 := getD_lt hi
  rw [stepZ_len] at h1
  obtain ⟨j, k, a, b, c, d, e⟩ := (step_iff hy h1).1 hi
  exact (step_iff hz (by omega)).2 ⟨j, k, ed_mono hs a, b.mono (fun _ _ r => ed_mono hs r), by omega, hs _ d, hp _ e⟩
/-- What a step leaves was left. -/
theorem step_sub {E : List (List Nd)} {z : List Bool} {p : Nat → Bool} (hz : z.length = E.length) : SubB (stepZ E z p) z := by
  intro i hi
  have h1 := getD_lt hi
  rw [stepZ_len] at h1
  obtain ⟨j, k, a, _⟩ := (step_iff hz h1).1 hi
  exact a.2.2.1
end Go.Proofs.Ytfpncpjdmgfkbaa
