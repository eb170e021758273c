/- Texts that stand one behind the other, in one file. -/
import Derived.Test.YtiebpncpdbnelaaDoorZab
namespace Go.Proofs.YtiebpncpdbnelaaDoor
def hasB (s : List Bool) (i : Int) : Bool := isNd s.length i && s.getD i.toNat false
theorem hasB_nat {s : List Bool} {k : Nat} (h : k < s.length) : hasB s (k : Int) = s.getD k false := by
 rw [hasB, isNd_iff.2 ⟨by omega, by omega⟩, Bool.true_and, tN]
theorem hasB_iff {s : List Bool} {i : Int} : hasB s i = true ↔ ∃ k : Nat, i = k ∧ k < s.length ∧ s.getD k false = true := by
 rw [hasB, Bool.and_eq_true]
 constructor
 ·rintro ⟨h1, h2⟩
  obtain ⟨k, rfl, hk⟩ := isNd_nat h1
  exact ⟨k, rfl, hk, by simpa using h2⟩
 ·rintro ⟨k, rfl, hk, h⟩
  exact ⟨isNd_iff.2 ⟨by omega, by omega⟩, by simpa using h⟩
def withinE (E : List (List Nd)) (z : List Bool) : List (List Nd) := (List.range E.length).map fun i => if z.getD i false = true then (E.getD i []).filter (fun e => hasB z e.op) else []
def goalZ (z : List Bool) (ask : Nat → Bool) : List Bool := (List.range z.length).map fun i => z.getD i false && ask i
def stepZ (E : List (List Nd)) (z : List Bool) (ask : Nat → Bool) : List Bool :=
 (List.range z.length).map fun i => ((withinE E z).getD i []).any (fun e => (backG' z.length (withinE E z) (goalZ z ask)).getD e.op.toNat false)
where backG' (n : Nat) (E : List (List Nd)) (goal : List Bool) : List Bool := reachG n (turnE E) (goalsG n goal)
theorem withinE_len (E : List (List Nd)) (z : List Bool) : (withinE E z).length = E.length := by simp [withinE]
theorem stepZ_len (E : List (List Nd)) (z : List Bool) (ask : Nat → Bool) : (stepZ E z ask).length = z.length := by simp [stepZ]
theorem within_mem {E : List (List Nd)} {z : List Bool} {i : Nat} (hi : i < E.length) {e : Nd} : e ∈ (withinE E z).getD i [] ↔ z.getD i false = true ∧ e ∈ E.getD i [] ∧ hasB z e.op = true := by
 have : (withinE E z).getD i [] = if z.getD i false = true then (E.getD i []).filter (fun e => hasB z e.op) else [] := by simp [withinE, List.getD, hi]
 rw [this]
 split
 ·rename_i h
  rw [List.mem_filter]
  exact ⟨fun ⟨a, b⟩ => ⟨h, a, b⟩, fun ⟨_, a, b⟩ => ⟨a, b⟩⟩
 ·rename_i h
  simp only [List.not_mem_nil, false_iff]
  exact fun h' => h h'.1
def Ed (E : List (List Nd)) (z : List Bool) (i j : Nat) : Prop := i < E.length ∧ j < z.length ∧ z.getD i false = true ∧ z.getD j false = true ∧ (j : Int) ∈ tgts (E.getD i [])
inductive Lead (R : Nat → Nat → Prop) : Nat → Nat → Prop
 | refl (a : Nat) : Lead R a a
 | step {a b c : Nat} : R a b → Lead R b c → Lead R a c
theorem Lead.mono {R S : Nat → Nat → Prop} (h : ∀ a b, R a b → S a b) {a b : Nat} (l : Lead R a b) : Lead S a b := by
 induction l with
 | refl a => exact .refl a
 | step r _ ih => exact .step (h _ _ r) ih
theorem Lead.snoc {R : Nat → Nat → Prop} {a b c : Nat} (l : Lead R a b) (r : R b c) : Lead R a c := by
 induction l with
 | refl a => exact .step r (.refl _)
 | step r' _ ih => exact .step r' (ih r)
theorem Lead.trans {R : Nat → Nat → Prop} {a b c : Nat} (l : Lead R a b) (m : Lead R b c) : Lead R a c := by
 induction l with
 | refl a => exact m
 | step r _ ih => exact .step r (ih m)
theorem ed_within {E : List (List Nd)} {z : List Bool} (_hz : z.length = E.length) {i j : Nat} (hi : i < E.length) : (j : Int) ∈ tgts ((withinE E z).getD i []) ↔ Ed E z i j := by
 simp only [tgts, List.mem_map]
 constructor
 ·rintro ⟨e, he, hj⟩
  obtain ⟨h1, h2, h3⟩ := (within_mem hi).1 he
  obtain ⟨k, hk, hkl, hkz⟩ := hasB_iff.1 h3
  have : k = j := by omega
  subst this
  exact ⟨hi, hkl, h1, hkz, by simp only [tgts, List.mem_map]; exact ⟨e, h2, hj⟩⟩
 ·rintro ⟨_, h2, h3, h4, h5⟩
  simp only [tgts, List.mem_map] at h5
  obtain ⟨e, he, hj⟩ := h5
  exact ⟨e, (within_mem hi).2 ⟨h3, he, by rw [hj, hasB_nat h2]; exact h4⟩, hj⟩
theorem rch_lead {E : List (List Nd)} {gs : List Int} {n : Nat} (hn : n = E.length) {i : Nat} (hi : i < n) : Rch n (turnE E) gs (i : Int) ↔ ∃ k : Nat, k < n ∧ (k : Int) ∈ gs ∧ Lead (fun a b => a < n ∧ b < n ∧ (b : Int) ∈ tgts (E.getD a [])) i k := by
 subst hn
 constructor
 ·intro h
  generalize hx : (i : Int) = x at h
  induction h generalizing i with
  | start h1 h2 => subst hx; exact ⟨i, hi, h1, .refl _⟩
  | @step a b ha hb hn ih =>
   subst hx
   obtain ⟨m, rfl, hm⟩ := isNd_nat ha.node
   rw [tN, turn_tgt hm] at hb
   obtain ⟨a', e1, _, h4⟩ := hb
   have : i = a' := by omega
   subst this
   obtain ⟨k, h1, h2, h3⟩ := ih hm rfl
   exact ⟨k, h1, h2, .step ⟨hi, hm, h4⟩ h3⟩
 ·rintro ⟨k, hk, hg, hl⟩
  induction hl with
  | refl a => exact .start hg (isNd_iff.2 ⟨by omega, by omega⟩)
  | @step a b c r _ ih =>
   refine .step (ih r.2.1 hk hg) ?_ (isNd_iff.2 ⟨by omega, by omega⟩)
   rw [tN, turn_tgt r.2.1]
   exact ⟨a, rfl, r.1, r.2.2⟩
theorem goalZ_len (z : List Bool) (ask : Nat → Bool) : (goalZ z ask).length = z.length := by simp [goalZ]
theorem goalZ_at {z : List Bool} {ask : Nat → Bool} {k : Nat} (hk : k < z.length) : (goalZ z ask).getD k false = (z.getD k false && ask k) := by simp [goalZ, List.getD, hk]
theorem step_iff {E : List (List Nd)} {z : List Bool} {ask : Nat → Bool} (hz : z.length = E.length) {i : Nat} (hi : i < z.length) :
  (stepZ E z ask).getD i false = true ↔ ∃ j k : Nat, Ed E z i j ∧ Lead (Ed E z) j k ∧ k < z.length ∧ z.getD k false = true ∧ ask k = true := by
 have hs : (stepZ E z ask).getD i false = ((withinE E z).getD i []).any (fun e => (reachG z.length (turnE (withinE E z)) (goalsG z.length (goalZ z ask))).getD e.op.toNat false) := by
  simp [stepZ, stepZ.backG', List.getD, hi]
 have hw : z.length = (withinE E z).length := by rw [withinE_len, hz]
 have hR : ∀ a b, (a < z.length ∧ b < z.length ∧ (b : Int) ∈ tgts ((withinE E z).getD a [])) ↔ Ed E z a b := fun a b => by
  constructor
  ·rintro ⟨h1, _, h3⟩; exact (ed_within hz (by omega)).1 h3
  ·intro h; exact ⟨by have := h.1; omega, h.2.1, (ed_within hz h.1).2 h⟩
 rw [hs, List.any_eq_true]
 constructor
 ·rintro ⟨e, he, hr⟩
  obtain ⟨h1, h2, h3⟩ := (within_mem (by omega)).1 he
  obtain ⟨j, hj, hjl, hjz⟩ := hasB_iff.1 h3
  have hn : isNd z.length e.op = true := by rw [hj]; exact isNd_iff.2 ⟨by omega, by omega⟩
  rw [reachG_iff hn, hj, rch_lead hw hjl] at hr
  obtain ⟨k, hk, hg, hl⟩ := hr
  have hg' := (goalsG_mem hk).1 hg
  rw [goalZ_at hk, Bool.and_eq_true] at hg'
  exact ⟨j, k, ⟨by omega, hjl, h1, hjz, by simp only [tgts, List.mem_map]; exact ⟨e, h2, hj⟩⟩, hl.mono (fun a b r => (hR a b).1 r), hk, hg'.1, hg'.2⟩
 ·rintro ⟨j, k, hE, hl, hk, hkz, hka⟩
  have hm := (ed_within hz hE.1).2 hE
  simp only [tgts, List.mem_map] at hm
  obtain ⟨e, he, hj⟩ := hm
  refine ⟨e, he, ?_⟩
  rw [reachG_iff (by rw [hj]; exact isNd_iff.2 ⟨by omega, by have := hE.2.1; omega⟩), hj, rch_lead hw hE.2.1]
  exact ⟨k, hk, (goalsG_mem hk).2 (by rw [goalZ_at hk, hkz, hka]; rfl), hl.mono (fun a b r => (hR a b).2 r)⟩
def SubB (y z : List Bool) : Prop := ∀ i : Nat, y.getD i false = true → z.getD i false = true
theorem getD_lt {z : List Bool} {i : Nat} (h : z.getD i false = true) : i < z.length := by
 by_cases hc : i < z.length
 ·exact hc
 ·simp [List.getD, List.getElem?_eq_none (by omega : z.length ≤ i)] at h
theorem sub_anti {y z : List Bool} (hl : y.length = z.length) (h1 : SubB y z) (h2 : SubB z y) : y = z := by
 refine List.ext_getElem hl (fun i a b => ?_)
 have e1 := h1 i
 have e2 := h2 i
 simp only [List.getD, gE a, gE b, Option.getD_some] at e1 e2
 exact Bool.eq_iff_iff.2 ⟨e1, e2⟩
theorem ed_mono {E : List (List Nd)} {y z : List Bool} (hs : SubB y z) {a b : Nat} (h : Ed E y a b) : Ed E z a b := ⟨h.1, getD_lt (hs _ h.2.2.2.1), hs _ h.2.2.1, hs _ h.2.2.2.1, h.2.2.2.2⟩
theorem step_mono {E : List (List Nd)} {y z : List Bool} {p q : Nat → Bool} (hy : y.length = E.length) (hz : z.length = E.length) (hs : SubB y z) (hp : ∀ i, p i = true → q i = true) : SubB (stepZ E y p) (stepZ E z q) := by
 intro i hi
 have h1 := getD_lt hi
 rw [stepZ_len] at h1
 obtain ⟨j, k, a, b, c, d, e⟩ := (step_iff hy h1).1 hi
 exact (step_iff hz (by omega)).2 ⟨j, k, ed_mono hs a, b.mono (fun _ _ r => ed_mono hs r), by omega, hs _ d, hp _ e⟩
theorem step_sub {E : List (List Nd)} {z : List Bool} {p : Nat → Bool} (hz : z.length = E.length) : SubB (stepZ E z p) z := by
 intro i hi
 have h1 := getD_lt hi
 rw [stepZ_len] at h1
 obtain ⟨j, k, a, _⟩ := (step_iff hz h1).1 hi
 exact a.2.2.1
end Go.Proofs.YtiebpncpdbnelaaDoor
namespace Go.Proofs.YtiebpncpdbnelaaDoor
theorem SubB.refl (z : List Bool) : SubB z z := fun _ h => h
theorem SubB.trans {x y z : List Bool} (h : SubB x y) (k : SubB y z) : SubB x z := fun i a => k i (h i a)
def roundZ (E : List (List Nd)) (asks : List (Nat → Bool)) (z : List Bool) : List Bool := asks.foldl (stepZ E) z
theorem roundZ_len (E : List (List Nd)) : ∀ (asks : List (Nat → Bool)) (z : List Bool), (roundZ E asks z).length = z.length
 | [], _ => rfl
 | p :: l, z => by
  show (roundZ E l (stepZ E z p)).length = _
  rw [roundZ_len E l, stepZ_len]
theorem roundZ_sub {E : List (List Nd)} : ∀ (asks : List (Nat → Bool)) {z : List Bool}, z.length = E.length → SubB (roundZ E asks z) z
 | [], _, _ => SubB.refl _
 | p :: l, z, hz => (roundZ_sub l (z := stepZ E z p) (by rw [stepZ_len]; exact hz)).trans (step_sub hz)
def Fixd (E : List (List Nd)) (asks : List (Nat → Bool)) (z : List Bool) : Prop := ∀ p ∈ asks, SubB z (stepZ E z p)
theorem roundZ_inv {E : List (List Nd)} {y : List Bool} (hy : y.length = E.length) : ∀ (asks : List (Nat → Bool)) {z : List Bool}, z.length = E.length → Fixd E asks y → SubB y z → SubB y (roundZ E asks z)
 | [], _, _, _, h => h
 | p :: l, z, hz, hf, h => roundZ_inv hy l (z := stepZ E z p) (by rw [stepZ_len]; exact hz) (fun q hq => hf q (List.mem_cons_of_mem _ hq))
   ((hf p (List.mem_cons_self ..)).trans (step_mono hy hz h (fun _ a => a)))
theorem roundZ_fix {E : List (List Nd)} : ∀ (asks : List (Nat → Bool)) {z : List Bool}, z.length = E.length → SubB z (roundZ E asks z) → Fixd E asks z
 | [], _, _, _ => fun _ h => by cases h
 | p :: l, z, hz, h => by
  have h1 : SubB (roundZ E l (stepZ E z p)) (stepZ E z p) := roundZ_sub l (by rw [stepZ_len]; exact hz)
  have h2 : SubB z (stepZ E z p) := h.trans h1
  have h3 : stepZ E z p = z := sub_anti (stepZ_len _ _ _) (step_sub hz) h2
  intro q hq
  rcases List.mem_cons.1 hq with rfl | hq
  ·exact h2
  ·refine roundZ_fix l hz ?_ q hq
   have : roundZ E (p :: l) z = roundZ E l z := by
    show roundZ E l (stepZ E z p) = _
    rw [h3]
   rw [← this]; exact h
def Gfp (E : List (List Nd)) (asks : List (Nat → Bool)) (z : List Bool) : Prop := z.length = E.length ∧ Fixd E asks z ∧ ∀ y : List Bool, y.length = E.length → Fixd E asks y → SubB y z
def GInv (E : List (List Nd)) (asks : List (Nat → Bool)) (z : List Bool) : Prop := z.length = E.length ∧ ∀ y : List Bool, y.length = E.length → Fixd E asks y → SubB y z
theorem GInv.start (E : List (List Nd)) (asks : List (Nat → Bool)) : GInv E asks (List.replicate E.length true) :=
 ⟨by simp, fun y hy _ i hi => by
  have := getD_lt hi
  simp only [List.getD]
  rw [List.getElem?_replicate, if_pos (by omega)]; rfl⟩
theorem GInv.round {E : List (List Nd)} {asks : List (Nat → Bool)} {z : List Bool} (h : GInv E asks z) : GInv E asks (roundZ E asks z) :=
 ⟨by rw [roundZ_len]; exact h.1, fun y hy hf => roundZ_inv hy asks h.1 hf (h.2 y hy hf)⟩
theorem GInv.done {E : List (List Nd)} {asks : List (Nat → Bool)} {z : List Bool} (h : GInv E asks z) (hs : SubB z (roundZ E asks z)) : Gfp E asks z := ⟨h.1, roundZ_fix asks h.1 hs, h.2⟩
def cntB (z : List Bool) : Nat := z.countP (fun b => b)
theorem cntB_le (z : List Bool) : cntB z ≤ z.length := List.countP_le_length
end Go.Proofs.YtiebpncpdbnelaaDoor
namespace Go.Proofs.YtiebpncpdbnelaaDoor
def Arc (E : List (List Nd)) (i j : Nat) : Prop := i < E.length ∧ j < E.length ∧ (j : Int) ∈ tgts (E.getD i [])
def Runs (E : List (List Nd)) (asks : List (Nat → Bool)) (i : Nat) : Prop :=
 ∃ r : Nat → Nat, r 0 = i ∧ (∀ k, Arc E (r k) (r (k + 1))) ∧ ∀ p ∈ asks, ∀ k, ∃ m, k ≤ m ∧ p (r m) = true
def Core (E : List (List Nd)) (asks : List (Nat → Bool)) (v : Nat) : Prop :=
 (∃ j, Arc E v j ∧ Lead (Arc E) j v) ∧ ∀ p ∈ asks, ∃ u, Lead (Arc E) v u ∧ Lead (Arc E) u v ∧ p u = true
theorem all_late {N : Nat} {Q : Nat → Nat → Prop} (h : ∀ v, v < N → ∃ k, ∀ m, k ≤ m → Q v m) : ∃ K, ∀ v, v < N → ∀ m, K ≤ m → Q v m := by
 induction N with
 | zero => exact ⟨0, fun v hv => by omega⟩
 | succ N ih =>
  obtain ⟨K, hK⟩ := ih (fun v hv => h v (by omega))
  obtain ⟨k, hk⟩ := h N (by omega)
  refine ⟨max K k, fun v hv m hm => ?_⟩
  by_cases e : v = N
  ·subst e; exact hk m (by omega)
  ·exact hK v (by omega) m (by omega)
theorem often {N : Nat} {r : Nat → Nat} {P : Nat → Prop} (hr : ∀ k, r k < N) (hP : ∀ k, ∃ m, k ≤ m ∧ P m) : ∃ v, v < N ∧ ∀ k, ∃ m, k ≤ m ∧ P m ∧ r m = v := by
 apply Classical.byContradiction
 intro hn
 have h1 : ∀ v, v < N → ∃ k, ∀ m, k ≤ m → ¬ (P m ∧ r m = v) := by
  intro v hv
  apply Classical.byContradiction
  intro h2
  refine hn ⟨v, hv, fun k => ?_⟩
  apply Classical.byContradiction
  intro h3
  exact h2 ⟨k, fun m hm h4 => h3 ⟨m, hm, h4⟩⟩
 obtain ⟨K, hK⟩ := all_late h1
 obtain ⟨m, hm, hp⟩ := hP K
 exact hK (r m) (hr m) m hm ⟨hp, rfl⟩
theorem run_lead {E : List (List Nd)} {r : Nat → Nat} (h : ∀ k, Arc E (r k) (r (k + 1))) : ∀ d k, Lead (Arc E) (r k) (r (k + d))
 | 0, _k => .refl _
 | d + 1, k => (run_lead h d k).snoc (h (k + d))
theorem Runs.core {E : List (List Nd)} {asks : List (Nat → Bool)} {i : Nat} (h : Runs E asks i) : ∃ v, Lead (Arc E) i v ∧ Core E asks v := by
 obtain ⟨r, h0, h1, h2⟩ := h
 have hlt : ∀ k, r k < E.length := fun k => (h1 k).1
 have hto : ∀ k m, k ≤ m → Lead (Arc E) (r k) (r m) := fun k m hk => by
  have := run_lead h1 (m - k) k
  rwa [show k + (m - k) = m by omega] at this
 obtain ⟨v, hv, hvo⟩ := often (P := fun _ => True) hlt (fun k => ⟨k, lR, trivial⟩)
 obtain ⟨m0, _, _, hm0⟩ := hvo 0
 refine ⟨v, by rw [← h0, ← hm0]; exact hto 0 m0 (by omega), ?_, fun p hp => ?_⟩
 ·obtain ⟨m1, hm1, _, e1⟩ := hvo (m0 + 1)
  refine ⟨r (m0 + 1), by rw [← hm0]; exact h1 m0, ?_⟩
  have := hto (m0 + 1) m1 hm1
  rwa [e1] at this
 ·obtain ⟨u, hu, huo⟩ := often hlt (h2 p hp)
  obtain ⟨a, ha, hpa, e1⟩ := huo m0
  obtain ⟨b, hb, _, e2⟩ := hvo a
  have l1 := hto m0 a ha
  have l2 := hto a b hb
  rw [e1, hm0] at l1
  rw [e1, e2] at l2
  exact ⟨u, l1, l2, by rw [← e1]; exact hpa⟩
inductive NWay (R : Nat → Nat → Prop) : Nat → List Nat → Nat → Prop
 | nil (a : Nat) : NWay R a [] a
 | cons {a b c : Nat} {l : List Nat} : R a b → NWay R b l c → NWay R a (a :: l) c
theorem NWay.app {R : Nat → Nat → Prop} {a b c : Nat} {l m : List Nat} (h : NWay R a l b) (k : NWay R b m c) : NWay R a (l ++ m) c := by
 induction h with
 | nil a => exact k
 | cons r _ ih => exact .cons r (ih k)
theorem Lead.nway {R : Nat → Nat → Prop} {a b : Nat} (h : Lead R a b) : ∃ l, NWay R a l b := by
 induction h with
 | refl a => exact ⟨[], .nil a⟩
 | step r _ ih => obtain ⟨l, hl⟩ := ih; exact ⟨_, .cons r hl⟩
theorem NWay.head {R : Nat → Nat → Prop} {a b : Nat} {l : List Nat} (h : NWay R a l b) : (l ++ [b])[0]? = some a := by
 cases h <;> rfl
theorem NWay.at_ {R : Nat → Nat → Prop} {a b : Nat} {l : List Nat} (h : NWay R a l b) : ∀ (k : Nat) x y, l[k]? = some x → (l ++ [b])[k + 1]? = some y → R x y := by
 induction h with
 | nil a => intro k x y hx; simp at hx
 | cons r hw ih =>
  intro k x y hx hy
  cases k with
  | zero =>
   have h0 := hw.head
   simp at hx
   simp only [List.cons_append, List.getElem?_cons_succ] at hy
   rw [h0] at hy
   cases hy; subst hx; exact r
  | succ k =>
   simp only [List.cons_append, List.getElem?_cons_succ] at hx hy
   exact ih k x y hx hy
theorem core_loop {E : List (List Nd)} {v : Nat} {L0 : List Nat} (h0 : NWay (Arc E) v (v :: L0) v) : ∀ (asks : List (Nat → Bool)), (∀ p ∈ asks, ∃ u, Lead (Arc E) v u ∧ Lead (Arc E) u v ∧ p u = true) →
  ∃ L, NWay (Arc E) v (v :: L) v ∧ ∀ p ∈ asks, ∃ u ∈ v :: L, p u = true
 | [], _ => ⟨L0, h0, fun p hp => by cases hp⟩
 | p :: ps, h => by
  obtain ⟨L, h1, h2⟩ := core_loop h0 ps (fun q hq => h q (List.mem_cons_of_mem _ hq))
  obtain ⟨u, a, b, c⟩ := h p (List.mem_cons_self ..)
  obtain ⟨l1, w1⟩ := a.nway
  obtain ⟨l2, w2⟩ := b.nway
  refine ⟨L ++ (l1 ++ l2), h1.app (w1.app w2), fun q hq => ?_⟩
  rcases List.mem_cons.1 hq with rfl | hq
  ·have hu := List.mem_of_getElem? w2.head
   rcases List.mem_append.1 hu with hu | hu
   ·exact ⟨u, by simp [hu], c⟩
   ·rw [mS] at hu
    exact ⟨u, by simp [hu], c⟩
  ·obtain ⟨u', hu', hq'⟩ := h2 q hq
   refine ⟨u', ?_, hq'⟩
   rcases List.mem_cons.1 hu' with rfl | hu'
   ·exact List.mem_cons_self ..
   ·exact List.mem_cons_of_mem _ (List.mem_append_left _ hu')
theorem Core.runs {E : List (List Nd)} {asks : List (Nat → Bool)} {i v : Nat} (h : Core E asks v) (hl : Lead (Arc E) i v) : Runs E asks i := by
 obtain ⟨⟨j, hj, hjv⟩, h2⟩ := h
 obtain ⟨l0, w0⟩ := hjv.nway
 obtain ⟨L0, hL, hm⟩ := core_loop (.cons hj w0) asks h2
 obtain ⟨L, hLe⟩ := xR (v :: L0)
 have hn : 0 < L.length := by rw [hLe]; simp
 rw [← hLe] at hL hm
 obtain ⟨S, hS⟩ := hl.nway
 have hL0 : L.getD 0 0 = v := by rw [hLe]; rfl
 have hSat := hS.at_
 have hLat := hL.at_
 have hLs : ∀ t, t < L.length → Arc E (L.getD t 0) (L.getD ((t + 1) % L.length) 0) := by
  intro t ht
  by_cases e : t + 1 < L.length
  ·rw [Nat.mod_eq_of_lt e]
   refine hLat t _ _ (by simp [List.getD, ht]) ?_
   rw [gC e]; simp [List.getD, e]
  ·have e2 : t + 1 = L.length := by omega
   rw [e2, Nat.mod_self, hL0]
   refine hLat t _ _ (by simp [List.getD, ht]) ?_
   rw [e2, gR lR]; simp
 refine ⟨fun k => if k < S.length then S.getD k 0 else L.getD ((k - S.length) % L.length) 0, ?_, fun k => ?_, fun p hp k => ?_⟩
 ·have h0 := hS.head
  by_cases e : 0 < S.length
  ·simp only [if_pos e]
   rw [gC e] at h0
   simp [List.getD, h0]
  ·simp only [if_neg e]
   have : S = [] := List.eq_nil_of_length_eq_zero (by omega)
   subst this
   simp at h0
   simp only [List.length_nil, Nat.sub_self, Nat.zero_mod]
   rw [hL0, h0]
 ·dsimp only
  by_cases e : k < S.length
  ·rw [if_pos e]
   refine hSat k _ _ (by simp [List.getD, e]) ?_
   by_cases e2 : k + 1 < S.length
   ·rw [if_pos e2, gC e2]; simp [List.getD, e2]
   ·have e3 : k + 1 = S.length := by omega
    rw [if_neg e2, e3, gR lR, Nat.sub_self, Nat.zero_mod, hL0]; rfl
  ·rw [if_neg e, if_neg (by omega), show k + 1 - S.length = (k - S.length) + 1 by omega]
   have h1 := hLs ((k - S.length) % L.length) (Nat.mod_lt _ hn)
   rwa [Nat.mod_add_mod] at h1
 ·obtain ⟨u, hu, hpu⟩ := hm p hp
  obtain ⟨t, ht⟩ := List.getElem?_of_mem hu
  have htl := (gB.1 ht).1
  have hk : k ≤ L.length * k := Nat.le_mul_of_pos_left k hn
  refine ⟨S.length + (L.length * k + t), by omega, ?_⟩
  dsimp only
  rw [if_neg (by omega), show S.length + (L.length * k + t) - S.length = L.length * k + t by omega, Nat.mul_add_mod, Nat.mod_eq_of_lt htl]
  simp only [List.getD, ht, Option.getD_some]; exact hpu
theorem runs_iff {E : List (List Nd)} {asks : List (Nat → Bool)} {i : Nat} : Runs E asks i ↔ ∃ v, Lead (Arc E) i v ∧ Core E asks v :=
 ⟨Runs.core, fun ⟨_, h1, h2⟩ => h2.runs h1⟩
theorem Runs.shift {E : List (List Nd)} {asks : List (Nat → Bool)} {r : Nat → Nat} (h1 : ∀ k, Arc E (r k) (r (k + 1))) (h2 : ∀ p ∈ asks, ∀ k, ∃ m, k ≤ m ∧ p (r m) = true) (k : Nat) : Runs E asks (r k) :=
 ⟨fun m => r (k + m), rfl, fun m => h1 (k + m), fun p hp n => by
  obtain ⟨m, a, b⟩ := h2 p hp (k + n)
  exact ⟨m - k, by omega, by dsimp only; rwa [show k + (m - k) = m by omega]⟩⟩
noncomputable def marksP (n : Nat) (P : Nat → Prop) : List Bool := (List.range n).map fun i => @decide (P i) (Classical.propDecidable _)
theorem marksP_len (n : Nat) (P : Nat → Prop) : (marksP n P).length = n := by simp [marksP]
theorem marksP_at {n : Nat} {P : Nat → Prop} {i : Nat} (hi : i < n) : (marksP n P).getD i false = true ↔ P i := by
 have : (marksP n P).getD i false = @decide (P i) (Classical.propDecidable _) := by simp [marksP, List.getD, hi]
 rw [this]
 exact @decide_eq_true_iff (P i) (Classical.propDecidable _)
theorem bottom {N : Nat} {R : Nat → Nat → Prop} (hR : ∀ a b, R a b → b < N) : ∀ (n i : Nat), (marksP N (Lead R i)).countP (fun b => b) ≤ n → i < N → ∃ v, v < N ∧ Lead R i v ∧ ∀ u, Lead R v u → Lead R u v
 | n, i, hn, hi => by
  by_cases hb : ∀ u, Lead R i u → Lead R u i
  ·exact ⟨i, hi, .refl _, hb⟩
  ·obtain ⟨u, hu⟩ : ∃ u, ¬ (Lead R i u → Lead R u i) := Classical.not_forall.1 hb
   have hiu : Lead R i u := Classical.byContradiction fun h => hu (fun h' => absurd h' h)
   have hui : ¬ Lead R u i := fun h => hu (fun _ => h)
   have huN : u < N := by
    have : ∀ {a b}, Lead R a b → a < N → b < N := by
     intro a b h
     induction h with
     | refl a => exact fun h => h
     | step r _ ih => exact fun _ => ih (hR _ _ r)
    exact this hiu hi
   have hlt : (marksP N (Lead R u)).countP (fun b => b) < (marksP N (Lead R i)).countP (fun b => b) := by
    unfold marksP
    rw [List.countP_map, List.countP_map]
    have hsub : ∀ x, @decide (Lead R u x) (Classical.propDecidable _) = true → @decide (Lead R i x) (Classical.propDecidable _) = true := fun x h =>
     (@decide_eq_true_iff _ (Classical.propDecidable _)).2 (hiu.trans ((@decide_eq_true_iff _ (Classical.propDecidable _)).1 h))
    have key : ∀ l : List Nat, i ∈ l → l.countP ((fun b => b) ∘ fun x => @decide (Lead R u x) (Classical.propDecidable _)) < l.countP ((fun b => b) ∘ fun x => @decide (Lead R i x) (Classical.propDecidable _)) := by
     intro l
     induction l with
     | nil => intro h; cases h
     | cons x l ih =>
      intro h
      have hle : ∀ l : List Nat, l.countP ((fun b => b) ∘ fun x => @decide (Lead R u x) (Classical.propDecidable _)) ≤ l.countP ((fun b => b) ∘ fun x => @decide (Lead R i x) (Classical.propDecidable _)) := fun l => List.countP_mono_left (fun x _ hx => hsub x hx)
      rw [List.countP_cons, List.countP_cons]
      by_cases e : x = i
      ·subst e
       have h1 : ((fun b => b) ∘ fun y => @decide (Lead R u y) (Classical.propDecidable _)) x = false := @decide_eq_false _ (Classical.propDecidable _) hui
       have h2 : ((fun b => b) ∘ fun y => @decide (Lead R x y) (Classical.propDecidable _)) x = true := @decide_eq_true _ (Classical.propDecidable _) (.refl x)
       rw [h1, h2]
       have := hle l
       simp only [Bool.false_eq_true, if_false, if_true]
       omega
      ·have hx : i ∈ l := by rcases List.mem_cons.1 h with h | h; exact absurd h.symm e; exact h
       have h1 := ih hx
       by_cases c : ((fun b => b) ∘ fun y => @decide (Lead R u y) (Classical.propDecidable _)) x = true
       ·have c2 : ((fun b => b) ∘ fun y => @decide (Lead R i y) (Classical.propDecidable _)) x = true := hsub x c
        rw [if_pos c, if_pos c2]; omega
       ·rw [if_neg c]; split <;> omega
    exact key (List.range N) (List.mem_range.2 hi)
   obtain ⟨v, a, b, c⟩ := bottom hR (n - 1) u (by omega) huN
   exact ⟨v, a, hiu.trans b, c⟩
termination_by n => n
decreasing_by omega
theorem gfp_runs {E : List (List Nd)} {asks : List (Nat → Bool)} {z : List Bool} (h : Gfp E asks z) (hne : asks ≠ []) {i : Nat} : z.getD i false = true ↔ Runs E asks i := by
 obtain ⟨hz, hf, hg⟩ := h
 have hEd : ∀ {y : List Bool} {a b}, y.length = E.length → Ed E y a b → Arc E a b := fun hy h => ⟨h.1, by have := h.2.1; omega, h.2.2.2.2⟩
 constructor
 ·intro hi
  have hiN := getD_lt hi
  obtain ⟨v, hv, hiv, hb⟩ := bottom (N := E.length) (R := Ed E z) (fun a b h => by have := h.2.1; omega) _ i lR (by omega)
  have hvz : z.getD v false = true := by
   have : ∀ {a b}, Lead (Ed E z) a b → z.getD a false = true → z.getD b false = true := by
    intro a b h
    induction h with
    | refl a => exact fun h => h
    | step r _ ih => exact fun _ => ih r.2.2.2.1
   exact this hiv hi
  have hmono : ∀ {a b}, Lead (Ed E z) a b → Lead (Arc E) a b := fun h => h.mono (fun a b r => hEd hz r)
  have hstep : ∀ p ∈ asks, ∃ j k, Ed E z v j ∧ Lead (Ed E z) j k ∧ p k = true := fun p hp => by
   obtain ⟨j, k, a, b, _, _, e⟩ := (step_iff hz (by omega)).1 (hf p hp v hvz)
   exact ⟨j, k, a, b, e⟩
  refine Core.runs (v := v) ⟨?_, fun p hp => ?_⟩ (hmono hiv)
  ·obtain ⟨p, hp⟩ := List.exists_mem_of_ne_nil _ hne
   obtain ⟨j, k, a, b, _⟩ := hstep p hp
   exact ⟨j, hEd hz a, hmono (hb j (.step a (.refl _)))⟩
  ·obtain ⟨j, k, a, b, e⟩ := hstep p hp
   exact ⟨k, hmono (.step a b), hmono (hb k (.step a b)), e⟩
 ·intro hr
  have hiN : i < E.length := by obtain ⟨r, rfl, h1, _⟩ := hr; exact (h1 0).1
  have hyl := marksP_len E.length (Runs E asks)
  refine hg (marksP E.length (Runs E asks)) hyl ?_ i ((marksP_at hiN).2 hr)
  intro p hp k hk
  have hkN : k < E.length := by have := getD_lt hk; omega
  obtain ⟨r, rfl, h1, h2⟩ := (marksP_at hkN).1 hk
  have hin : ∀ m, (marksP E.length (Runs E asks)).getD (r m) false = true := fun m => (marksP_at (h1 m).1).2 (Runs.shift h1 h2 m)
  have hed : ∀ m, Ed E (marksP E.length (Runs E asks)) (r m) (r (m + 1)) := fun m => ⟨(h1 m).1, by rw [hyl]; exact (h1 m).2.1, hin m, hin (m + 1), (h1 m).2.2⟩
  obtain ⟨m, hm, hpm⟩ := h2 p hp 1
  have hl : ∀ d, Lead (Ed E (marksP E.length (Runs E asks))) (r 1) (r (1 + d)) := by
   intro d
   induction d with
   | zero => exact .refl _
   | succ d ih => exact ih.snoc (hed (1 + d))
  refine (step_iff hyl (by omega)).2 ⟨r 1, r m, hed 0, by have := hl (m - 1); rwa [show 1 + (m - 1) = m by omega] at this, by rw [hyl]; exact (h1 m).1, hin m, hpm⟩
end Go.Proofs.YtiebpncpdbnelaaDoor
