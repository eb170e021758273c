/- Texts that stand one behind the other, in one file. -/
import Derived.Test.YtamhjgkigjpbhaaDoorZau
import Derived.Test.YtamhjgkigjpbhaaDoorZad
import Derived.Test.YtamhjgkigjpbhaaDoorZas
import Derived.Test.YtamhjgkigjpbhaaDoorZaz

/- The automaton of a formula takes just the words that satisfy it: over the document's greatest fixpoint; plain. -/
namespace Go.Proofs.YtamhjgkigjpbhaaDoor

/-- Which propositions are there. -/
def bitsW (W : List Nat) (p : Int) (k : Nat) : Bool := (W.getD k 0).testBit p.toNat
theorem and_needR {S need : Nat} : need &&& S = need ↔ ∀ p : Nat, need.testBit p = true → S.testBit p = true := by
  constructor
  · intro h p hp
    have := congrArg (fun x => x.testBit p) h
    simp only [Nat.testBit_and, hp, Bool.true_and] at this
    exact this
  · intro h
    apply Nat.eq_of_testBit_eq
    intro p
    rw [Nat.testBit_and]
    cases hp : need.testBit p
    · rfl
    · rw [h p hp]; rfl
theorem and_banR {S ban : Nat} : ban &&& S = 0 ↔ ∀ p : Nat, ban.testBit p = true → S.testBit p = false := by
  constructor
  · intro h p hp
    have := congrArg (fun x => x.testBit p) h
    simp only [Nat.testBit_and, hp, Bool.true_and, Nat.zero_testBit] at this
    exact this
  · intro h
    apply Nat.eq_of_testBit_eq
    intro p
    rw [Nat.testBit_and, Nat.zero_testBit]
    cases hp : ban.testBit p
    · rfl
    · rw [h p hp]; rfl
theorem rds_reads {W : List Nat} {x : ANd} {k : Nat} : rdsB x (W.getD k 0) = true ↔ Reads (bitsW W) x.need x.ban k := by
  unfold rdsB Reads bitsW
  rw [Bool.and_eq_true, decide_eq_true_eq, decide_eq_true_eq, and_needR, and_banR]
  simp only [Int.toNat_natCast]
/-- Which untils are not owed, bit by bit. -/
theorem meets_bit (now : List Int) (s : Nat) : ∀ l : List Int, (meetsA now l).2.testBit s = (decide (s < 64 ∧ s < l.length) && metB now (l.getD s 0)) := by
  refine snoc_ind (by simp [meetsA]) (fun l a ih => ?_)
  rw [meetsA_snoc, meetsS, meetsA_len]
  dsimp only
  have hg : s < l.length → (l ++ [a]).getD s 0 = l.getD s 0 := fun h => by
    rw [List.getD_eq_getElem?_getD, List.getElem?_append_left h, ← List.getD_eq_getElem?_getD]
  have hg2 : s = l.length → (l ++ [a]).getD s 0 = a := fun h => by
    subst h
    rw [List.getD_eq_getElem?_getD, List.getElem?_append_right (Nat.le_refl _)]; simp
  by_cases h1 : s < l.length
  · rw [hg h1]
    have hne : l.length ≠ s := by omega
    have e : decide (s < 64 ∧ s < (l ++ [a]).length) = decide (s < 64 ∧ s < l.length) := by
      rw [List.length_append, List.length_singleton]
      exact decide_eq_decide.2 ⟨fun h => ⟨h.1, h1⟩, fun h => ⟨h.1, by omega⟩⟩
    rw [e, ← ih]
    split
    · rw [Nat.testBit_or, Nat.testBit_two_pow]; simp [hne]
    · rfl
  · have hno : (meetsA now l).2.testBit s = false := by rw [ih, decide_eq_false (by omega), Bool.false_and]
    by_cases h2 : s = l.length
    · rw [hg2 h2]
      subst h2
      rw [List.length_append, List.length_singleton]
      by_cases h3 : l.length < 64
      · have ed : decide (l.length < 64 ∧ l.length < l.length + 1) = true := by simp [h3]
        rw [ed]
        cases hm : metB now a
        · rw [if_neg (by simp)]; rw [hno]; rfl
        · rw [if_pos (by simp [h3])]; rw [Nat.testBit_or, Nat.testBit_two_pow]; simp
      · rw [if_neg (by simp [h3]), hno, decide_eq_false (by omega), Bool.false_and]
    · have e : decide (s < 64 ∧ s < (l ++ [a]).length) = false := by
        rw [List.length_append, List.length_singleton]
        exact decide_eq_false (by omega)
      rw [e, Bool.false_and]
      split
      · rw [Nat.testBit_or, hno, Nat.testBit_two_pow]; simp; omega
      · exact hno
theorem utl_all {f : List Nd} : ∀ {i j : Nat} (_ : j < f.length), opAt f j = 9 → ((i + j : Nat) : Int) ∈ utl i f := by
  induction f with
  | nil => intro i j hj; simp at hj
  | cons x r ih =>
    intro i j hj ho
    unfold utl
    match j, hj, ho with
    | 0, hj, ho =>
      have : x.op = 9 := by simpa [opAt, List.getD] using ho
      rw [if_pos this]; simp
    | j + 1, hj, ho =>
      have ho' : opAt r j = 9 := by simpa [opAt, List.getD] using ho
      have := ih (i := i + 1) (j := j) (by simpa using hj) ho'
      rw [show i + 1 + j = i + (j + 1) by omega] at this
      split
      · exact List.mem_cons_of_mem _ this
      · exact this
/-- The automaton. -/
def tabA (f : List Nd) (L : List Cov) (rows : List (List Nat)) (init : List Nat) : Aut :=
  ⟨((utl 0 f).length : Int), natI init, (List.range L.length).map (fun q => ⟨(L.getD q (0, 0, [], [])).1, (L.getD q (0, 0, [], [])).2.1, meetsN f (natI (onL (L.getD q (0, 0, [], [])).2.2.2)), natI (rows.getD q [])⟩)⟩
section
variable {f : List Nd} {L : List Cov} {rows : List (List Nat)} {init : List Nat}
theorem tabA_at {q : Nat} {c : Cov} (h : L[q]? = some c) : (tabA f L rows init).at q = ⟨c.1, c.2.1, meetsN f (natI (onL c.2.2.2)), natI (rows.getD q [])⟩ := by
  have hq := (List.getElem?_eq_some_iff.1 h).1
  have hc : L[q] = c := (List.getElem?_eq_some_iff.1 h).2
  simp [tabA, Aut.at, List.getD, hq, hc]
theorem tabA_len : (tabA f L rows init).nodes.length = L.length := by simp [tabA]
theorem natI_mem {l : List Nat} {x : Nat} : (x : Int) ∈ natI l ↔ x ∈ l := by
  unfold natI
  rw [List.mem_map]
  exact ⟨fun ⟨y, h, e⟩ => by rwa [show x = y by omega], fun h => ⟨x, h, rfl⟩⟩
theorem tabA_ok (hT : TabOk f L rows init) : (tabA f L rows init).Ok := by
  constructor
  · intro i hi
    obtain ⟨q, hq, rfl⟩ := List.mem_map.1 hi
    obtain ⟨c, _, hc⟩ := hT.init_ok q hq
    rw [tabA_len]
    exact isNd_iff.2 ⟨by omega, by have := (List.getElem?_eq_some_iff.1 hc).1; omega⟩
  · intro x hx t ht
    simp only [tabA, List.mem_map, List.mem_range] at hx
    obtain ⟨q, hq, rfl⟩ := hx
    obtain ⟨q', hq', rfl⟩ := List.mem_map.1 ht
    obtain ⟨c', _, hc'⟩ := hT.row_ok q L[q] (List.getElem?_eq_getElem hq) q' hq'
    rw [tabA_len]
    exact isNd_iff.2 ⟨by omega, by have := (List.getElem?_eq_some_iff.1 hc').1; omega⟩
/-- A node is of the set of an until just where its cover does not leave it owing. -/
theorem tab_set (hN : isN f = true) {q s u : Nat} {c : Cov} (h : L[q]? = some c) (hs : (utl 0 f)[s]? = some (u : Int)) (hu : u < f.length) (h9 : opAt f u = 9) (h64 : (utl 0 f).length ≤ 64) : (((tabA f L rows init).at q).inn.testBit s = true) ↔ owesNot c u := by
  have hsl := (List.getElem?_eq_some_iff.1 hs).1
  rw [tabA_at h]
  show (meetsN f (natI (onL c.2.2.2))).testBit s = true ↔ _
  unfold meetsN
  rw [if_pos hN, meets_bit, Bool.and_eq_true, decide_eq_true_eq]
  have hg : (utl 0 f).getD s 0 = (u : Int) := by
    rw [List.getD_eq_getElem?_getD, hs, Option.getD_some]
  obtain ⟨_, h1⟩ := right_until hN hu h9
  rw [hg]
  unfold metB owesNot
  rw [show ((u : Int) - 1) = ((u - 1 : Nat) : Int) by omega]
  have key : ∀ x : Nat, (natI (onL c.2.2.2)).any ((x : Int) == ·) = c.2.2.2.getD x false := fun x => by
    rw [Bool.eq_iff_iff, ← onL_mem, ← natI_mem, List.any_eq_true]
    exact ⟨fun ⟨y, hy, e⟩ => by rw [beq_iff_eq.1 e]; exact hy, fun hx => ⟨_, hx, by simp⟩⟩
  rw [key, key, Bool.or_eq_true, Bool.not_eq_true']
  constructor
  · rintro ⟨_, h | h⟩ h2
    · rw [h] at h2; cases h2
    · exact h
  · intro h2
    refine ⟨⟨by omega, hsl⟩, ?_⟩
    cases hc : c.2.2.2.getD u false
    · exact .inl rfl
    · exact .inr (h2 hc)
/-- Each set is an until's, and each until has one. -/
theorem set_until {s : Nat} (hs : s < (utl 0 f).length) : ∃ u : Nat, (utl 0 f)[s]? = some (u : Int) ∧ u < f.length ∧ opAt f u = 9 := by
  obtain ⟨u, hu, e, h9⟩ := utl_mem (List.getElem_mem hs)
  exact ⟨u, by rw [List.getElem?_eq_getElem hs, e, Nat.zero_add], hu, by simpa [opAt, List.getD, hu] using h9⟩
theorem until_set {u : Nat} (hu : u < f.length) (ho : opAt f u = 9) : ∃ s, s < (utl 0 f).length ∧ (utl 0 f)[s]? = some (u : Int) := by
  have hm := utl_all (i := 0) hu ho
  rw [Nat.zero_add] at hm
  obtain ⟨s, hs, e⟩ := List.mem_iff_getElem.1 hm
  exact ⟨s, hs, by rw [List.getElem?_eq_getElem hs, e]⟩
/-- THE AUTOMATON OF A FORMULA TAKES JUST THE WORDS THAT SATISFY IT. -/
theorem tab_takes (hN : isN f = true) (hT : TabOk f L rows init) (h64 : (utl 0 f).length ≤ 64) (hf : 0 < f.length) {W : List Nat} {lp : Nat} (hlp : lp < W.length) {z : List Bool} (hz : Gfp (prodE (tabA f L rows init) W lp) (asksA (tabA f L rows init) W.length) z) :
    takesZ (tabA f L rows init) W z ↔ holdsAt (bitsW W) W.length lp f (f.length - 1) 0 = true := by
  obtain ⟨hzl, hfix, hgr⟩ := hz
  have hA := tabA_ok hT
  have hNl : (tabA f L rows init).nodes.length = L.length := tabA_len
  have hlen : (prodE (tabA f L rows init) W lp).length = L.length * W.length := by rw [prodE_len, hNl]
  have hto : ∀ {q : Nat} {c : Cov}, L[q]? = some c → ((tabA f L rows init).at q).to = natI (rows.getD q []) := fun h => by rw [tabA_at h]
  have hnb : ∀ {q : Nat} {c : Cov}, L[q]? = some c → ((tabA f L rows init).at q).need = c.1 ∧ ((tabA f L rows init).at q).ban = c.2.1 := fun h => by rw [tabA_at h]; exact ⟨rfl, rfl⟩
  have hsets : (tabA f L rows init).sets.toNat = (utl 0 f).length := by simp [tabA]
  constructor
  · rintro ⟨q0, hq0, _, hz0⟩
    rw [hlen] at hzl
    have hq0' : q0 ∈ init := natI_mem.1 hq0
    obtain ⟨c0, _, hc0⟩ := hT.init_ok q0 hq0'
    have hq0l := (List.getElem?_eq_some_iff.1 hc0).1
    -- an edge as a step
    have step : ∀ {q k j : Nat}, q < L.length → k < W.length → Ed (prodE (tabA f L rows init) W lp) z (q * W.length + k) j →
        ∃ q', q' < L.length ∧ j = q' * W.length + nx lp W.length k ∧ Stp W.length lp rows (fun q k => q < L.length ∧ k < W.length ∧ z.getD (q * W.length + k) false = true) (q, k) (q', nx lp W.length k) ∧ Reads (bitsW W) ((tabA f L rows init).at q).need ((tabA f L rows init).at q).ban k := by
      intro q k j hq hk he
      obtain ⟨q', h1, h2, h3, h4, h5, h6, _⟩ := (ed_prod hA hlp (by rw [hNl]; exact hq) hk (by rw [hNl]; exact hzl)).1 he
      rw [hNl] at h1
      rw [hto (List.getElem?_eq_getElem hq)] at h5
      exact ⟨q', h1, h2, ⟨⟨hq, hk, h3⟩, ⟨h1, nx_lt hlp, by rw [← h2]; exact h4⟩, natI_mem.1 h5, rfl⟩, rds_reads.1 h6⟩
    have way : ∀ {i j : Nat}, Lead (Ed (prodE (tabA f L rows init) W lp) z) i j → ∀ q k, q < L.length → k < W.length → i = q * W.length + k →
        ∃ q' k', q' < L.length ∧ k' < W.length ∧ j = q' * W.length + k' ∧ LeadP (Stp W.length lp rows (fun q k => q < L.length ∧ k < W.length ∧ z.getD (q * W.length + k) false = true)) (q, k) (q', k') := by
      intro i j hl
      induction hl with
      | refl i => intro q k hq hk e; exact ⟨q, k, hq, hk, e, .refl _⟩
      | step r _ ih =>
        intro q k hq hk e
        subst e
        obtain ⟨q', h1, h2, h3, _⟩ := step hq hk r
        obtain ⟨q2, k2, g1, g2, g3, g4⟩ := ih q' (nx lp W.length k) h1 (nx_lt hlp) h2
        exact ⟨q2, k2, g1, g2, g3, .step h3 g4⟩
    have ask : ∀ {p : Nat → Bool}, p ∈ asksA (tabA f L rows init) W.length → ∀ {q k : Nat}, q < L.length → k < W.length → z.getD (q * W.length + k) false = true →
        ∃ j d, Ed (prodE (tabA f L rows init) W lp) z (q * W.length + k) j ∧ Lead (Ed (prodE (tabA f L rows init) W lp) z) j d ∧ p d = true := by
      intro p hp q k hq hk hzq
      have hst := hfix p hp (q * W.length + k) hzq
      obtain ⟨j, d, h1, h2, _, _, h5⟩ := (step_iff (by rw [hzl, hlen]) (by rw [hzl]; exact idx_lt hq hk)).1 hst
      exact ⟨j, d, h1, h2, h5⟩
    have htrue : (fun _ : Nat => true) ∈ asksA (tabA f L rows init) W.length := List.mem_cons_self ..
    refine tab_root (Z := fun q k => q < L.length ∧ k < W.length ∧ z.getD (q * W.length + k) false = true) hN hlp hT hf ⟨fun q k h => h.2.1, fun q k h => ?_, fun q k h => ?_, fun q k h u hu ho => ?_⟩ hq0' ⟨hq0l, by omega, by rw [Nat.add_zero]; exact hz0⟩
    · obtain ⟨hq, hk, hzq⟩ := h
      obtain ⟨j, d, h1, _, _⟩ := ask htrue hq hk hzq
      obtain ⟨q', _, _, _, hr⟩ := step hq hk h1
      obtain ⟨e1, e2⟩ := hnb (List.getElem?_eq_getElem hq)
      rw [e1, e2] at hr
      exact ⟨L[q], List.getElem?_eq_getElem hq, hr⟩
    · obtain ⟨hq, hk, hzq⟩ := h
      obtain ⟨j, d, h1, _, _⟩ := ask htrue hq hk hzq
      obtain ⟨q', _, _, hs, _⟩ := step hq hk h1
      exact ⟨_, hs⟩
    · obtain ⟨hq, hk, hzq⟩ := h
      obtain ⟨s, hs, hsu⟩ := until_set hu ho
      have hm : (fun m => ((tabA f L rows init).at (m / W.length)).inn.testBit s) ∈ asksA (tabA f L rows init) W.length := by
        refine List.mem_cons_of_mem _ (List.mem_map.2 ⟨s, ?_, rfl⟩)
        rw [hsets]; exact List.mem_range.2 hs
      obtain ⟨j, d, h1, h2, h3⟩ := ask hm hq hk hzq
      obtain ⟨q', g1, g2, g3, _⟩ := step hq hk h1
      obtain ⟨q2, k2, e1, e2, e3, e4⟩ := way h2 q' _ g1 (nx_lt hlp) g2
      subst e3
      rw [(idx_div e2).1] at h3
      exact ⟨_, _, g3, e4, L[q2], List.getElem?_eq_getElem e1, (tab_set hN (List.getElem?_eq_getElem e1) hsu hu ho h64).1 h3⟩
  · intro hh
    obtain ⟨q0, hq0, hz0⟩ := tab_first (bits := bitsW W) hN hlp hT hf hh
    have hZ := fit_zok (bits := bitsW W) hN hlp hT
    obtain ⟨y, hy⟩ : ∃ y : List Bool, y = (List.range (L.length * W.length)).map (fun m => @decide (FitZ (bitsW W) W.length lp f L (m / W.length) (m % W.length)) (Classical.propDecidable _)) := ⟨_, rfl⟩
    have hyl : y.length = L.length * W.length := by rw [hy]; simp
    have hyq : ∀ {q k : Nat}, q < L.length → k < W.length → (y.getD (q * W.length + k) false = true ↔ FitZ (bitsW W) W.length lp f L q k) := by
      intro q k hq hk
      have h := idx_lt hq hk
      obtain ⟨h1, h2⟩ := idx_div (q := q) hk
      rw [hy]
      simp [List.getD, h, h1, h2]
    have hql : ∀ {q k : Nat}, FitZ (bitsW W) W.length lp f L q k → q < L.length := fun ⟨_, c, hc, _⟩ => (List.getElem?_eq_some_iff.1 hc).1
    have hrd : ∀ {q k : Nat}, FitZ (bitsW W) W.length lp f L q k → rdsB ((tabA f L rows init).at q) (W.getD k 0) = true := fun ⟨_, c, hc, hf, _⟩ => by
      obtain ⟨e1, e2⟩ := hnb hc
      rw [rds_reads, e1, e2]; exact hf.1.1
    have edge : ∀ {x b : Nat × Nat}, Stp W.length lp rows (FitZ (bitsW W) W.length lp f L) x b → Ed (prodE (tabA f L rows init) W lp) y (x.1 * W.length + x.2) (b.1 * W.length + b.2) := by
      rintro ⟨q, k⟩ ⟨q', k'⟩ ⟨h1, h2, h3, h4⟩
      dsimp only at h1 h2 h3 h4 ⊢
      subst h4
      have hq := hql h1
      have hq' := hql h2
      refine (ed_prod hA hlp (by rw [hNl]; exact hq) h1.1 (by rw [hNl]; exact hyl)).2 ⟨q', by rw [hNl]; exact hq', rfl, (hyq hq h1.1).2 h1, (hyq hq' h2.1).2 h2, ?_, hrd h1, hrd h2⟩
      rw [hto (List.getElem?_eq_getElem hq)]
      exact natI_mem.2 h3
    have way : ∀ {x b : Nat × Nat}, LeadP (Stp W.length lp rows (FitZ (bitsW W) W.length lp f L)) x b → Lead (Ed (prodE (tabA f L rows init) W lp) y) (x.1 * W.length + x.2) (b.1 * W.length + b.2) := by
      intro x b hl
      induction hl with
      | refl x => exact .refl _
      | step r _ ih => exact .step (edge r) ih
    have hend : ∀ {x b : Nat × Nat}, FitZ (bitsW W) W.length lp f L x.1 x.2 → LeadP (Stp W.length lp rows (FitZ (bitsW W) W.length lp f L)) x b → FitZ (bitsW W) W.length lp f L b.1 b.2 := by
      intro x b hx hl
      induction hl with
      | refl x => exact hx
      | step r _ ih => exact ih r.2.1
    have hFix : Fixd (prodE (tabA f L rows init) W lp) (asksA (tabA f L rows init) W.length) y := by
      intro p hp i hi
      have hil : i < L.length * W.length := by rw [← hyl]; exact getD_lt hi
      have hn0 : 0 < W.length := by omega
      have hk : i % W.length < W.length := Nat.mod_lt _ hn0
      have hq : i / W.length < L.length := Nat.div_lt_of_lt_mul (by rw [Nat.mul_comm]; exact hil)
      have hie : i = i / W.length * W.length + i % W.length := by rw [Nat.mul_comm]; exact (Nat.div_add_mod _ _).symm
      rw [hie] at hi ⊢
      have hF := (hyq hq hk).1 hi
      rw [step_iff (by rw [hyl, hlen]) (by rw [hyl]; exact idx_lt hq hk)]
      rcases List.mem_cons.1 hp with rfl | hp
      · obtain ⟨b, hb⟩ := hZ.any _ _ hF
        have := edge hb
        exact ⟨_, _, this, .refl _, by rw [hyl]; exact idx_lt (hql hb.2.1) hb.2.1.1, (hyq (hql hb.2.1) hb.2.1.1).2 hb.2.1, rfl⟩
      · obtain ⟨s, hs, rfl⟩ := List.mem_map.1 hp
        rw [hsets] at hs
        obtain ⟨u, hsu, hu, ho⟩ := set_until (List.mem_range.1 hs)
        obtain ⟨b, d, hb, hd, c, hc, how⟩ := hZ.met _ _ hF u hu ho
        have hFd := hend hb.2.1 hd
        refine ⟨_, _, edge hb, way hd, by rw [hyl]; exact idx_lt (hql hFd) hFd.1, (hyq (hql hFd) hFd.1).2 hFd, ?_⟩
        show ((tabA f L rows init).at ((d.1 * W.length + d.2) / W.length)).inn.testBit s = true
        rw [(idx_div hFd.1).1]
        exact (tab_set hN hc hsu hu ho h64).2 how
    have hsub := hgr y (by rw [hyl, hlen]) hFix
    refine ⟨q0, natI_mem.2 hq0, hrd hz0, ?_⟩
    have := hsub (q0 * W.length + 0) ((hyq (hql hz0) (by omega)).2 hz0)
    rw [Nat.add_zero] at this
    exact this
end
end Go.Proofs.YtamhjgkigjpbhaaDoor

/- What tableau.Of does to what it holds, and what it answers (layer 29). -/
namespace Go.Proofs.YtamhjgkigjpbhaaDoor
open Go.RowKit Go.Maps

/-- An automaton, read. -/
structure AutRd (w : World) (B : Nat) (a : Aut) (Ai : Option Addr) (ni ci : Nat) (An : Option Addr) (nn cn : Nat) : Prop where
  eni : ni = a.init.length
  enn : nn = a.nodes.length
  init : Sl w B 1 Ai ni ci (icells a.init)
  nodes : ∃ xs, Sl w B 4 An nn cn xs ∧ ∀ (k : Nat) (x : ANd), a.nodes[k]? = some x → ∃ A c, xs[k * 4]? = some (.int .u64 (x.need : Int)) ∧ xs[k * 4 + 1]? = some (.int .u64 (x.ban : Int)) ∧ xs[k * 4 + 2]? = some (.int .u64 (x.inn : Int)) ∧
    xs[k * 4 + 3]? = some (.slice A x.to.length c) ∧ Sl w B 1 A x.to.length c (icells x.to)
theorem AutRd.below {w w' : World} {B B' : Nat} {a : Aut} {Ai An : Option Addr} {ni ci nn cn : Nat} (h : AutRd w B a Ai ni ci An nn cn) (hb : Below B' w w') (hB : B ≤ B') : AutRd w' B a Ai ni ci An nn cn := by
  obtain ⟨xs, h1, h2⟩ := h.nodes
  refine ⟨h.eni, h.enn, h.init.below hb hB, xs, h1.below hb hB, fun k x hk => ?_⟩
  obtain ⟨A, c, e0, e1, e2, e3, t⟩ := h2 k x hk
  exact ⟨A, c, e0, e1, e2, e3, t.below hb hB⟩
theorem AutRd.up {w : World} {B B' : Nat} {a : Aut} {Ai An : Option Addr} {ni ci nn cn : Nat} (h : AutRd w B a Ai ni ci An nn cn) (hB : B ≤ B') : AutRd w B' a Ai ni ci An nn cn := by
  obtain ⟨xs, h1, h2⟩ := h.nodes
  refine ⟨h.eni, h.enn, h.init.up hB, xs, h1.up hB, fun k x hk => ?_⟩
  obtain ⟨A, c, e0, e1, e2, e3, t⟩ := h2 k x hk
  exact ⟨A, c, e0, e1, e2, e3, t.up hB⟩
theorem sl_nilA (w : World) (B size : Nat) : Sl w B size none 0 0 [] := ⟨by simp, Nat.le_refl _, Nat.zero_le _, fun _ => rfl, .inl rfl⟩
theorem autRd_nil (w : World) (B : Nat) : AutRd w B ⟨0, [], []⟩ none 0 0 none 0 0 := ⟨rfl, rfl, sl_nilA w B 1, [], sl_nilA w B 4, fun k x hk => by simp at hk⟩
section
variable {n0 B kb nb ob : Nat} {Af : Option Addr} {cf : Nat} {f : List Nd} {sets : Int} {w : World} {L : List Cov} {p : Nat} {rows : List (List Nat)} {vi vn : Value}
theorem TS.start (hk : w.heap[kb]? = some (.cells #[.slice Af f.length cf, .map (some nb), .map (some ob), .int .i64 sets, vi, .slice none 0 0] 54 (0, 0))) (hn : w.heap[nb]? = some (.map #[] 0)) (ho : w.heap[ob]? = some (.map #[] 0))
    (hlt : n0 ≤ w.heap.size ∧ n0 ≤ kb ∧ n0 ≤ nb ∧ n0 ≤ ob ∧ nb ≠ ob) (hf : Sl w n0 2 Af f.length cf (ncells f)) : TS n0 B kb nb ob Af cf f sets w [] 0 [] vi (.slice none 0 0) :=
  ⟨hk, NumOk.nil hn, OpnOk.nil ho, ⟨[], World.ownsRow_nil _ _ _ _, fun k c h => by simp at h⟩, fun c h => by simp at h, by simp, hlt, hf⟩
theorem TS.setInit (h : TS n0 B kb nb ob Af cf f sets w L p rows vi vn) (v : Value) : TS n0 B kb nb ob Af cf f sets (w.setCell ⟨kb, 4, none⟩ v) L p rows v vn ∧ Tch (fun k => k = kb) w (w.setCell ⟨kb, 4, none⟩ v) := by
  have s : Tch (fun k => k = kb) w (w.setCell ⟨kb, 4, none⟩ v) := (Tch.refl (fun k => k = kb) w).setCell (p := ⟨kb, 4, none⟩) (fun _ => rfl) v
  obtain ⟨xs, ho, hn⟩ := h.nds
  have sp : SpB (fun k => k = kb) w B := SpB.of (spares_one h.bk (by decide))
  have hlt := h.lt
  refine ⟨⟨?_, h.num.keep s (fun e => h.nb_cells h.bk e.symm), h.opn.keep s (fun e => h.ob_cells h.bk e.symm) sp, ⟨xs, own_tch ho s (fun g hg e => ?_), hn.keep s sp⟩, h.oks, h.rl, ⟨by have := s.size; omega, hlt.2⟩, h.fs.tch s hlt.1 (fun b hb e => by omega)⟩, s⟩
  · have := heap_setCell_same w kb 4 _ _ v h.bk
    simpa using this
  · subst e
    exact own_ne_blk ho h.bk (by decide) hg
/-- A cover is taken out of those that were not gone on with. -/
theorem TS.pop {w2 : World} (h : TS n0 B kb nb ob Af cf f sets w L p rows vi vn) (ht : Tch (fun k => k = ob) w w2) (ho2 : OpnOk B w2 ob (p + 1) L) : TS n0 B kb nb ob Af cf f sets w2 L (p + 1) rows vi vn := by
  obtain ⟨xs, ho, hn⟩ := h.nds
  have hno : ∀ {k t : Nat} {cs : Array Value}, w.heap[k]? = some (.cells cs t (0, 0)) → k ≠ ob := fun hk => h.ob_cells hk
  have sp : SpB (fun k => k = ob) w B := fun k cs _ hk e => hno hk e
  have hlt := h.lt
  exact ⟨ht.blk h.bk (hno h.bk), h.num.keep ht hlt.2.2.2.2, ho2, ⟨xs, own_tch ho ht (fun g hg e => by obtain ⟨cs, hc⟩ := own_cells ho hg; exact hno hc e), hn.keep ht sp⟩, h.oks, h.rl, ⟨by have := ht.size; omega, hlt.2⟩, h.fs.tch ht hlt.1 (fun b hb e => by omega)⟩
/-- What a node leads to is laid down. -/
theorem TS.setTo {g cn : Nat} (h : TS n0 B kb nb ob Af cf f sets w L p rows vi (.slice (some ⟨g, 0, none⟩) L.length cn)) (hr : rows.length < L.length) (tl : List Nat) {A : Option Addr} {cp : Nat} (ht : TSb w B A tl.length cp (icells (natI tl))) :
    TS n0 B kb nb ob Af cf f sets (w.setCell ⟨g, rows.length * 4 + 3, none⟩ (.slice A tl.length cp)) L p (rows ++ [tl]) vi (.slice (some ⟨g, 0, none⟩) L.length cn) ∧ Tch (fun k => k = g) w (w.setCell ⟨g, rows.length * 4 + 3, none⟩ (.slice A tl.length cp)) := by
  have s : Tch (fun k => k = g) w (w.setCell ⟨g, rows.length * 4 + 3, none⟩ (.slice A tl.length cp)) := (Tch.refl (fun k => k = g) w).setCell (p := ⟨g, rows.length * 4 + 3, none⟩) (fun _ => rfl) _
  obtain ⟨xs, ho, hn⟩ := h.nds
  obtain ⟨cs, hcs⟩ := own_cells ho (g := g) (by simp [Value.ownBlock])
  have sp : SpB (fun k => k = g) w B := SpB.of (spares_one hcs (by decide))
  have hlt := h.lt
  have hg0 := (ho.lt g (by simp [Value.ownBlock])).1
  refine ⟨⟨s.blk h.bk (fun e => own_ne_blk ho h.bk (by decide) (by simp [Value.ownBlock, e])), h.num.keep s (fun e => h.nb_cells hcs e.symm), h.opn.keep s (fun e => h.ob_cells hcs e.symm) sp, ⟨_, (ho.stored _ _).1, (hn.setTo ho.1 tl ht).keep s sp⟩, h.oks, ?_, ⟨by have := s.size; omega, hlt.2⟩, h.fs.tch s hlt.1 (fun b hb e => by omega)⟩, s⟩
  rw [List.length_append, List.length_singleton]; omega
end
theorem TS.autK {n0 B kb nb ob : Nat} {Af : Option Addr} {cf : Nat} {f : List Nd} {sets : Int} {w w' : World} {L : List Cov} {p : Nat} {rows : List (List Nat)} {vi vn : Value} {S : Nat → Prop} (h : TS n0 B kb nb ob Af cf f sets w L p rows vi vn) (_hr : rows.length = L.length) (init : List Nat) {Ai : Option Addr} {ci : Nat} (hi : TSl w 3 Ai init.length ci (icells (natI init)))
    (ht : Tch S w w') (ho' : ∀ g, vn.ownBlock = some g → ¬ S g) (hsp : Spares S w 3) :
    ∃ An cn, vn = .slice An L.length cn ∧ AutRd w' w'.heap.size (tabA f L rows init) Ai init.length ci An L.length cn := by
  obtain ⟨xs, ho0, hn0⟩ := h.nds
  have ho := own_tch ho0 ht ho'
  have hn := hn0.keep ht (SpB.of hsp)
  obtain ⟨An, cn, hv, hs⟩ := own_sl ho
  refine ⟨An, cn, hv, ⟨by simp [tabA, natI], by simp [tabA], (hi.keep ht hsp).sl, xs, hs, fun k x hk => ?_⟩⟩
  have hkl : k < L.length := by have := (List.getElem?_eq_some_iff.1 hk).1; rwa [tabA_len] at this
  have hc : L[k]? = some L[k] := List.getElem?_eq_getElem hkl
  have hx : x = ⟨L[k].1, L[k].2.1, meetsN f (natI (onL L[k].2.2.2)), natI (rows.getD k [])⟩ := by
    have := tabA_at (f := f) (rows := rows) (init := init) hc
    unfold Aut.at at this
    rw [List.getD_eq_getElem?_getD, hk] at this
    exact this
  subst hx
  obtain ⟨A, cp, e0, e1, e2, e3, t⟩ := hn k _ hc
  exact ⟨A, cp, e0, e1, e2, by rw [e3]; simp [natI], by simpa [natI] using t.t.sl⟩
theorem isN_pos {f : List Nd} (h : isN f = true) : 0 < f.length := by
  cases f with
  | nil => revert h; decide
  | cons a l => simp
theorem once_new : ∀ (T L : List Cov), T.Nodup → (∀ c ∈ T, c ∉ L) → onceC T L = L ++ T
  | [], L, _, _ => by simp [onceC]
  | c :: T, L, hn, hd => by
    show onceC T (addC L c) = _
    have hc : addC L c = L ++ [c] := by unfold addC; rw [if_neg (hd c (by simp))]
    rw [hc, once_new T (L ++ [c]) (List.nodup_cons.1 hn).2 (fun d hdm hm => ?_)]
    · simp
    · rcases List.mem_append.1 hm with hm | hm
      · exact hd d (by simp [hdm]) hm
      · rw [List.mem_singleton] at hm; subst hm
        exact (List.nodup_cons.1 hn).1 hdm
theorem once_nil {T : List Cov} (h : T.Nodup) : onceC T [] = T := by rw [once_new T [] h (fun _ _ => by simp)]; simp
theorem row_self {T : List Cov} (h : T.Nodup) : rowL T T = List.range T.length := by
  have := idx_range h []
  simpa using this
theorem natI_back (l : List Nat) : (natI l).map Int.toNat = l := by
  unfold natI
  rw [List.map_map]
  exact (List.map_congr_left (fun x _ => by simp)).trans (List.map_id l)
/-- One step of the numbering. -/
theorem tabIt_step {f : List Nd} {k : Nat} {L : List Cov} {rows : List (List Nat)} {c : Cov} (hlt : rows.length < L.length) (hc : L[rows.length]? = some c) :
    tabIt f (k + 1) L rows = if 256 < (onceC (coversL f (onL c.2.2.1)) L).length then none else tabIt f k (onceC (coversL f (onL c.2.2.1)) L) (rows ++ [rowL (onceC (coversL f (onL c.2.2.1)) L) (coversL f (onL c.2.2.1))]) := by
  have hg : L.getD rows.length (0, 0, [], []) = c := by rw [List.getD_eq_getElem?_getD, hc]; rfl
  conv => lhs; unfold tabIt
  rw [if_pos hlt, hg]
theorem tabIt_end {f : List Nd} {k : Nat} {L : List Cov} {rows : List (List Nat)} (h : ¬ rows.length < L.length) : tabIt f (k + 1) L rows = some (L, rows) := by
  conv => lhs; unfold tabIt
  rw [if_neg h]
theorem TabInv.step' {f : List Nd} (hN : isN f = true) {L : List Cov} {rows : List (List Nat)} (h : TabInv f L rows) (hlt : rows.length < L.length) {c : Cov} (hc : L[rows.length]? = some c) :
    TabInv f (onceC (coversL f (onL c.2.2.1)) L) (rows ++ [rowL (onceC (coversL f (onL c.2.2.1)) L) (coversL f (onL c.2.2.1))]) := by
  have hg : L.getD rows.length (0, 0, [], []) = c := by rw [List.getD_eq_getElem?_getD, hc]; rfl
  have := h.step hN hlt
  rwa [hg] at this
/-- What tableau.Of says. -/
def ofE (f : List Nd) : Int := if isN f = false then 3 else if 50 < f.length then 5 else if 16 < (untils f).length then 11 else match tabL f with | none => 11 | some _ => 0
def ofA (f : List Nd) : Aut := if ofE f = 0 then (match tabL f with | none => ⟨0, [], []⟩ | some (L, rows) => tabA f L rows (List.range (firstL f).length)) else ⟨0, [], []⟩
/-- An automaton and what is wrong, new. -/
def AutPost (w : World) (a : Aut) (e : Int) (en : Ending) (w' : World) : Prop :=
  ∃ Ai ni ci An nn cn, en = .returned (.tuple #[.agg #[.int .i64 a.sets, .slice Ai ni ci, .slice An nn cn], .int .i64 e]) ∧ AutRd w' w'.heap.size a Ai ni ci An nn cn ∧ Below w.heap.size w w'
end Go.Proofs.YtamhjgkigjpbhaaDoor
