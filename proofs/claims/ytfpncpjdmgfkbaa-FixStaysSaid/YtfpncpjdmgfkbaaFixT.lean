/- A round through all sets: plain. -/
import Derived.Test.YtfpncpjdmgfkbaaFixL
namespace Go.Proofs.Ytfpncpjdmgfkbaa

/-- What is known of a path that is told. -/
structure ToldT (n : Nat) (E : List (List Nd)) (goal : List Bool) (from_ L : List Int) : Prop where
  one : 1 ≤ L.length
  le : L.length ≤ n
  nd : ∀ (i : Nat) x, L[i]? = some x → isNd n x = true
  ed : ∀ (i : Nat) x y, L[i]? = some x → L[i + 1]? = some y → y ∈ tgts (E.getD x.toNat [])
  gl : ∀ (i : Nat) x, L[i]? = some x → goal.getD x.toNat false = decide (i + 1 = L.length)
  new : ∀ (i j : Nat) x y, i < j → L[i]? = some x → L[j]? = some y → x ≠ y
  from_ : ∃ x, L[0]? = some x ∧ x ∈ from_
theorem toldT_of {n : Nat} {E : List (List Nd)} {goal : List Bool} {from_ : List Int} (hn : n = E.length) (h : (pathG n (farG n (turnE E) (goalsG n goal)) E from_).2 = true) : ToldT n E goal from_ (pathG n (farG n (turnE E) (goalsG n goal)) E from_).1 := by
  subst hn
  have hD := farE_Dn E goal
  have hok := farE_ok E goal
  change Dn E.length (farG E.length (turnE E) (goalsG E.length goal)) E at hD
  have hhi : ∀ i : Nat, i < E.length → (farG E.length (turnE E) (goalsG E.length goal)).getD i 0 < (E.length : Int) := fun i hi => hok.hi i hi
  have hz : ∀ i : Nat, i < E.length → ((farG E.length (turnE E) (goalsG E.length goal)).getD i 0 = 0 ↔ goal.getD i false = true) := fun i hi => (hok.zero i hi).trans (goalsG_mem hi)
  generalize farG E.length (turnE E) (goalsG E.length goal) = D at *
  rw [pathG] at h ⊢
  split at h
  · cases h
  · rename_i hb
    rw [if_neg hb]
    rcases bestG_ok (n := E.length) (D := D) from_ with h0 | ⟨h1, h2, h3⟩
    · rw [h0] at hb; omega
    · have hp := pathW_ok hD (D.getD (bestG E.length D from_).toNat 0).toNat (bestG E.length D from_) h1 (by omega)
      have h4 := isNd_iff.1 h1
      have h5 := hhi (bestG E.length D from_).toNat (by omega)
      have hh := pathW_head (n := E.length) (D := D) (E := E) (D.getD (bestG E.length D from_).toNat 0).toNat (bestG E.length D from_)
      dsimp only
      generalize hK : (D.getD (bestG E.length D from_).toNat 0).toNat = K at *
      generalize hL : pathW E.length D E K (bestG E.length D from_) = L at *
      refine ⟨by rw [hp.len]; omega, by rw [hp.len]; omega, fun i x hx => (hp.nd i x hx).1, hp.ed, fun i x hx => ?_, fun i j x y hij hx hy e => ?_, ⟨_, hh, h3⟩⟩
      · obtain ⟨a, b⟩ := hp.nd i x hx
        have hx1 := isNd_iff.1 a
        have hzx := hz x.toNat (by omega)
        rw [b] at hzx
        have hil := (List.getElem?_eq_some_iff.1 hx).1
        rw [hp.len] at hil ⊢
        rw [Bool.eq_iff_iff, ← hzx]
        simp; omega
      · subst e
        have a := (hp.nd i x hx).2
        have b := (hp.nd j x hy).2
        omega

theorem getLast_at {l : List Int} {y : Int} (h : l.getLast? = some y) : ∃ i, i + 1 = l.length ∧ l[i]? = some y := by
  rw [List.getLast?_eq_getElem?] at h
  have hl := (List.getElem?_eq_some_iff.1 h).1
  exact ⟨l.length - 1, by omega, h⟩
/-- From each node that stays a way leads to one that is asked for. -/
theorem round_step {E : List (List Nd)} {z : List Bool} {p : Nat → Bool} (hz : z.length = E.length) (hf : SubB z (stepZ E z p)) {x : Int} (hx : hasB z x = true) :
    ∃ m, pathG E.length (farG E.length (turnE (withinE E z)) (goalsG E.length (goalZ z p))) (withinE E z) [x] = (x :: m, true) ∧ (∀ y ∈ m, hasB z y = true) ∧ Chn E (x :: m) ∧ (∃ y : Nat, (x :: m).getLast? = some (y : Int) ∧ p y = true) ∧ m.length < E.length := by
  obtain ⟨i, rfl, hi, hzi⟩ := hasB_iff.1 hx
  have hw : E.length = (withinE E z).length := (withinE_len E z).symm
  have hgl : (goalZ z p).length = z.length := goalZ_len z p
  have h2 : (pathG E.length (farG E.length (turnE (withinE E z)) (goalsG E.length (goalZ z p))) (withinE E z) [(i : Int)]).2 = true := by
    have hr : 0 ≤ (farG E.length (turnE (withinE E z)) (goalsG E.length (goalZ z p))).getD i 0 := by
      rw [hw, far_rch (turn_TOk _) (goalsG_ok _ _) (by omega), rch_lead rfl (by omega)]
      obtain ⟨j, k, a, b, c, d, e⟩ := (step_iff hz hi).1 (hf i hzi)
      have hR : ∀ a b, Ed E z a b → (a < (withinE E z).length ∧ b < (withinE E z).length ∧ (b : Int) ∈ tgts ((withinE E z).getD a [])) := fun a b r =>
        ⟨by rw [← hw]; exact r.1, by rw [← hw, ← hz]; exact r.2.1, (ed_within hz r.1).2 r⟩
      exact ⟨k, by omega, (goalsG_mem (by omega)).2 (by rw [goalZ_at c, d, e]; rfl), .step (hR _ _ a) (b.mono hR)⟩
    have hb : 0 ≤ bestG E.length (farG E.length (turnE (withinE E z)) (goalsG E.length (goalZ z p))) [(i : Int)] := bestG_ge ⟨(i : Int), by simp, isNd_iff.2 ⟨by omega, by omega⟩, by simpa using hr⟩
    rw [pathG, if_neg (by omega)]
  have ht := toldT_of hw h2
  generalize pathG E.length (farG E.length (turnE (withinE E z)) (goalsG E.length (goalZ z p))) (withinE E z) [(i : Int)] = r at *
  obtain ⟨L, ok⟩ := r
  dsimp only at h2 ht
  subst h2
  cases L with
  | nil => have := ht.one; simp at this
  | cons x m =>
    obtain ⟨y, hy, hyx⟩ := ht.from_
    simp at hy hyx
    subst hyx
    subst hy
    have hc : Chn E ((i : Int) :: m) ∧ ∀ y ∈ m, hasB z y = true := by
      have key : ∀ (k : Nat) u v, ((i : Int) :: m)[k]? = some u → ((i : Int) :: m)[k + 1]? = some v → v ∈ tgts (E.getD u.toNat []) ∧ hasB z v = true := fun k u v hu hv => by
        have he := ht.ed k u v hu hv
        obtain ⟨a, rfl, ha⟩ := isNd_nat (ht.nd k u hu)
        obtain ⟨b, rfl, hb⟩ := isNd_nat (ht.nd (k + 1) v hv)
        rw [Int.toNat_natCast] at he ⊢
        have := (ed_within hz ha).1 he
        exact ⟨this.2.2.2.2, by rw [hasB_nat this.2.1]; exact this.2.2.2.1⟩
      refine ⟨fun k u v hu hv => (key k u v hu hv).1, fun y hy => ?_⟩
      obtain ⟨k, hk⟩ := List.getElem?_of_mem hy
      have hkl := (List.getElem?_eq_some_iff.1 hk).1
      exact (key k _ y (List.getElem?_eq_getElem (by simp; omega)) (by simpa using hk)).2
    refine ⟨m, rfl, hc.2, hc.1, ?_, by have := ht.le; simp at this; omega⟩
    have hlast : ((i : Int) :: m)[m.length]? = some (((i : Int) :: m)[m.length]'(by simp)) := List.getElem?_eq_getElem (by simp)
    obtain ⟨b, hb, hbl⟩ := isNd_nat (ht.nd _ _ hlast)
    have hg := ht.gl _ _ hlast
    rw [hb, Int.toNat_natCast, show decide (m.length + 1 = ((i : Int) :: m).length) = true by simp, goalZ_at (by omega), Bool.and_eq_true] at hg
    refine ⟨b, ?_, hg.2⟩
    rw [List.getLast?_eq_getElem?, List.length_cons, Nat.add_sub_cancel, hlast, hb]
/-- A round under way: k sets are met. -/
structure Rnd (E : List (List Nd)) (z : List Bool) (sets : List (List Bool)) (W0 : List Int) (k : Nat) (W : List Int) : Prop where
  ex : ∃ m, W = W0 ++ m ∧ m ≠ [] ∧ (∀ y ∈ m, hasB z y = true) ∧ (∀ i s, i < k → sets[i]? = some s → ∃ x ∈ m, hasB s x = true) ∧ m.length ≤ 1 + k * E.length
  chn : Chn E W
theorem Rnd.start {E : List (List Nd)} {z : List Bool} {sets : List (List Bool)} {a : List Int} {x y : Int} (hz : z.length = E.length) (hc : Chn E (a ++ [x])) (hx : hasB z x = true) (he : y ∈ tgts ((withinE E z).getD x.toNat [])) : Rnd E z sets (a ++ [x]) 0 (a ++ [x] ++ [y]) := by
  obtain ⟨i, rfl, hi, hzi⟩ := hasB_iff.1 hx
  rw [Int.toNat_natCast] at he
  obtain ⟨e, he', rfl⟩ := List.mem_map.1 he
  obtain ⟨h1, h2, h3⟩ := (within_mem (by omega)).1 he'
  refine ⟨⟨[e.op], rfl, by simp, fun y hy => ?_, fun i s hi => absurd hi (by omega), by simp⟩, ?_⟩
  · rw [List.mem_singleton] at hy; subst hy; exact h3
  · rw [List.append_assoc]; exact hc.snoc (List.mem_map.2 ⟨e, by simpa using h2, rfl⟩)
theorem Rnd.next {E : List (List Nd)} {z : List Bool} {sets : List (List Bool)} {W0 W m' : List Int} {k : Nat} {x : Int} {s : List Bool} (h : Rnd E z sets W0 k W) (hs : sets[k]? = some s) (hx : W.getLast? = some x) (hm : ∀ y ∈ m', hasB z y = true) (hc : Chn E (x :: m'))
    (hl : ∃ y : Nat, (x :: m').getLast? = some (y : Int) ∧ askOf s y = true) (hn : m'.length < E.length) : Rnd E z sets W0 (k + 1) (W ++ m') := by
  obtain ⟨m, rfl, h1, h2, h3, h4⟩ := h.ex
  obtain ⟨a, ha⟩ : ∃ a, W0 ++ m = a ++ [x] := by
    obtain ⟨a, ha⟩ := List.getLast?_eq_some_iff.1 hx
    exact ⟨a, ha⟩
  obtain ⟨b, hb⟩ : ∃ b, m = b ++ [x] := by
    have : m.getLast? = some x := by
      rw [List.getLast?_append] at hx
      cases hg : m.getLast? with
      | none => rw [List.getLast?_eq_none_iff] at hg; exact absurd hg h1
      | some v => rw [hg] at hx; simpa using hx
    exact List.getLast?_eq_some_iff.1 this
  refine ⟨⟨m ++ m', by rw [List.append_assoc], by simp [h1], fun y hy => ?_, fun i s' hi hs' => ?_, ?_⟩, ?_⟩
  · rcases List.mem_append.1 hy with h | h
    · exact h2 y h
    · exact hm y h
  · by_cases e : i = k
    · subst e
      rw [hs] at hs'; cases hs'
      obtain ⟨y, hy, hys⟩ := hl
      refine ⟨(y : Int), ?_, hys⟩
      have := List.mem_of_getLast? hy
      rcases List.mem_cons.1 this with h | h
      · rw [h, hb]; simp
      · exact List.mem_append_right _ h
    · obtain ⟨y, hy, hys⟩ := h3 i s' (by omega) hs'
      exact ⟨y, List.mem_append_left _ hy, hys⟩
  · rw [List.length_append, Nat.succ_mul]; omega
  · have := h.chn
    rw [ha] at this ⊢
    rw [List.append_assoc]
    exact this.join hc
end Go.Proofs.Ytfpncpjdmgfkbaa
