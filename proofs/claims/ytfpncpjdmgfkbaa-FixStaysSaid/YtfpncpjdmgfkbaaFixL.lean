/- Lassos of a graph: plain. -/
import Derived.Test.YtfpncpjdmgfkbaaFixQ
namespace Go.Proofs.Ytfpncpjdmgfkbaa

/-- What sets ask for: without sets, for any node. -/
def askOf (s : List Bool) : Nat → Bool := fun i => hasB s (i : Int)
def asksOf (sets : List (List Bool)) : List (Nat → Bool) := if sets = [] then [fun _ => true] else sets.map askOf
theorem asksOf_ne (sets : List (List Bool)) : asksOf sets ≠ [] := by
  unfold asksOf
  split
  · simp
  · rename_i h; simpa using h
/-- Edge by edge. -/
def Chn (E : List (List Nd)) (l : List Int) : Prop := ∀ (i : Nat) x y, l[i]? = some x → l[i + 1]? = some y → y ∈ tgts (E.getD x.toNat [])
theorem Chn.take {E : List (List Nd)} {l : List Int} (h : Chn E l) (k : Nat) : Chn E (l.take k) := fun i x y hx hy => by
  rw [List.getElem?_take] at hx hy
  split at hx
  · split at hy
    · exact h i x y hx hy
    · cases hy
  · cases hx
theorem Chn.drop {E : List (List Nd)} {l : List Int} (h : Chn E l) (k : Nat) : Chn E (l.drop k) := fun i x y hx hy => by
  rw [List.getElem?_drop] at hx hy
  exact h (k + i) x y hx (by rw [← hy]; rfl)
theorem Chn.one (E : List (List Nd)) (x : Int) : Chn E [x] := fun i a b _ hb => by simp at hb
theorem Chn.join {E : List (List Nd)} {a m : List Int} {x : Int} (h : Chn E (a ++ [x])) (k : Chn E (x :: m)) : Chn E (a ++ x :: m) := by
  intro i u v hu hv
  by_cases hi : i < a.length
  · refine h i u v ?_ ?_
    · rw [List.getElem?_append_left hi] at hu ⊢; exact hu
    · by_cases h2 : i + 1 < a.length
      · rw [List.getElem?_append_left h2] at hv ⊢; exact hv
      · rw [List.getElem?_append_right (by omega), show i + 1 - a.length = 0 by omega] at hv ⊢
        simpa using hv
  · refine k (i - a.length) u v ?_ ?_
    · rw [List.getElem?_append_right (by omega)] at hu; exact hu
    · rw [List.getElem?_append_right (by omega), show i + 1 - a.length = i - a.length + 1 by omega] at hv; exact hv
theorem Chn.snoc {E : List (List Nd)} {a : List Int} {x y : Int} (h : Chn E (a ++ [x])) (k : y ∈ tgts (E.getD x.toNat [])) : Chn E (a ++ [x, y]) :=
  h.join (m := [y]) (fun i u v hu hv => by
    cases i with
    | zero => simp at hu hv; subst hu; subst hv; exact k
    | succ i => simp at hv)
/-- A way by nodes that are left. -/
def ZW (E : List (List Nd)) (z : List Bool) (W : List Int) : Prop := (∀ x ∈ W, hasB z x = true) ∧ Chn E W

/-- A lasso. -/
structure IsL (n : Nat) (E : List (List Nd)) (init : List Int) (sets : List (List Bool)) (stem loop : List Int) : Prop where
  ne : loop ≠ []
  nd : ∀ x ∈ stem ++ loop, isNd n x = true
  begins : ∃ x, (stem ++ loop)[0]? = some x ∧ x ∈ init
  chain : Chn E (stem ++ loop ++ loop.take 1)
  met : ∀ s ∈ sets, ∃ x ∈ loop, hasB s x = true

theorem hasB_nd {z : List Bool} {x : Int} (h : hasB z x = true) : isNd z.length x = true := by
  rw [hasB, Bool.and_eq_true] at h; exact h.1
theorem set_getD_ite {z : List Bool} {i k : Nat} (hi : i < z.length) : (z.set i true).getD k false = if i = k then true else z.getD k false := by
  by_cases e : i = k
  · subst e; rw [if_pos rfl]; simp [List.getD, hi]
  · rw [if_neg e]; simp [List.getD, List.getElem?_set_ne e]
/-- A node with an edge to one that stays, stays. -/
theorem Gfp.pred {E : List (List Nd)} {asks : List (Nat → Bool)} {z : List Bool} (h : Gfp E asks z) {i j : Nat} (hi : i < E.length) (hj : z.getD j false = true) (he : (j : Int) ∈ tgts (E.getD i [])) : z.getD i false = true := by
  have hil : i < z.length := by rw [h.1]; exact hi
  have hsub : SubB z (z.set i true) := fun k hk => by rw [set_getD_ite hil, hk]; split <;> rfl
  have hyl : (z.set i true).length = E.length := by simp [h.1]
  have hf : Fixd E asks (z.set i true) := by
    intro p hp k hk
    rw [set_getD_ite hil] at hk
    by_cases e : i = k
    · subst e
      have hjl := getD_lt hj
      obtain ⟨j2, k2, a, b, c, d, f⟩ := (step_iff h.1 hjl).1 (h.2.1 p hp j hj)
      refine (step_iff hyl (by simpa using hil)).2 ⟨j, k2, ⟨hi, by simpa using hjl, by rw [set_getD_ite hil, if_pos rfl], hsub j hj, he⟩, .step (ed_mono hsub a) (b.mono fun _ _ r => ed_mono hsub r), by simpa using c, hsub _ d, f⟩
    · rw [if_neg e] at hk
      exact step_mono h.1 hyl hsub (fun _ a => a) k (h.2.1 p hp k hk)
  exact h.2.2 _ hyl hf i (by rw [set_getD_ite hil, if_pos rfl])
theorem Gfp.lead {E : List (List Nd)} {asks : List (Nat → Bool)} {z : List Bool} (h : Gfp E asks z) {i k : Nat} (hl : Lead (fun a b => a < E.length ∧ b < E.length ∧ (b : Int) ∈ tgts (E.getD a [])) i k) (hk : z.getD k false = true) : z.getD i false = true := by
  induction hl with
  | refl a => exact hk
  | step r _ ih => exact h.pred r.1 (ih hk) r.2.2
/-- What leads to the end of a way by nodes stays if the end does. -/
theorem Gfp.chain {E : List (List Nd)} {asks : List (Nat → Bool)} {z : List Bool} (h : Gfp E asks z) {l : List Int} (hn : ∀ x ∈ l, isNd E.length x = true) (hc : Chn E l) : ∀ (d k : Nat) y, l[k]? = some y → hasB z y = true → ∀ (i : Nat) x, i + d = k → l[i]? = some x → hasB z x = true
  | 0, k, y, hy, hz, i, x, hi, hx => by
    have : i = k := by omega
    subst this
    rw [hx] at hy; cases hy; exact hz
  | d + 1, k, y, hy, hz, i, x, hi, hx => by
    have hkl := (List.getElem?_eq_some_iff.1 hy).1
    have hi1 : l[i + 1]? = some l[i + 1] := List.getElem?_eq_getElem (by omega)
    have h1 := Gfp.chain h hn hc d k y hy hz (i + 1) _ (by omega) hi1
    obtain ⟨a, ha, hal⟩ := isNd_nat (hn x (List.mem_of_getElem? hx))
    obtain ⟨b, hb, hbl, hbz⟩ := hasB_iff.1 h1
    have he := hc i x _ hx hi1
    rw [hb, ha, Int.toNat_natCast] at he
    rw [ha, hasB_nat (by rw [h.1]; exact hal)]
    exact h.pred hal hbz he

/-- The marks of a list. -/
def marksOf (n : Nat) (l : List Int) : List Bool := (List.range n).map fun i : Nat => decide ((i : Int) ∈ l)
theorem marksOf_at {n : Nat} {l : List Int} {i : Nat} (hi : i < n) : (marksOf n l).getD i false = decide ((i : Int) ∈ l) := by simp [marksOf, List.getD, hi]
theorem hasB_marks {n : Nat} {l : List Int} {x : Int} : hasB (marksOf n l) x = true ↔ isNd n x = true ∧ x ∈ l := by
  constructor
  · intro h
    obtain ⟨k, rfl, hk, hz⟩ := hasB_iff.1 h
    have hk' : k < n := by simpa [marksOf] using hk
    rw [marksOf_at hk'] at hz
    exact ⟨isNd_iff.2 ⟨by omega, by omega⟩, by simpa using hz⟩
  · rintro ⟨h, hm⟩
    obtain ⟨k, rfl, hk⟩ := isNd_nat h
    exact hasB_iff.2 ⟨k, rfl, by simpa [marksOf] using hk, by rw [marksOf_at hk]; simpa using hm⟩
/-- Round a loop, from each of its nodes to each. -/
theorem loop_lead {E : List (List Nd)} {l : List Int} (hn : ∀ x ∈ l, isNd E.length x = true) (hc : Chn E (l ++ l.take 1)) {a b : Nat} (ha : (a : Int) ∈ l) (hb : (b : Int) ∈ l) :
    ∃ j : Nat, Ed E (marksOf E.length l) a j ∧ Lead (Ed E (marksOf E.length l)) j b := by
  have hml : (marksOf E.length l).length = E.length := by simp [marksOf]
  have hz : ∀ x : Int, x ∈ l → (marksOf E.length l).getD x.toNat false = true := fun x hx => by
    obtain ⟨k, rfl, hk⟩ := isNd_nat (hn x hx)
    rw [Int.toNat_natCast, marksOf_at hk]; simpa using hx
  have hed : ∀ x y : Int, x ∈ l → y ∈ l → y ∈ tgts (E.getD x.toNat []) → Ed E (marksOf E.length l) x.toNat y.toNat := fun x y hx hy h => by
    obtain ⟨p, rfl, hp⟩ := isNd_nat (hn x hx)
    obtain ⟨q, rfl, hq⟩ := isNd_nat (hn y hy)
    exact ⟨by simpa using hp, by rw [hml]; simpa using hq, hz _ hx, hz _ hy, by simpa using h⟩
  obtain ⟨i, hi⟩ := List.getElem?_of_mem ha
  obtain ⟨k, hk⟩ := List.getElem?_of_mem hb
  have hil := (List.getElem?_eq_some_iff.1 hi).1
  have hkl := (List.getElem?_eq_some_iff.1 hk).1
  have hin : ∀ (p : Nat) x y, l[p]? = some x → l[p + 1]? = some y → Ed E (marksOf E.length l) x.toNat y.toNat := fun p x y hx hy =>
    hed x y (List.mem_of_getElem? hx) (List.mem_of_getElem? hy) (hc p x y (by rw [List.getElem?_append_left (List.getElem?_eq_some_iff.1 hx).1]; exact hx) (by rw [List.getElem?_append_left (List.getElem?_eq_some_iff.1 hy).1]; exact hy))
  have hback : ∀ x y, l[l.length - 1]? = some x → l[0]? = some y → Ed E (marksOf E.length l) x.toNat y.toNat := fun x y hx hy =>
    hed x y (List.mem_of_getElem? hx) (List.mem_of_getElem? hy) (hc (l.length - 1) x y (by rw [List.getElem?_append_left (by omega)]; exact hx) (by
      rw [List.getElem?_append_right (by omega), show l.length - 1 + 1 - l.length = 0 by omega, List.getElem?_take, if_pos (by omega)]; exact hy))
  have hup : ∀ (d p q : Nat) x y, p + d = q → l[p]? = some x → l[q]? = some y → Lead (Ed E (marksOf E.length l)) x.toNat y.toNat := by
    intro d
    induction d with
    | zero =>
      intro p q x y e hx hy
      have : p = q := by omega
      subst this
      rw [hx] at hy; cases hy; exact .refl _
    | succ d ih =>
      intro p q x y e hx hy
      have hql := (List.getElem?_eq_some_iff.1 hy).1
      have h1 : l[p + 1]? = some l[p + 1] := List.getElem?_eq_getElem (by omega)
      exact .step (hin p x _ hx h1) (ih (p + 1) q _ y (by omega) h1 hy)
  have h0 : l[0]? = some l[0] := List.getElem?_eq_getElem (by omega)
  have hl : l[l.length - 1]? = some l[l.length - 1] := List.getElem?_eq_getElem (by omega)
  have hb' := hup k 0 k _ _ (by omega) h0 hk
  rw [Int.toNat_natCast] at hb'
  by_cases e : i + 1 < l.length
  · have h1 : l[i + 1]? = some l[i + 1] := List.getElem?_eq_getElem e
    refine ⟨_, hin i _ _ hi h1, ?_⟩
    exact ((hup (l.length - 1 - (i + 1)) (i + 1) (l.length - 1) _ _ (by omega) h1 hl).snoc (hback _ _ hl h0)).trans hb'
  · have : i = l.length - 1 := by omega
    subst this
    exact ⟨_, hback _ _ hi h0, hb'⟩
/-- A loop through all sets stays. -/
theorem Gfp.loop {E : List (List Nd)} {sets : List (List Bool)} {z : List Bool} (h : Gfp E (asksOf sets) z) {l : List Int} (hn : ∀ x ∈ l, isNd E.length x = true) (hc : Chn E (l ++ l.take 1)) (hm : ∀ s ∈ sets, ∃ x ∈ l, hasB s x = true) : ∀ x ∈ l, hasB z x = true := by
  have hml : (marksOf E.length l).length = E.length := by simp [marksOf]
  have hf : Fixd E (asksOf sets) (marksOf E.length l) := by
    intro p hp i hi
    have hil := getD_lt hi
    have hil' : i < E.length := by rw [hml] at hil; exact hil
    rw [marksOf_at hil'] at hi
    have hi' : (i : Int) ∈ l := by simpa using hi
    obtain ⟨t, ht, hpt⟩ : ∃ t : Nat, (t : Int) ∈ l ∧ p t = true := by
      unfold asksOf at hp
      split at hp
      · rw [List.mem_singleton] at hp
        subst hp
        exact ⟨i, hi', rfl⟩
      · obtain ⟨s, hs, rfl⟩ := List.mem_map.1 hp
        obtain ⟨x, hx, hxs⟩ := hm s hs
        obtain ⟨k, rfl, _⟩ := isNd_nat (hn x hx)
        exact ⟨k, hx, hxs⟩
    have htn := isNd_iff.1 (hn _ ht)
    obtain ⟨j, h1, h2⟩ := loop_lead hn hc hi' ht
    exact (step_iff hml hil).2 ⟨j, t, h1, h2, by rw [hml]; omega, by rw [marksOf_at (by omega)]; simpa using ht, hpt⟩
  intro x hx
  obtain ⟨k, rfl, hk⟩ := isNd_nat (hn x hx)
  rw [hasB_nat (by rw [h.1]; exact hk)]
  exact h.2.2 _ hml hf k (by rw [marksOf_at hk]; simpa using hx)
/-- The nodes of a lasso stay. -/
theorem IsL.stay {E : List (List Nd)} {init : List Int} {sets : List (List Bool)} {stem loop : List Int} {z : List Bool} (hl : IsL E.length E init sets stem loop) (h : Gfp E (asksOf sets) z) : ∀ x ∈ stem ++ loop, hasB z x = true := by
  have hc := hl.chain.drop stem.length
  rw [List.append_assoc, List.drop_left] at hc
  have h1 := h.loop (fun x hx => hl.nd x (List.mem_append_right _ hx)) hc hl.met
  have hlen : 0 < loop.length := List.length_pos_iff.2 hl.ne
  have hc2 : Chn E (stem ++ loop) := by have := hl.chain.take (stem ++ loop).length; rwa [List.take_left'] at this; rfl
  intro x hx
  obtain ⟨i, hi⟩ := List.getElem?_of_mem hx
  have hil := (List.getElem?_eq_some_iff.1 hi).1
  have hlast : (stem ++ loop)[(stem ++ loop).length - 1]? = some loop[loop.length - 1] := by
    rw [List.length_append, List.getElem?_append_right (by omega), show stem.length + loop.length - 1 - stem.length = loop.length - 1 by omega]
    exact List.getElem?_eq_getElem (by omega)
  exact h.chain hl.nd hc2 ((stem ++ loop).length - 1 - i) _ _ hlast (h1 _ (List.getElem_mem _)) i x (by omega) hi
/-- A way that comes back to a node makes a lasso. -/
theorem isL_of {E : List (List Nd)} {init : List Int} {sets : List (List Bool)} {z : List Bool} {W : List Int} {from_ last : Nat} {x0 e : Int} (hz : z.length = E.length) (hW : ZW E z W) (hl : W.length = last + 1) (hf : from_ < last) (h0 : W[0]? = some x0) (hi : x0 ∈ init)
    (ha : W[from_]? = some e) (hb : W[last]? = some e) (hm : ∀ s ∈ sets, ∃ (j : Nat) (x : Int), from_ < j ∧ W[j]? = some x ∧ hasB s x = true) : IsL E.length E init sets (W.take from_) ((W.drop from_).take (last - from_)) := by
  have hd : (W.drop from_)[0]? = some e := by rw [List.getElem?_drop]; exact ha
  have hcat : W.take from_ ++ (W.drop from_).take (last - from_) = W.take last := by
    have := List.take_add (l := W) (i := from_) (j := last - from_)
    rw [show from_ + (last - from_) = last by omega] at this
    exact this.symm
  have hone : ((W.drop from_).take (last - from_)).take 1 = [e] := by
    rw [List.take_take, Nat.min_eq_left (by omega)]
    cases hx : W.drop from_ with
    | nil => rw [hx] at hd; simp at hd
    | cons a l => rw [hx] at hd; simp at hd; subst hd; simp
  have hall : W.take last ++ [e] = W := by
    have h1 := List.take_append_drop last W
    have h2 : W.drop last = [e] := by
      have h3 : (W.drop last)[0]? = some e := by rw [List.getElem?_drop]; exact hb
      have h4 : (W.drop last).length = 1 := by rw [List.length_drop]; omega
      obtain ⟨a, ha'⟩ := List.length_eq_one_iff.1 h4
      rw [ha'] at h3 ⊢
      simpa using h3
    rw [h2] at h1; exact h1
  refine ⟨?_, fun x hx => ?_, ⟨x0, ?_, hi⟩, ?_, fun s hs => ?_⟩
  · intro hn
    have := congrArg List.length hn
    rw [List.length_take, List.length_drop] at this
    simp at this
    omega
  · rw [hcat] at hx
    have := hasB_nd (hW.1 x (List.mem_of_mem_take hx))
    rw [hz] at this; exact this
  · rw [hcat, List.getElem?_take, if_pos (by omega)]; exact h0
  · rw [hcat, hone, hall]; exact hW.2
  · obtain ⟨j, x, hj, hx, hs'⟩ := hm s hs
    have hjl := (List.getElem?_eq_some_iff.1 hx).1
    have hmem : ∀ (j : Nat) (x : Int), from_ ≤ j → j < last → W[j]? = some x → x ∈ (W.drop from_).take (last - from_) := fun j x h1 h2 hx => by
      refine List.mem_of_getElem? (i := j - from_) ?_
      rw [List.getElem?_take, if_pos (by omega), List.getElem?_drop, show from_ + (j - from_) = j by omega]; exact hx
    by_cases e1 : j < last
    · exact ⟨x, hmem j x (by omega) e1 hx, hs'⟩
    · have : j = last := by omega
      subst this
      rw [hb] at hx
      cases hx
      exact ⟨e, hmem from_ e (Nat.le_refl _) hf ha, hs'⟩
end Go.Proofs.Ytfpncpjdmgfkbaa
