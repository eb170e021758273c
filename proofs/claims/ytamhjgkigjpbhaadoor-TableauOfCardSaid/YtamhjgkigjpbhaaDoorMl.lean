/- Texts of one kind, in one file. -/
import Derived.Test.YtamhjgkigjpbhaaDoorMh
import Derived.Test.YtamhjgkigjpbhaaDoorMg
import Derived.Test.YtamhjgkigjpbhaaDoorMa
import Derived.Test.YtamhjgkigjpbhaaDoorCvN

/- (XTbC) Covers that are chosen promptly: an until's right part is there as soon as it holds; untils and releases as fixpoints, node by node; plain. -/
namespace Go.Proofs.YtamhjgkigjpbhaaDoor

section
variable {bits : Int → Nat → Bool} {n lp : Nat} {f : List Nd}
/-- A node of two parts. -/
theorem bin_sat (hN : isN f = true) (_hlp : lp < n) {k : Nat} (hk : k < f.length) (ho : opAt f k = 9 ∨ opAt f k = 10) : ∃ (m : Int) (a c : Tr), a.ok ∧ c.ok ∧ (∀ i, holdsAt bits n lp f k i = sat bits n lp (.bin ⟨opAt f k, m⟩ a c) i) ∧
    (∀ i, holdsAt bits n lp f (leftOf f k) i = sat bits n lp a i) ∧ ∀ i, holdsAt bits n lp f (rightOf f k) i = sat bits n lp c i := by
  obtain ⟨t, hok, hn, rfl⟩ := isN_tree hN
  have hw := isN_good hN
  obtain ⟨b, t', hok', hn', hat', hk'⟩ := at_subN t 0 k hok hn (at_whole hok) (by omega) (by rw [t.flat_len] at hk; omega)
  have hr := (at_root hat' hk').1
  have hx' : t.flat[k]? = some t.flat[k] := List.getElem?_eq_getElem hk
  rw [hx'] at hr
  have hop : opAt t.flat k = t.flat[k].op := by simp [opAt, List.getD, hk]
  have hkids := kids_at hw hk
  have hK : ∀ i, holdsAt bits n lp t.flat k i = sat bits n lp t' i := holdsAt_sub hok' hat' hk' hk
  rw [hop] at ho ⊢
  match t', hok', hn', hat', hk', hr, hK with
  | .leaf y, ⟨h, h3⟩, hn', hat', hk', hr, hK =>
    have e : t.flat[k] = y := Option.some.inj hr
    rw [← e] at h
    rcases ho with e9 | e9 <;> rw [e9] at h <;> simp [takes] at h
  | .un y a, ⟨h, ha⟩, hn', hat', hk', hr, hK =>
    have e : t.flat[k] = y := Option.some.inj hr
    rw [← e] at h
    rcases ho with e9 | e9 <;> rw [e9] at h <;> simp [takes] at h
  | .bin y a c, ⟨h, ha, hc⟩, hn', hat', hk', hr, hK =>
    have e : t.flat[k] = y := Option.some.inj hr
    subst e
    simp only [Tr.size] at hk'
    obtain ⟨j, hj⟩ : ∃ j, j + 1 = b + a.size := ⟨b + a.size - 1, by have := a.size_pos; omega⟩
    obtain ⟨m, hm⟩ : ∃ m, m + 1 = b + a.size + c.size := ⟨b + a.size + c.size - 1, by have := c.size_pos; omega⟩
    have hc0 := c.size_pos
    have hA : ∀ i, holdsAt bits n lp t.flat j i = sat bits n lp a i := holdsAt_sub ha hat'.1 hj (by omega)
    have hC : ∀ i, holdsAt bits n lp t.flat m i = sat bits n lp c i := holdsAt_sub hc hat'.2.1 hm (by omega)
    rw [h] at hkids
    have hs := (at_root hat'.2.1 hm).2
    have hkk : kids t.flat k = ((j : Int), (m : Int)) := by
      rw [hkids, if_neg (by decide), if_pos rfl, show k - 1 = m by omega, hs]
      simp only [Option.getD_some]
      congr 1 <;> omega
    refine ⟨t.flat[k].n, a, c, ha, hc, hK, ?_, ?_⟩
    · unfold leftOf; rw [hkk]; exact hA
    · unfold rightOf; rw [hkk]; exact hC
theorem until_least (hN : isN f = true) (hlp : lp < n) {k : Nat} (hk : k < f.length) (ho : opAt f k = 9) {u : Nat → Bool} (h : ∀ i, i < n → (holdsAt bits n lp f (rightOf f k) i || (holdsAt bits n lp f (leftOf f k) i && u (nx lp n i))) = true → u i = true)
    {i : Nat} (hi : i < n) (hs : holdsAt bits n lp f k i = true) : u i = true := by
  obtain ⟨m, a, c, ha, hc, h1, h2, h3⟩ := bin_sat (bits := bits) hN hlp hk (.inl ho)
  rw [h1, ho] at hs
  exact sat_until_least hlp ha (fun i hi hh => h i hi (by rw [h2, h3]; exact hh)) hi hs
theorem rel_most (hN : isN f = true) (hlp : lp < n) {k : Nat} (hk : k < f.length) (ho : opAt f k = 10) {u : Nat → Bool} (h : ∀ i, i < n → u i = true → (holdsAt bits n lp f (rightOf f k) i && (holdsAt bits n lp f (leftOf f k) i || u (nx lp n i))) = true)
    {i : Nat} (hi : i < n) (hu : u i = true) : holdsAt bits n lp f k i = true := by
  obtain ⟨m, a, c, ha, hc, h1, h2, h3⟩ := bin_sat (bits := bits) hN hlp hk (.inr ho)
  rw [h1, ho]
  exact sat_rel_most hlp ha hc (fun i hi hh => by have := h i hi hh; rw [h2, h3] at this; exact this) hi hu
/-- What is chosen promptly: of an until whose right part holds, it is there. -/
def Prompt (bits : Int → Nat → Bool) (n lp : Nat) (f : List Nd) (i : Nat) (w : Way) : Prop :=
  ∀ u, opAt f u = 9 → w.now.getD u false = true → holdsAt bits n lp f (rightOf f u) i = true → w.now.getD (rightOf f u) false = true ∨ rightOf f u ∈ w.todo
/-- If all of a way's parts hold, one of its ends fits, and is prompt. -/
theorem complete2 (hN : isN f = true) (hlp : lp < n) {i : Nat} (hi : i < n) : ∀ (k : Nat) (w : Way), WOk f w → cntF w.now < k → Fits bits n lp f i w → Prompt bits n lp f i w →
    ∃ y ∈ leaves f k w, Fits bits n lp f i y ∧ ∀ u, opAt f u = 9 → y.now.getD u false = true → holdsAt bits n lp f (rightOf f u) i = true → y.now.getD (rightOf f u) false = true := by
  have hk := kidsOk_of hN
  intro k
  induction k with
  | zero => intro w _ h; omega
  | succ k ih =>
    intro w hw hc hf hpr
    unfold leaves
    cases hs : skipL w.now w.todo with
    | nil => exact ⟨w, by simp, hf, fun u h1 h2 h3 => (hpr u h1 h2 h3).elim id (skip_nil hs _)⟩
    | cons j t =>
      obtain ⟨hm, hcnt, hj⟩ := made_ok hw hs
      obtain ⟨_, hj2, ht⟩ := skip_head hs
      have hl : j < w.now.length := by rw [hw.now]; exact hj
      have hH := hf.2.2 j hj2
      have hA := ask_eq (bits := bits) hN hlp hj hi
      have hb : Fits bits n lp f i (w.made j t) := ⟨hf.1, hf.2.1, fun y hy => hf.2.2 y (ht y hy)⟩
      have hwith : ∀ (v : Way) (l : List Nat), Fits bits n lp f i v → (∀ y ∈ l, holdsAt bits n lp f y i = true) → Fits bits n lp f i (v.with_ l) := fun v l hv hl =>
        ⟨hv.1, hv.2.1, fun y hy => (List.mem_append.1 hy).elim (hl y) (hv.2.2 y)⟩
      have how : ∀ (v : Way) (p : Nat), Fits bits n lp f i v → holdsAt bits n lp f p (nx lp n i) = true → Fits bits n lp f i (v.owing p) := fun v p hv hp =>
        ⟨hv.1, fun y hy => (set_getD hy).elim (fun e => e ▸ hp) (hv.2.1 y), hv.2.2⟩
      suffices hx : ∃ x ∈ splitW f j (w.made j t), Fits bits n lp f i x ∧ (opAt f j = 9 → holdsAt bits n lp f (rightOf f j) i = true → rightOf f j ∈ x.todo) by
        obtain ⟨x, hx, hxf, hxp⟩ := hx
        obtain ⟨hxo, hxn⟩ := split_ok hk hj hm x hx
        obtain ⟨_, k2, _⟩ := split_keeps x hx
        have hnow : ∀ y, w.now.getD y false = true → x.now.getD y false = true := by
          intro y hy
          rw [hxn]
          simp only [Way.made]
          rw [List.getD_eq_getElem?_getD, List.getElem?_set]
          by_cases e' : j = y
          · subst e'; simp [hl]
          · rw [if_neg e', ← List.getD_eq_getElem?_getD]; exact hy
        have hpx : Prompt bits n lp f i x := by
          intro u h1 h2 h3
          rw [hxn] at h2
          rcases set_getD (l := w.now) h2 with rfl | h2
          · exact .inr (hxp h1 h3)
          · rcases hpr u h1 h2 h3 with h | h
            · exact .inl (hnow _ h)
            · rcases skip_mem hs _ h with h | h | h
              · exact .inl (hnow _ h)
              · rw [h, hxn]; exact .inl (set_self hl)
              · exact .inr (k2 _ h)
        obtain ⟨y, hy, hyf, hyp⟩ := ih x hxo (by rw [hxn]; omega) hxf hpx
        exact ⟨y, List.mem_flatMap.2 ⟨x, hx, hy⟩, hyf, hyp⟩
      unfold splitW
      rcases hA.op with e | e | e | e | e | e | e | e | e
      · exact ⟨_, by rw [if_pos e]; simp, hb, fun h => by omega⟩
      · rw [hA.fls e] at hH; cases hH
      · have hr : Reads bits (w.need ||| 2 ^ nAt f j) w.ban i := ⟨fun p hp => by
          rw [Nat.testBit_or, Bool.or_eq_true, Nat.testBit_two_pow] at hp
          rcases hp with hp | hp
          · exact hf.1.1 p hp
          · have : nAt f j = p := by simpa using hp
            rw [← this, ← hA.prop e]; exact hH, hf.1.2⟩
        refine ⟨{ w.made j t with need := w.need ||| 2 ^ nAt f j }, ?_, ⟨hr, hb.2.1, hb.2.2⟩, fun h => by omega⟩
        rw [if_neg (by omega), if_pos e]
        exact mem_finW (u := { w.made j t with need := w.need ||| 2 ^ nAt f j }) (reads_apart hr)
      · have hr : Reads bits w.need (w.ban ||| 2 ^ nAt f (j - 1)) i := ⟨hf.1.1, fun p hp => by
          rw [Nat.testBit_or, Bool.or_eq_true, Nat.testBit_two_pow] at hp
          rcases hp with hp | hp
          · exact hf.1.2 p hp
          · have : nAt f (j - 1) = p := by simpa using hp
            rw [hA.not_ e, this] at hH
            simpa using hH⟩
        refine ⟨{ w.made j t with ban := w.ban ||| 2 ^ nAt f (j - 1) }, ?_, ⟨hr, hb.2.1, hb.2.2⟩, fun h => by omega⟩
        rw [if_neg (by omega), if_neg (by omega), if_pos e]
        exact mem_finW (u := { w.made j t with ban := w.ban ||| 2 ^ nAt f (j - 1) }) (reads_apart hr)
      · rw [hA.and_ e, Bool.and_eq_true] at hH
        refine ⟨_, by rw [if_neg (by omega), if_neg (by omega), if_neg (by omega), if_pos e]; exact List.mem_singleton.2 rfl, hwith _ _ hb (fun y hy => ?_), fun h => by omega⟩
        simp only [List.mem_cons, List.not_mem_nil, or_false] at hy
        rcases hy with rfl | rfl
        · exact hH.1
        · exact hH.2
      · rw [hA.or_ e, Bool.or_eq_true] at hH
        rcases hH with hH | hH
        · refine ⟨_, by rw [if_neg (by omega), if_neg (by omega), if_neg (by omega), if_neg (by omega), if_pos e]; exact List.mem_cons_self .., hwith _ _ hb (fun y hy => by rw [List.mem_singleton] at hy; subst hy; exact hH), fun h => by omega⟩
        · refine ⟨_, by rw [if_neg (by omega), if_neg (by omega), if_neg (by omega), if_neg (by omega), if_pos e]; exact List.mem_cons_of_mem _ (List.mem_cons_self ..), hwith _ _ hb (fun y hy => by rw [List.mem_singleton] at hy; subst hy; exact hH), fun h => by omega⟩
      · rw [hA.next e] at hH
        exact ⟨_, by rw [if_neg (by omega), if_neg (by omega), if_neg (by omega), if_neg (by omega), if_neg (by omega), if_pos e]; exact List.mem_singleton.2 rfl, how _ _ hb hH, fun h => by omega⟩
      · rw [hA.until_ e, Bool.or_eq_true, Bool.and_eq_true] at hH
        by_cases hR : holdsAt bits n lp f (rightOf f j) i = true
        · refine ⟨_, by rw [if_neg (by omega), if_neg (by omega), if_neg (by omega), if_neg (by omega), if_neg (by omega), if_neg (by omega), if_pos e]; exact List.mem_cons_self .., hwith _ _ hb (fun y hy => by rw [List.mem_singleton] at hy; subst hy; exact hR), fun _ _ => by simp [Way.with_]⟩
        · obtain ⟨h1, h2⟩ := hH.resolve_left hR
          refine ⟨_, by rw [if_neg (by omega), if_neg (by omega), if_neg (by omega), if_neg (by omega), if_neg (by omega), if_neg (by omega), if_pos e]; exact List.mem_cons_of_mem _ (List.mem_cons_self ..), how _ _ (hwith _ _ hb (fun y hy => by rw [List.mem_singleton] at hy; subst hy; exact h1)) h2, fun _ h => absurd h hR⟩
      · rw [hA.rel e, Bool.and_eq_true, Bool.or_eq_true] at hH
        obtain ⟨h1, h2 | h2⟩ := hH
        · refine ⟨_, by rw [if_neg (by omega), if_neg (by omega), if_neg (by omega), if_neg (by omega), if_neg (by omega), if_neg (by omega), if_neg (by omega), if_pos e]; exact List.mem_cons_self .., hwith _ _ hb (fun y hy => ?_), fun h => by omega⟩
          simp only [List.mem_cons, List.not_mem_nil, or_false] at hy
          rcases hy with rfl | rfl
          · exact h2
          · exact h1
        · refine ⟨_, by rw [if_neg (by omega), if_neg (by omega), if_neg (by omega), if_neg (by omega), if_neg (by omega), if_neg (by omega), if_neg (by omega), if_pos e]; exact List.mem_cons_of_mem _ (List.mem_cons_self ..), how _ _ (hwith _ _ hb (fun y hy => by rw [List.mem_singleton] at hy; subst hy; exact h1)) h2, fun h => by omega⟩
/-- A cover that fits, and is prompt. -/
def FitsP (bits : Int → Nat → Bool) (n lp : Nat) (f : List Nd) (i : Nat) (c : Cov) : Prop :=
  FitsC bits n lp f i c ∧ ∀ u, opAt f u = 9 → c.2.2.2.getD u false = true → holdsAt bits n lp f (rightOf f u) i = true → c.2.2.2.getD (rightOf f u) false = true
theorem covers_prompt (hN : isN f = true) (hlp : lp < n) {i : Nat} (hi : i < n) {parts : List Nat} (hp : ∀ x ∈ parts, x < f.length) (h : ∀ x ∈ parts, holdsAt bits n lp f x i = true) : ∃ c ∈ coversL f parts, FitsP bits n lp f i c := by
  obtain ⟨y, hy, ⟨h1, h2, _⟩, h4⟩ := complete2 hN hlp hi (f.length + 1) (startW f.length parts) (startW_ok hp) (startW_cnt _ _) ⟨⟨fun p hp => by simp [startW] at hp, fun p hp => by simp [startW] at hp⟩, (fun j hj => by
      simp only [startW, List.getD_eq_getElem?_getD, List.getElem?_replicate] at hj
      split at hj <;> cases hj), h⟩ (fun u _ h2 => by
      simp only [startW, List.getD_eq_getElem?_getD, List.getElem?_replicate] at h2
      split at h2 <;> cases h2)
  exact ⟨y.cov, (onceC_mem _ _ _).2 (.inr (List.mem_map.2 ⟨y, hy, rfl⟩)), ⟨h1, h2⟩, h4⟩
/-- What a cover's Now leaves behind. -/
theorem covers_obl (hN : isN f = true) {parts : List Nat} (hp : ∀ x ∈ parts, x < f.length) {c : Cov} (hc : c ∈ coversL f parts) : ∀ j, c.2.2.2.getD j false = true → Obl f c.1 c.2.1 c.2.2.1 (fun p => c.2.2.2.getD p false = true) j := by
  rcases (onceC_mem _ _ _).1 hc with hc | hc
  · cases hc
  · obtain ⟨y, hy, rfl⟩ := List.mem_map.1 hc
    exact leaf_closed (kidsOk_of hN) _ _ (startW_ok hp) y hy (fun j hj => by
      simp only [startW, List.getD_eq_getElem?_getD, List.getElem?_replicate] at hj
      split at hj <;> cases hj)
end
end Go.Proofs.YtamhjgkigjpbhaaDoor

/- (XTbT) The automaton of a formula takes just the words that satisfy it (layer 29); plain. -/
namespace Go.Proofs.YtamhjgkigjpbhaaDoor

/-- A way of steps. -/
inductive LeadP (R : Nat × Nat → Nat × Nat → Prop) : Nat × Nat → Nat × Nat → Prop
  | refl (a : Nat × Nat) : LeadP R a a
  | step {a b c : Nat × Nat} : R a b → LeadP R b c → LeadP R a c
/-- Covers L, numbered, with what each leads to (rows), and those that come first. -/
structure TabOk (f : List Nd) (L : List Cov) (rows : List (List Nat)) (init : List Nat) : Prop where
  len : rows.length = L.length
  init_all : ∀ c ∈ coversL f [f.length - 1], ∃ q ∈ init, L[q]? = some c
  init_ok : ∀ q ∈ init, ∃ c ∈ coversL f [f.length - 1], L[q]? = some c
  row_all : ∀ q c, L[q]? = some c → ∀ c' ∈ coversL f (onL c.2.2.1), ∃ q' ∈ rows.getD q [], L[q']? = some c'
  row_ok : ∀ q c, L[q]? = some c → ∀ q' ∈ rows.getD q [], ∃ c' ∈ coversL f (onL c.2.2.1), L[q']? = some c'
  cov : ∀ c ∈ L, ∃ ps : List Nat, (∀ x ∈ ps, x < f.length) ∧ c ∈ coversL f ps
/-- Which until of a formula is which. -/
def owesNot (c : Cov) (u : Nat) : Prop := c.2.2.2.getD u false = true → c.2.2.2.getD (u - 1) false = true
section
variable {bits : Int → Nat → Bool} {n lp : Nat} {f : List Nd} {L : List Cov} {rows : List (List Nat)} {init : List Nat}
theorem right_until (hN : isN f = true) {u : Nat} (hu : u < f.length) (ho : opAt f u = 9) : rightOf f u = u - 1 ∧ 1 ≤ u := by
  obtain ⟨l, r, h⟩ := node_eq (bits := fun _ _ => false) (n := 1) (lp := 0) hN (by omega) (at_of hu)
  obtain ⟨a, _, _, b⟩ := h.kid2 (.inr (.inr (.inl ho)))
  unfold rightOf; rw [a]; simp; omega
/-- A step: a place on, to a node that is led to. -/
def Stp (n lp : Nat) (rows : List (List Nat)) (Z : Nat → Nat → Prop) (a b : Nat × Nat) : Prop := Z a.1 a.2 ∧ Z b.1 b.2 ∧ b.1 ∈ rows.getD a.1 [] ∧ b.2 = nx lp n a.2
/-- What a greatest fixpoint of nodes at places has. -/
structure ZOk (bits : Int → Nat → Bool) (n lp : Nat) (f : List Nd) (L : List Cov) (rows : List (List Nat)) (Z : Nat → Nat → Prop) : Prop where
  pl : ∀ q k, Z q k → k < n
  nd : ∀ q k, Z q k → ∃ c, L[q]? = some c ∧ Reads bits c.1 c.2.1 k
  any : ∀ q k, Z q k → ∃ b, Stp n lp rows Z (q, k) b
  met : ∀ q k, Z q k → ∀ u, u < f.length → opAt f u = 9 → ∃ b d : Nat × Nat, Stp n lp rows Z (q, k) b ∧ LeadP (Stp n lp rows Z) b d ∧ ∃ c, L[d.1]? = some c ∧ owesNot c u
theorem now_len (hN : isN f = true) (hT : TabOk f L rows init) {q : Nat} {c : Cov} (hq : L[q]? = some c) : c.2.2.1.length = f.length ∧ c.2.2.2.length = f.length := by
  obtain ⟨ps, h1, h2⟩ := hT.cov c (List.mem_of_getElem? hq)
  obtain ⟨_, _, a, b⟩ := (coversL_rises (kidsOk_of hN) h1).2 c h2
  exact ⟨a, b⟩
theorem next_lt (hN : isN f = true) (hT : TabOk f L rows init) {q : Nat} {c : Cov} (hq : L[q]? = some c) : ∀ x ∈ onL c.2.2.1, x < f.length := fun x hx => by
  unfold onL at hx
  have := List.mem_range.1 (List.mem_filter.1 hx).1
  rw [(now_len hN hT hq).1] at this; exact this
/-- What is read along a way that lasts holds. -/
theorem tab_sound (hN : isN f = true) (hlp : lp < n) (hT : TabOk f L rows init) {Z : Nat → Nat → Prop} (hZ : ZOk bits n lp f L rows Z) :
    ∀ (j : Nat) (q k : Nat) (c : Cov), Z q k → L[q]? = some c → c.2.2.2.getD j false = true → holdsAt bits n lp f j k = true := by
  have hk := kidsOk_of hN
  -- what is left for the next place is there
  have hnext : ∀ {q k : Nat} {c : Cov} {b : Nat × Nat}, L[q]? = some c → Stp n lp rows Z (q, k) b → ∃ c', L[b.1]? = some c' ∧ ∀ x, c.2.2.1.getD x false = true → c'.2.2.2.getD x false = true := by
    intro q k c b hq hs
    obtain ⟨c', hc', hb⟩ := hT.row_ok q c hq b.1 hs.2.2.1
    exact ⟨c', hb, fun x hx => ((coversL_rises hk (next_lt hN hT hq)).2 c' hc').2.1 x (onL_mem.2 hx)⟩
  intro j
  induction j using Nat.strongRecOn with
  | _ j ih =>
    intro q k c hz hq hj
    have hkn := hZ.pl q k hz
    obtain ⟨ps, hp1, hp2⟩ := hT.cov c (List.mem_of_getElem? hq)
    have hlen := now_len hN hT hq
    have hjl : j < f.length := by
      rw [← hlen.2]
      rw [List.getD_eq_getElem?_getD] at hj
      by_cases h : j < c.2.2.2.length
      · exact h
      · rw [List.getElem?_eq_none (by omega)] at hj; cases hj
    have hA := ask_eq (bits := bits) hN hlp hjl hkn
    obtain ⟨q2, q1⟩ := hk j hjl
    have hO := covers_obl hN hp1 hp2 j hj
    obtain ⟨c0, hc0, hrd⟩ := hZ.nd q k hz
    rw [hq] at hc0
    cases hc0
    by_cases h9 : opAt f j = 9
    · -- an until
      obtain ⟨a, b⟩ := q2 (.inr (.inr (.inl h9)))
      obtain ⟨hr1, hj1⟩ := right_until hN hjl h9
      obtain ⟨s, d, hs, hl, cd, hcd, how⟩ := hZ.met q k hz j hjl h9
      have hgo : ∀ {x d : Nat × Nat}, LeadP (Stp n lp rows Z) x d → (∃ c, L[d.1]? = some c ∧ owesNot c j) → Z x.1 x.2 → ∀ c, L[x.1]? = some c → c.2.2.2.getD j false = true → holdsAt bits n lp f j x.2 = true := by
        intro x d hl
        induction hl with
        | refl x =>
          rintro ⟨c', hc', how⟩ hz' c hc hj'
          rw [hc] at hc'; cases hc'
          have h1 := how hj'
          rw [(ask_eq (bits := bits) hN hlp hjl (hZ.pl _ _ hz')).until_ h9, ih _ b x.1 x.2 _ hz' hc (by rw [hr1]; exact h1)]; rfl
        | @step x y d r _ ihl =>
          intro hd hz' c hc hj'
          obtain ⟨ps', hp1', hp2'⟩ := hT.cov c (List.mem_of_getElem? hc)
          have hO' := covers_obl hN hp1' hp2' j hj'
          rw [(ask_eq (bits := bits) hN hlp hjl (hZ.pl _ _ hz')).until_ h9]
          have hh : c.2.2.2.getD (rightOf f j) false = true ∨ (c.2.2.2.getD (leftOf f j) false = true ∧ c.2.2.1.getD j false = true) := by
            rcases hO' with e | ⟨e, _⟩ | ⟨e, _⟩ | ⟨e, _⟩ | ⟨e, _⟩ | ⟨e, _⟩ | ⟨_, h⟩ | ⟨e, _⟩ <;> first | exact h | (rw [h9] at e; cases e)
          rcases hh with h | ⟨h1, h2⟩
          · rw [ih _ b x.1 x.2 c hz' hc h]; rfl
          · obtain ⟨c', hc', hn⟩ := hnext (q := x.1) (k := x.2) hc r
            have := ihl hd r.2.1 c' hc' (hn j h2)
            rw [r.2.2.2] at this
            rw [ih _ a x.1 x.2 c hz' hc h1, this]; simp
      exact hgo (.step hs hl) ⟨cd, hcd, how⟩ hz c hq hj
    by_cases h10 : opAt f j = 10
    · -- a release
      obtain ⟨a, b⟩ := q2 (.inr (.inr (.inr h10)))
      have := Classical.propDecidable
      refine rel_most hN hlp hjl h10 (u := fun i => decide (∃ q c, Z q i ∧ L[q]? = some c ∧ c.2.2.2.getD j false = true)) (fun i hi hu => ?_) hkn (decide_eq_true ⟨q, c, hz, hq, hj⟩)
      obtain ⟨q', c', hz', hq', hj'⟩ := of_decide_eq_true hu
      obtain ⟨ps', hp1', hp2'⟩ := hT.cov c' (List.mem_of_getElem? hq')
      have hO' := covers_obl hN hp1' hp2' j hj'
      have hh : (c'.2.2.2.getD (leftOf f j) false = true ∧ c'.2.2.2.getD (rightOf f j) false = true) ∨ (c'.2.2.2.getD (rightOf f j) false = true ∧ c'.2.2.1.getD j false = true) := by
        rcases hO' with e | ⟨e, _⟩ | ⟨e, _⟩ | ⟨e, _⟩ | ⟨e, _⟩ | ⟨e, _⟩ | ⟨e, _⟩ | ⟨_, h⟩ <;> first | exact h | (rw [h10] at e; cases e)
      rcases hh with ⟨h1, h2⟩ | ⟨h1, h2⟩
      · rw [ih _ b q' i c' hz' hq' h2, ih _ a q' i c' hz' hq' h1]; rfl
      · obtain ⟨s, hs⟩ := hZ.any q' i hz'
        obtain ⟨c2, hc2, hn⟩ := hnext (k := i) hq' hs
        have hU : decide (∃ q c, Z q (nx lp n i) ∧ L[q]? = some c ∧ c.2.2.2.getD j false = true) = true := decide_eq_true ⟨s.1, c2, by rw [← hs.2.2.2]; exact hs.2.1, hc2, hn j h2⟩
        rw [ih _ b q' i c' hz' hq' h1, hU]; simp
    rcases hO with e | ⟨e, h⟩ | ⟨e, h⟩ | ⟨e, h, k'⟩ | ⟨e, h⟩ | ⟨e, h⟩ | ⟨e, h⟩ | ⟨e, h⟩
    · exact hA.tru e
    · rw [hA.prop e]; exact hrd.1 _ h
    · rw [hA.not_ e, hrd.2 _ h]; rfl
    · obtain ⟨a, b⟩ := q2 (.inl e); rw [hA.and_ e, ih _ a q k c hz hq h, ih _ b q k c hz hq k']; rfl
    · obtain ⟨a, b⟩ := q2 (.inr (.inl e))
      rw [hA.or_ e]
      rcases h with h | h
      · rw [ih _ a q k c hz hq h]; rfl
      · rw [ih _ b q k c hz hq h, Bool.or_true]
    · obtain ⟨s, hs⟩ := hZ.any q k hz
      obtain ⟨c2, hc2, hn⟩ := hnext (k := k) hq hs
      rw [hA.next e, ← show s.2 = nx lp n k from hs.2.2.2]
      exact ih _ (q1 e) s.1 s.2 c2 hs.2.1 hc2 (hn _ h)
    · exact absurd e h9
    · exact absurd e h10
/-- The nodes that fit where they stand, and are prompt. -/
def FitZ (bits : Int → Nat → Bool) (n lp : Nat) (f : List Nd) (L : List Cov) (q k : Nat) : Prop := k < n ∧ ∃ c, L[q]? = some c ∧ FitsP bits n lp f k c ∧ ∀ j, c.2.2.2.getD j false = true → holdsAt bits n lp f j k = true
theorem fit_next (hN : isN f = true) (hlp : lp < n) (hT : TabOk f L rows init) {q k : Nat} (h : FitZ bits n lp f L q k) : ∃ b, Stp n lp rows (FitZ bits n lp f L) (q, k) b := by
  obtain ⟨hk, c, hq, hf, hh⟩ := h
  obtain ⟨c', hc', hf'⟩ := covers_prompt (bits := bits) hN hlp (nx_lt hlp (i := k)) (next_lt hN hT hq) (fun x hx => hf.1.2 x (onL_mem.1 hx))
  obtain ⟨q', hq', hL⟩ := hT.row_all q c hq c' hc'
  exact ⟨(q', nx lp n k), ⟨hk, c, hq, hf, hh⟩, ⟨nx_lt hlp, c', hL, hf', (covers_sound hN hlp (nx_lt hlp) (next_lt hN hT hq) hc' hf'.1).1⟩, hq', rfl⟩
theorem fit_zok (hN : isN f = true) (hlp : lp < n) (hT : TabOk f L rows init) : ZOk bits n lp f L rows (FitZ bits n lp f L) := by
  refine ⟨fun q k h => h.1, fun q k ⟨_, c, hq, hf, _⟩ => ⟨c, hq, hf.1.1⟩, fun q k h => fit_next hN hlp hT h, fun q k h u hu ho => ?_⟩
  have := Classical.propDecidable
  obtain ⟨hr1, _⟩ := right_until hN hu ho
  have key : ∀ q k, FitZ bits n lp f L q k → ∃ d : Nat × Nat, LeadP (Stp n lp rows (FitZ bits n lp f L)) (q, k) d ∧ ∃ c, L[d.1]? = some c ∧ owesNot c u := by
    intro q k h
    by_cases hh : holdsAt bits n lp f u k = true
    · have := until_least (bits := bits) hN hlp hu ho (u := fun i => decide (∀ q, FitZ bits n lp f L q i → ∃ d : Nat × Nat, LeadP (Stp n lp rows (FitZ bits n lp f L)) (q, i) d ∧ ∃ c, L[d.1]? = some c ∧ owesNot c u)) (fun i hi hor => by
        refine decide_eq_true (fun q hz => ?_)
        rw [Bool.or_eq_true, Bool.and_eq_true] at hor
        rcases hor with hR | ⟨_, hX⟩
        · obtain ⟨_, c, hq, hf, _⟩ := hz
          exact ⟨(q, i), .refl _, c, hq, fun hnow => by have := hf.2 u ho hnow hR; rwa [hr1] at this⟩
        · obtain ⟨b, hb⟩ := fit_next hN hlp hT hz
          obtain ⟨d, hd, hc⟩ := of_decide_eq_true hX b.1 (by rw [← show b.2 = nx lp n i from hb.2.2.2]; exact hb.2.1)
          rw [← show b.2 = nx lp n i from hb.2.2.2] at hd
          exact ⟨d, .step hb hd, hc⟩) h.1 hh
      exact of_decide_eq_true this q h
    · obtain ⟨_, c, hq, _, hn⟩ := id h
      exact ⟨(q, k), .refl _, c, hq, fun hnow => absurd (hn u hnow) hh⟩
  obtain ⟨b, hb⟩ := fit_next hN hlp hT h
  obtain ⟨d, hd, hc⟩ := key b.1 b.2 hb.2.1
  exact ⟨b, d, hb, hd, hc⟩
/-- A first node that fits where the word begins. -/
theorem tab_first (hN : isN f = true) (hlp : lp < n) (hT : TabOk f L rows init) (hf : 0 < f.length) (h : holdsAt bits n lp f (f.length - 1) 0 = true) : ∃ q ∈ init, FitZ bits n lp f L q 0 := by
  have hp : ∀ x ∈ [f.length - 1], x < f.length := fun x hx => by simp at hx; omega
  obtain ⟨c, hc, hfp⟩ := covers_prompt (bits := bits) hN hlp (i := 0) (by omega) hp (fun x hx => by simp at hx; rw [hx]; exact h)
  obtain ⟨q, hq, hL⟩ := hT.init_all c hc
  exact ⟨q, hq, by omega, c, hL, hfp, (covers_sound hN hlp (by omega) hp hc hfp.1).1⟩
theorem tab_root (hN : isN f = true) (hlp : lp < n) (hT : TabOk f L rows init) (hf : 0 < f.length) {Z : Nat → Nat → Prop} (hZ : ZOk bits n lp f L rows Z) {q : Nat} (hq : q ∈ init) (hz : Z q 0) : holdsAt bits n lp f (f.length - 1) 0 = true := by
  have hp : ∀ x ∈ [f.length - 1], x < f.length := fun x hx => by simp at hx; omega
  obtain ⟨c, hc, hL⟩ := hT.init_ok q hq
  exact tab_sound hN hlp hT hZ (f.length - 1) q 0 c hz hL (((coversL_rises (kidsOk_of hN) hp).2 c hc).2.1 _ (by simp))
end
end Go.Proofs.YtamhjgkigjpbhaaDoor

/- (XTbP) How the covers of a formula are numbered (layer 29); plain. -/
namespace Go.Proofs.YtamhjgkigjpbhaaDoor

/-- The numbers of covers. -/
def rowL (L cs : List Cov) : List Nat := cs.map (fun c => L.idxOf c)
/-- Go on with the covers that were not gone on with; none: there are too many. -/
def tabIt (f : List Nd) : Nat → List Cov → List (List Nat) → Option (List Cov × List (List Nat))
  | 0, _, _ => none
  | k + 1, L, rows =>
    if rows.length < L.length then
      if 256 < (onceC (coversL f (onL (L.getD rows.length (0, 0, [], [])).2.2.1)) L).length then none
      else tabIt f k (onceC (coversL f (onL (L.getD rows.length (0, 0, [], [])).2.2.1)) L) (rows ++ [rowL (onceC (coversL f (onL (L.getD rows.length (0, 0, [], [])).2.2.1)) L) (coversL f (onL (L.getD rows.length (0, 0, [], [])).2.2.1))])
    else some (L, rows)
def firstL (f : List Nd) : List Cov := coversL f [f.length - 1]
/-- The covers, with what each leads to. -/
def tabL (f : List Nd) : Option (List Cov × List (List Nat)) := if 256 < (firstL f).length then none else tabIt f 257 (firstL f) []
theorem onceC_pre (cs : List Cov) : ∀ L : List Cov, ∃ m, onceC cs L = L ++ m := by
  induction cs with
  | nil => intro L; exact ⟨[], by simp [onceC]⟩
  | cons c cs ih =>
    intro L
    obtain ⟨m, hm⟩ := ih (addC L c)
    show ∃ m, onceC cs (addC L c) = L ++ m
    rw [hm]
    unfold addC
    split
    · exact ⟨m, rfl⟩
    · exact ⟨[c] ++ m, by simp⟩
theorem idx_get {L : List Cov} {c : Cov} (h : c ∈ L) : L[L.idxOf c]? = some c := by
  have hl := List.idxOf_lt_length_of_mem h
  rw [List.getElem?_eq_getElem hl, List.getElem_idxOf]
/-- What is kept: what was gone on with leads where it should. -/
structure TabInv (f : List Nd) (L : List Cov) (rows : List (List Nat)) : Prop where
  nodup : L.Nodup
  le : rows.length ≤ L.length
  cov : ∀ c ∈ L, ∃ ps : List Nat, (∀ x ∈ ps, x < f.length) ∧ c ∈ coversL f ps
  row : ∀ q c, q < rows.length → L[q]? = some c → rows.getD q [] = rowL L (coversL f (onL c.2.2.1)) ∧ ∀ c' ∈ coversL f (onL c.2.2.1), c' ∈ L
  first : ∃ m, L = firstL f ++ m
theorem rowL_pre {L m cs : List Cov} (h : ∀ c ∈ cs, c ∈ L) : rowL (L ++ m) cs = rowL L cs :=
  List.map_congr_left (fun c hc => by rw [List.idxOf_append, if_pos (h c hc)])
theorem next_ltC {f : List Nd} (hN : isN f = true) {c : Cov} (h : ∃ ps : List Nat, (∀ x ∈ ps, x < f.length) ∧ c ∈ coversL f ps) : ∀ x ∈ onL c.2.2.1, x < f.length := fun x hx => by
  obtain ⟨ps, h1, h2⟩ := h
  obtain ⟨_, _, a, _⟩ := (coversL_rises (kidsOk_of hN) h1).2 c h2
  unfold onL at hx
  have := List.mem_range.1 (List.mem_filter.1 hx).1
  rw [a] at this; exact this
theorem TabInv.step {f : List Nd} (hN : isN f = true) {L : List Cov} {rows : List (List Nat)} (h : TabInv f L rows) (hlt : rows.length < L.length) :
    TabInv f (onceC (coversL f (onL (L.getD rows.length (0, 0, [], [])).2.2.1)) L) (rows ++ [rowL (onceC (coversL f (onL (L.getD rows.length (0, 0, [], [])).2.2.1)) L) (coversL f (onL (L.getD rows.length (0, 0, [], [])).2.2.1))]) := by
  have hg : L.getD rows.length (0, 0, [], []) = L[rows.length] := by simp [List.getD, hlt]
  rw [hg]
  have hcm := h.cov L[rows.length] (List.getElem_mem hlt)
  have hnx := next_ltC hN hcm
  generalize hcs : coversL f (onL L[rows.length].2.2.1) = cs
  obtain ⟨m, hm⟩ := onceC_pre cs L
  have hmem : ∀ c ∈ cs, c ∈ onceC cs L := fun c hc => (onceC_mem _ _ _).2 (.inr hc)
  refine ⟨onceC_nodup _ _ h.nodup, ?_, fun c hc => ?_, fun q c hq hc => ?_, ?_⟩
  · rw [hm, List.length_append, List.length_append, List.length_singleton]; omega
  · rcases (onceC_mem _ _ _).1 hc with hc | hc
    · exact h.cov c hc
    · exact ⟨_, hnx, by rw [hcs]; exact hc⟩
  · rw [List.length_append, List.length_singleton] at hq
    by_cases hql : q < rows.length
    · have hc' : L[q]? = some c := by
        rw [hm, List.getElem?_append_left (by omega)] at hc; exact hc
      obtain ⟨e1, e2⟩ := h.row q c hql hc'
      refine ⟨?_, fun c' hc'' => (onceC_mem _ _ _).2 (.inl (e2 c' hc''))⟩
      rw [List.getD_eq_getElem?_getD, List.getElem?_append_left hql, ← List.getD_eq_getElem?_getD, e1, hm, rowL_pre e2]
    · have hqe : q = rows.length := by omega
      subst hqe
      have hc' : c = L[rows.length] := by
        rw [hm, List.getElem?_append_left hlt, List.getElem?_eq_getElem hlt] at hc
        injection hc with hc; exact hc.symm
      subst hc'
      rw [hcs]
      refine ⟨?_, hmem⟩
      rw [List.getD_eq_getElem?_getD, List.getElem?_append_right (Nat.le_refl _)]; simp
  · obtain ⟨m0, hm0⟩ := h.first
    exact ⟨m0 ++ m, by rw [hm, hm0, List.append_assoc]⟩
theorem tabIt_inv {f : List Nd} (hN : isN f = true) : ∀ (k : Nat) (L : List Cov) (rows : List (List Nat)), TabInv f L rows → ∀ L' rows', tabIt f k L rows = some (L', rows') → TabInv f L' rows' ∧ rows'.length = L'.length
  | 0, _, _, _, _, _, h => by cases h
  | k + 1, L, rows, hi, L', rows', h => by
    unfold tabIt at h
    split at h
    · next hlt =>
      split at h
      · cases h
      · exact tabIt_inv hN k _ _ (hi.step hN hlt) L' rows' h
    · next hlt =>
      injection h with h
      injection h with h1 h2
      subst h1; subst h2
      exact ⟨hi, by have := hi.le; omega⟩
theorem firstL_inv {f : List Nd} (hN : isN f = true) (hf : 0 < f.length) : TabInv f (firstL f) [] := by
  have hp : ∀ x ∈ [f.length - 1], x < f.length := fun x hx => by simp at hx; omega
  exact ⟨(coversL_rises (kidsOk_of hN) hp).1, by simp, fun c hc => ⟨_, hp, hc⟩, fun q c hq => by simp at hq, ⟨[], by simp⟩⟩
/-- The numbers of those that come first: 0, 1, .. -/
theorem idx_range {L : List Cov} (h : L.Nodup) (m : List Cov) : rowL (L ++ m) L = List.range L.length := by
  rw [rowL_pre (fun c hc => hc)]
  refine List.ext_getElem (by simp [rowL]) (fun i h1 h2 => ?_)
  have hi : i < L.length := by simpa [rowL] using h1
  simp only [rowL, List.getElem_map, List.getElem_range]
  exact h.idxOf_getElem i hi
theorem tab_ok {f : List Nd} (hN : isN f = true) (hf : 0 < f.length) {L : List Cov} {rows : List (List Nat)} (h : tabL f = some (L, rows)) : TabOk f L rows (List.range (firstL f).length) := by
  unfold tabL at h
  split at h
  · cases h
  obtain ⟨hi, hl⟩ := tabIt_inv hN _ _ _ (firstL_inv hN hf) L rows h
  obtain ⟨m, hm⟩ := hi.first
  have hpre : ∀ q, q < (firstL f).length → L[q]? = (firstL f)[q]? := fun q hq => by rw [hm, List.getElem?_append_left hq]
  refine ⟨hl, fun c hc => ?_, fun q hq => ?_, fun q c hc c' hc' => ?_, fun q c hc q' hq' => ?_, hi.cov⟩
  · obtain ⟨q, hq, e⟩ := List.mem_iff_getElem.1 (show c ∈ firstL f from hc)
    exact ⟨q, List.mem_range.2 hq, by rw [hpre q hq, List.getElem?_eq_getElem hq, e]⟩
  · have hq' := List.mem_range.1 hq
    exact ⟨(firstL f)[q], List.getElem_mem hq', by rw [hpre q hq', List.getElem?_eq_getElem hq']⟩
  · have hql := (List.getElem?_eq_some_iff.1 hc).1
    obtain ⟨e1, e2⟩ := hi.row q c (by omega) hc
    refine ⟨L.idxOf c', ?_, idx_get (e2 c' hc')⟩
    rw [e1]; exact List.mem_map.2 ⟨c', hc', rfl⟩
  · have hql := (List.getElem?_eq_some_iff.1 hc).1
    obtain ⟨e1, e2⟩ := hi.row q c (by omega) hc
    rw [e1] at hq'
    obtain ⟨c', hc', rfl⟩ := List.mem_map.1 hq'
    exact ⟨c', hc', idx_get (e2 c' hc')⟩
end Go.Proofs.YtamhjgkigjpbhaaDoor

/- (XAuP) Automata with several sets, and what they take: as the document has it, by a greatest fixpoint over the nodes at a word's places; plain. -/
namespace Go.Proofs.YtamhjgkigjpbhaaDoor

/-- A node of an automaton. -/
structure ANd where
  need : Nat
  ban : Nat
  inn : Nat
  to : List Int
def ANd.none : ANd := ⟨0, 0, 0, []⟩
/-- An automaton. -/
structure Aut where
  sets : Int
  init : List Int
  nodes : List ANd
/-- Does a node read a set? -/
def rdsB (x : ANd) (S : Nat) : Bool := decide (x.need &&& S = x.need) && decide (x.ban &&& S = 0)
/-- All that is led to is there. -/
def Aut.Ok (a : Aut) : Prop := (∀ i ∈ a.init, isNd a.nodes.length i = true) ∧ ∀ x ∈ a.nodes, ∀ t ∈ x.to, isNd a.nodes.length t = true
def Aut.at (a : Aut) (q : Nat) : ANd := a.nodes.getD q ANd.none
/-- The edges of a node at a place: to nodes at the next one. -/
def prodR (a : Aut) (W : List Nat) (lp q k : Nat) : List Nd :=
  if rdsB (a.at q) (W.getD k 0) = true then ((a.at q).to.filter (fun t => rdsB (a.at t.toNat) (W.getD (nx lp W.length k) 0))).map (fun t => ⟨t * (W.length : Int) + ((nx lp W.length k : Nat) : Int), 0⟩) else []
/-- The graph of the nodes at the places. -/
def prodE (a : Aut) (W : List Nat) (lp : Nat) : List (List Nd) := (List.range (a.nodes.length * W.length)).map (fun m => prodR a W lp (m / W.length) (m % W.length))
/-- What is to be met again and again; n: how many of the graph's nodes stand for one. -/
def asksA (a : Aut) (n : Nat) : List (Nat → Bool) := (fun _ => true) :: (List.range a.sets.toNat).map (fun i m => (a.at (m / n)).inn.testBit i)
/-- Is a word taken, by a set of nodes at places? -/
def takesZ (a : Aut) (W : List Nat) (z : List Bool) : Prop := ∃ q : Nat, (q : Int) ∈ a.init ∧ rdsB (a.at q) (W.getD 0 0) = true ∧ z.getD (q * W.length) false = true

section
variable {a : Aut} {W : List Nat} {lp : Nat}
theorem prodE_len (a : Aut) (W : List Nat) (lp : Nat) : (prodE a W lp).length = a.nodes.length * W.length := by simp [prodE]
theorem idx_lt {q k N n : Nat} (hq : q < N) (hk : k < n) : q * n + k < N * n := by
  have : (q + 1) * n ≤ N * n := Nat.mul_le_mul_right _ hq
  rw [Nat.succ_mul] at this; omega
theorem idx_div {q k n : Nat} (hk : k < n) : (q * n + k) / n = q ∧ (q * n + k) % n = k := by
  constructor
  · rw [Nat.mul_comm, Nat.mul_add_div (by omega), Nat.div_eq_of_lt hk, Nat.add_zero]
  · rw [Nat.mul_comm, Nat.mul_add_mod, Nat.mod_eq_of_lt hk]
theorem prodE_at {q k : Nat} (hq : q < a.nodes.length) (hk : k < W.length) : (prodE a W lp).getD (q * W.length + k) [] = prodR a W lp q k := by
  have h := idx_lt hq hk
  obtain ⟨h1, h2⟩ := idx_div (q := q) hk
  simp [prodE, List.getD, h, h1, h2]
/-- An edge of the graph. -/
theorem ed_prod (hA : a.Ok) (hlp : lp < W.length) {z : List Bool} {q k j : Nat} (hq : q < a.nodes.length) (hk : k < W.length) (hz : z.length = a.nodes.length * W.length) :
    Ed (prodE a W lp) z (q * W.length + k) j ↔ ∃ q' : Nat, q' < a.nodes.length ∧ j = q' * W.length + nx lp W.length k ∧ z.getD (q * W.length + k) false = true ∧ z.getD j false = true ∧ (q' : Int) ∈ (a.at q).to ∧
      rdsB (a.at q) (W.getD k 0) = true ∧ rdsB (a.at q') (W.getD (nx lp W.length k) 0) = true := by
  have hix := idx_lt hq hk
  have hnx : nx lp W.length k < W.length := nx_lt hlp
  unfold Ed
  rw [prodE_len, prodE_at hq hk, hz]
  constructor
  · rintro ⟨_, _, h3, h4, h5⟩
    unfold prodR at h5
    split at h5
    · next hr =>
      simp only [tgts, List.mem_map] at h5
      obtain ⟨e, ⟨t, ht, rfl⟩, hj⟩ := h5
      obtain ⟨ht1, ht2⟩ := List.mem_filter.1 ht
      have hn : a.at q ∈ a.nodes := by
        unfold Aut.at; rw [List.getD_eq_getElem?_getD, List.getElem?_eq_getElem hq]; exact List.getElem_mem hq
      obtain ⟨q', rfl, hq'⟩ := isNd_nat (hA.2 _ hn t ht1)
      dsimp only at hj
      rw [Int.toNat_natCast] at ht2
      refine ⟨q', hq', ?_, h3, h4, ht1, hr, ht2⟩
      have : ((q' * W.length + nx lp W.length k : Nat) : Int) = (j : Int) := by rw [← hj]; simp
      omega
    · simp [tgts] at h5
  · rintro ⟨q', hq', rfl, h3, h4, h5, h6, h7⟩
    refine ⟨hix, idx_lt hq' hnx, h3, h4, ?_⟩
    unfold prodR
    rw [if_pos h6]
    simp only [tgts, List.mem_map]
    refine ⟨⟨(q' : Int) * (W.length : Int) + ((nx lp W.length k : Nat) : Int), 0⟩, ⟨(q' : Int), List.mem_filter.2 ⟨h5, by rw [Int.toNat_natCast]; exact h7⟩, rfl⟩, by simp⟩
end
end Go.Proofs.YtamhjgkigjpbhaaDoor

/- (XTbG) The automaton of a formula takes just the words that satisfy it: over the document's greatest fixpoint; plain. -/
namespace Go.Proofs.YtamhjgkigjpbhaaDoor

/-- Which propositions are there. -/
def bitsW (W : List Nat) (p : Int) (k : Nat) : Bool := (W.getD k 0).testBit p.toNat
theorem and_needR {S need : Nat} : need &&& S = need ↔ ∀ p : Nat, need.testBit p = true → S.testBit p = true := by
  constructor
  · intro h p hp
    have := congrArg (fun x => x.testBit p) h
    simp only [Nat.testBit_and, hp, Bool.true_and] at this
    exact this
  · intro h
    apply Nat.eq_of_testBit_eq
    intro p
    rw [Nat.testBit_and]
    cases hp : need.testBit p
    · rfl
    · rw [h p hp]; rfl
theorem and_banR {S ban : Nat} : ban &&& S = 0 ↔ ∀ p : Nat, ban.testBit p = true → S.testBit p = false := by
  constructor
  · intro h p hp
    have := congrArg (fun x => x.testBit p) h
    simp only [Nat.testBit_and, hp, Bool.true_and, Nat.zero_testBit] at this
    exact this
  · intro h
    apply Nat.eq_of_testBit_eq
    intro p
    rw [Nat.testBit_and, Nat.zero_testBit]
    cases hp : ban.testBit p
    · rfl
    · rw [h p hp]; rfl
theorem rds_reads {W : List Nat} {x : ANd} {k : Nat} : rdsB x (W.getD k 0) = true ↔ Reads (bitsW W) x.need x.ban k := by
  unfold rdsB Reads bitsW
  rw [Bool.and_eq_true, decide_eq_true_eq, decide_eq_true_eq, and_needR, and_banR]
  simp only [Int.toNat_natCast]
/-- Which untils are not owed, bit by bit. -/
theorem meets_bit (now : List Int) (s : Nat) : ∀ l : List Int, (meetsA now l).2.testBit s = (decide (s < 64 ∧ s < l.length) && metB now (l.getD s 0)) := by
  refine snoc_ind (by simp [meetsA]) (fun l a ih => ?_)
  rw [meetsA_snoc, meetsS, meetsA_len]
  dsimp only
  have hg : s < l.length → (l ++ [a]).getD s 0 = l.getD s 0 := fun h => by
    rw [List.getD_eq_getElem?_getD, List.getElem?_append_left h, ← List.getD_eq_getElem?_getD]
  have hg2 : s = l.length → (l ++ [a]).getD s 0 = a := fun h => by
    subst h
    rw [List.getD_eq_getElem?_getD, List.getElem?_append_right (Nat.le_refl _)]; simp
  by_cases h1 : s < l.length
  · rw [hg h1]
    have hne : l.length ≠ s := by omega
    have e : decide (s < 64 ∧ s < (l ++ [a]).length) = decide (s < 64 ∧ s < l.length) := by
      rw [List.length_append, List.length_singleton]
      exact decide_eq_decide.2 ⟨fun h => ⟨h.1, h1⟩, fun h => ⟨h.1, by omega⟩⟩
    rw [e, ← ih]
    split
    · rw [Nat.testBit_or, Nat.testBit_two_pow]; simp [hne]
    · rfl
  · have hno : (meetsA now l).2.testBit s = false := by rw [ih, decide_eq_false (by omega), Bool.false_and]
    by_cases h2 : s = l.length
    · rw [hg2 h2]
      subst h2
      rw [List.length_append, List.length_singleton]
      by_cases h3 : l.length < 64
      · have ed : decide (l.length < 64 ∧ l.length < l.length + 1) = true := by simp [h3]
        rw [ed]
        cases hm : metB now a
        · rw [if_neg (by simp)]; rw [hno]; rfl
        · rw [if_pos (by simp [h3])]; rw [Nat.testBit_or, Nat.testBit_two_pow]; simp
      · rw [if_neg (by simp [h3]), hno, decide_eq_false (by omega), Bool.false_and]
    · have e : decide (s < 64 ∧ s < (l ++ [a]).length) = false := by
        rw [List.length_append, List.length_singleton]
        exact decide_eq_false (by omega)
      rw [e, Bool.false_and]
      split
      · rw [Nat.testBit_or, hno, Nat.testBit_two_pow]; simp; omega
      · exact hno
theorem utl_all {f : List Nd} : ∀ {i j : Nat} (_ : j < f.length), opAt f j = 9 → ((i + j : Nat) : Int) ∈ utl i f := by
  induction f with
  | nil => intro i j hj; simp at hj
  | cons x r ih =>
    intro i j hj ho
    unfold utl
    match j, hj, ho with
    | 0, hj, ho =>
      have : x.op = 9 := by simpa [opAt, List.getD] using ho
      rw [if_pos this]; simp
    | j + 1, hj, ho =>
      have ho' : opAt r j = 9 := by simpa [opAt, List.getD] using ho
      have := ih (i := i + 1) (j := j) (by simpa using hj) ho'
      rw [show i + 1 + j = i + (j + 1) by omega] at this
      split
      · exact List.mem_cons_of_mem _ this
      · exact this
/-- The automaton. -/
def tabA (f : List Nd) (L : List Cov) (rows : List (List Nat)) (init : List Nat) : Aut :=
  ⟨((utl 0 f).length : Int), natI init, (List.range L.length).map (fun q => ⟨(L.getD q (0, 0, [], [])).1, (L.getD q (0, 0, [], [])).2.1, meetsN f (natI (onL (L.getD q (0, 0, [], [])).2.2.2)), natI (rows.getD q [])⟩)⟩
section
variable {f : List Nd} {L : List Cov} {rows : List (List Nat)} {init : List Nat}
theorem tabA_at {q : Nat} {c : Cov} (h : L[q]? = some c) : (tabA f L rows init).at q = ⟨c.1, c.2.1, meetsN f (natI (onL c.2.2.2)), natI (rows.getD q [])⟩ := by
  have hq := (List.getElem?_eq_some_iff.1 h).1
  have hc : L[q] = c := (List.getElem?_eq_some_iff.1 h).2
  simp [tabA, Aut.at, List.getD, hq, hc]
theorem tabA_len : (tabA f L rows init).nodes.length = L.length := by simp [tabA]
theorem natI_mem {l : List Nat} {x : Nat} : (x : Int) ∈ natI l ↔ x ∈ l := by
  unfold natI
  rw [List.mem_map]
  exact ⟨fun ⟨y, h, e⟩ => by rwa [show x = y by omega], fun h => ⟨x, h, rfl⟩⟩
theorem tabA_ok (hT : TabOk f L rows init) : (tabA f L rows init).Ok := by
  constructor
  · intro i hi
    obtain ⟨q, hq, rfl⟩ := List.mem_map.1 hi
    obtain ⟨c, _, hc⟩ := hT.init_ok q hq
    rw [tabA_len]
    exact isNd_iff.2 ⟨by omega, by have := (List.getElem?_eq_some_iff.1 hc).1; omega⟩
  · intro x hx t ht
    simp only [tabA, List.mem_map, List.mem_range] at hx
    obtain ⟨q, hq, rfl⟩ := hx
    obtain ⟨q', hq', rfl⟩ := List.mem_map.1 ht
    obtain ⟨c', _, hc'⟩ := hT.row_ok q L[q] (List.getElem?_eq_getElem hq) q' hq'
    rw [tabA_len]
    exact isNd_iff.2 ⟨by omega, by have := (List.getElem?_eq_some_iff.1 hc').1; omega⟩
/-- A node is of the set of an until just where its cover does not leave it owing. -/
theorem tab_set (hN : isN f = true) {q s u : Nat} {c : Cov} (h : L[q]? = some c) (hs : (utl 0 f)[s]? = some (u : Int)) (hu : u < f.length) (h9 : opAt f u = 9) (h64 : (utl 0 f).length ≤ 64) : (((tabA f L rows init).at q).inn.testBit s = true) ↔ owesNot c u := by
  have hsl := (List.getElem?_eq_some_iff.1 hs).1
  rw [tabA_at h]
  show (meetsN f (natI (onL c.2.2.2))).testBit s = true ↔ _
  unfold meetsN
  rw [if_pos hN, meets_bit, Bool.and_eq_true, decide_eq_true_eq]
  have hg : (utl 0 f).getD s 0 = (u : Int) := by
    rw [List.getD_eq_getElem?_getD, hs, Option.getD_some]
  obtain ⟨_, h1⟩ := right_until hN hu h9
  rw [hg]
  unfold metB owesNot
  rw [show ((u : Int) - 1) = ((u - 1 : Nat) : Int) by omega]
  have key : ∀ x : Nat, (natI (onL c.2.2.2)).any ((x : Int) == ·) = c.2.2.2.getD x false := fun x => by
    rw [Bool.eq_iff_iff, ← onL_mem, ← natI_mem, List.any_eq_true]
    exact ⟨fun ⟨y, hy, e⟩ => by rw [beq_iff_eq.1 e]; exact hy, fun hx => ⟨_, hx, by simp⟩⟩
  rw [key, key, Bool.or_eq_true, Bool.not_eq_true']
  constructor
  · rintro ⟨_, h | h⟩ h2
    · rw [h] at h2; cases h2
    · exact h
  · intro h2
    refine ⟨⟨by omega, hsl⟩, ?_⟩
    cases hc : c.2.2.2.getD u false
    · exact .inl rfl
    · exact .inr (h2 hc)
/-- Each set is an until's, and each until has one. -/
theorem set_until {s : Nat} (hs : s < (utl 0 f).length) : ∃ u : Nat, (utl 0 f)[s]? = some (u : Int) ∧ u < f.length ∧ opAt f u = 9 := by
  obtain ⟨u, hu, e, h9⟩ := utl_mem (List.getElem_mem hs)
  exact ⟨u, by rw [List.getElem?_eq_getElem hs, e, Nat.zero_add], hu, by simpa [opAt, List.getD, hu] using h9⟩
theorem until_set {u : Nat} (hu : u < f.length) (ho : opAt f u = 9) : ∃ s, s < (utl 0 f).length ∧ (utl 0 f)[s]? = some (u : Int) := by
  have hm := utl_all (i := 0) hu ho
  rw [Nat.zero_add] at hm
  obtain ⟨s, hs, e⟩ := List.mem_iff_getElem.1 hm
  exact ⟨s, hs, by rw [List.getElem?_eq_getElem hs, e]⟩
/-- THE AUTOMATON OF A FORMULA TAKES JUST THE WORDS THAT SATISFY IT. -/
theorem tab_takes (hN : isN f = true) (hT : TabOk f L rows init) (h64 : (utl 0 f).length ≤ 64) (hf : 0 < f.length) {W : List Nat} {lp : Nat} (hlp : lp < W.length) {z : List Bool} (hz : Gfp (prodE (tabA f L rows init) W lp) (asksA (tabA f L rows init) W.length) z) :
    takesZ (tabA f L rows init) W z ↔ holdsAt (bitsW W) W.length lp f (f.length - 1) 0 = true := by
  obtain ⟨hzl, hfix, hgr⟩ := hz
  have hA := tabA_ok hT
  have hNl : (tabA f L rows init).nodes.length = L.length := tabA_len
  have hlen : (prodE (tabA f L rows init) W lp).length = L.length * W.length := by rw [prodE_len, hNl]
  have hto : ∀ {q : Nat} {c : Cov}, L[q]? = some c → ((tabA f L rows init).at q).to = natI (rows.getD q []) := fun h => by rw [tabA_at h]
  have hnb : ∀ {q : Nat} {c : Cov}, L[q]? = some c → ((tabA f L rows init).at q).need = c.1 ∧ ((tabA f L rows init).at q).ban = c.2.1 := fun h => by rw [tabA_at h]; exact ⟨rfl, rfl⟩
  have hsets : (tabA f L rows init).sets.toNat = (utl 0 f).length := by simp [tabA]
  constructor
  · rintro ⟨q0, hq0, _, hz0⟩
    rw [hlen] at hzl
    have hq0' : q0 ∈ init := natI_mem.1 hq0
    obtain ⟨c0, _, hc0⟩ := hT.init_ok q0 hq0'
    have hq0l := (List.getElem?_eq_some_iff.1 hc0).1
    -- an edge as a step
    have step : ∀ {q k j : Nat}, q < L.length → k < W.length → Ed (prodE (tabA f L rows init) W lp) z (q * W.length + k) j →
        ∃ q', q' < L.length ∧ j = q' * W.length + nx lp W.length k ∧ Stp W.length lp rows (fun q k => q < L.length ∧ k < W.length ∧ z.getD (q * W.length + k) false = true) (q, k) (q', nx lp W.length k) ∧ Reads (bitsW W) ((tabA f L rows init).at q).need ((tabA f L rows init).at q).ban k := by
      intro q k j hq hk he
      obtain ⟨q', h1, h2, h3, h4, h5, h6, _⟩ := (ed_prod hA hlp (by rw [hNl]; exact hq) hk (by rw [hNl]; exact hzl)).1 he
      rw [hNl] at h1
      rw [hto (List.getElem?_eq_getElem hq)] at h5
      exact ⟨q', h1, h2, ⟨⟨hq, hk, h3⟩, ⟨h1, nx_lt hlp, by rw [← h2]; exact h4⟩, natI_mem.1 h5, rfl⟩, rds_reads.1 h6⟩
    have way : ∀ {i j : Nat}, Lead (Ed (prodE (tabA f L rows init) W lp) z) i j → ∀ q k, q < L.length → k < W.length → i = q * W.length + k →
        ∃ q' k', q' < L.length ∧ k' < W.length ∧ j = q' * W.length + k' ∧ LeadP (Stp W.length lp rows (fun q k => q < L.length ∧ k < W.length ∧ z.getD (q * W.length + k) false = true)) (q, k) (q', k') := by
      intro i j hl
      induction hl with
      | refl i => intro q k hq hk e; exact ⟨q, k, hq, hk, e, .refl _⟩
      | step r _ ih =>
        intro q k hq hk e
        subst e
        obtain ⟨q', h1, h2, h3, _⟩ := step hq hk r
        obtain ⟨q2, k2, g1, g2, g3, g4⟩ := ih q' (nx lp W.length k) h1 (nx_lt hlp) h2
        exact ⟨q2, k2, g1, g2, g3, .step h3 g4⟩
    have ask : ∀ {p : Nat → Bool}, p ∈ asksA (tabA f L rows init) W.length → ∀ {q k : Nat}, q < L.length → k < W.length → z.getD (q * W.length + k) false = true →
        ∃ j d, Ed (prodE (tabA f L rows init) W lp) z (q * W.length + k) j ∧ Lead (Ed (prodE (tabA f L rows init) W lp) z) j d ∧ p d = true := by
      intro p hp q k hq hk hzq
      have hst := hfix p hp (q * W.length + k) hzq
      obtain ⟨j, d, h1, h2, _, _, h5⟩ := (step_iff (by rw [hzl, hlen]) (by rw [hzl]; exact idx_lt hq hk)).1 hst
      exact ⟨j, d, h1, h2, h5⟩
    have htrue : (fun _ : Nat => true) ∈ asksA (tabA f L rows init) W.length := List.mem_cons_self ..
    refine tab_root (Z := fun q k => q < L.length ∧ k < W.length ∧ z.getD (q * W.length + k) false = true) hN hlp hT hf ⟨fun q k h => h.2.1, fun q k h => ?_, fun q k h => ?_, fun q k h u hu ho => ?_⟩ hq0' ⟨hq0l, by omega, by rw [Nat.add_zero]; exact hz0⟩
    · obtain ⟨hq, hk, hzq⟩ := h
      obtain ⟨j, d, h1, _, _⟩ := ask htrue hq hk hzq
      obtain ⟨q', _, _, _, hr⟩ := step hq hk h1
      obtain ⟨e1, e2⟩ := hnb (List.getElem?_eq_getElem hq)
      rw [e1, e2] at hr
      exact ⟨L[q], List.getElem?_eq_getElem hq, hr⟩
    · obtain ⟨hq, hk, hzq⟩ := h
      obtain ⟨j, d, h1, _, _⟩ := ask htrue hq hk hzq
      obtain ⟨q', _, _, hs, _⟩ := step hq hk h1
      exact ⟨_, hs⟩
    · obtain ⟨hq, hk, hzq⟩ := h
      obtain ⟨s, hs, hsu⟩ := until_set hu ho
      have hm : (fun m => ((tabA f L rows init).at (m / W.length)).inn.testBit s) ∈ asksA (tabA f L rows init) W.length := by
        refine List.mem_cons_of_mem _ (List.mem_map.2 ⟨s, ?_, rfl⟩)
        rw [hsets]; exact List.mem_range.2 hs
      obtain ⟨j, d, h1, h2, h3⟩ := ask hm hq hk hzq
      obtain ⟨q', g1, g2, g3, _⟩ := step hq hk h1
      obtain ⟨q2, k2, e1, e2, e3, e4⟩ := way h2 q' _ g1 (nx_lt hlp) g2
      subst e3
      rw [(idx_div e2).1] at h3
      exact ⟨_, _, g3, e4, L[q2], List.getElem?_eq_getElem e1, (tab_set hN (List.getElem?_eq_getElem e1) hsu hu ho h64).1 h3⟩
  · intro hh
    obtain ⟨q0, hq0, hz0⟩ := tab_first (bits := bitsW W) hN hlp hT hf hh
    have hZ := fit_zok (bits := bitsW W) hN hlp hT
    obtain ⟨y, hy⟩ : ∃ y : List Bool, y = (List.range (L.length * W.length)).map (fun m => @decide (FitZ (bitsW W) W.length lp f L (m / W.length) (m % W.length)) (Classical.propDecidable _)) := ⟨_, rfl⟩
    have hyl : y.length = L.length * W.length := by rw [hy]; simp
    have hyq : ∀ {q k : Nat}, q < L.length → k < W.length → (y.getD (q * W.length + k) false = true ↔ FitZ (bitsW W) W.length lp f L q k) := by
      intro q k hq hk
      have h := idx_lt hq hk
      obtain ⟨h1, h2⟩ := idx_div (q := q) hk
      rw [hy]
      simp [List.getD, h, h1, h2]
    have hql : ∀ {q k : Nat}, FitZ (bitsW W) W.length lp f L q k → q < L.length := fun ⟨_, c, hc, _⟩ => (List.getElem?_eq_some_iff.1 hc).1
    have hrd : ∀ {q k : Nat}, FitZ (bitsW W) W.length lp f L q k → rdsB ((tabA f L rows init).at q) (W.getD k 0) = true := fun ⟨_, c, hc, hf, _⟩ => by
      obtain ⟨e1, e2⟩ := hnb hc
      rw [rds_reads, e1, e2]; exact hf.1.1
    have edge : ∀ {x b : Nat × Nat}, Stp W.length lp rows (FitZ (bitsW W) W.length lp f L) x b → Ed (prodE (tabA f L rows init) W lp) y (x.1 * W.length + x.2) (b.1 * W.length + b.2) := by
      rintro ⟨q, k⟩ ⟨q', k'⟩ ⟨h1, h2, h3, h4⟩
      dsimp only at h1 h2 h3 h4 ⊢
      subst h4
      have hq := hql h1
      have hq' := hql h2
      refine (ed_prod hA hlp (by rw [hNl]; exact hq) h1.1 (by rw [hNl]; exact hyl)).2 ⟨q', by rw [hNl]; exact hq', rfl, (hyq hq h1.1).2 h1, (hyq hq' h2.1).2 h2, ?_, hrd h1, hrd h2⟩
      rw [hto (List.getElem?_eq_getElem hq)]
      exact natI_mem.2 h3
    have way : ∀ {x b : Nat × Nat}, LeadP (Stp W.length lp rows (FitZ (bitsW W) W.length lp f L)) x b → Lead (Ed (prodE (tabA f L rows init) W lp) y) (x.1 * W.length + x.2) (b.1 * W.length + b.2) := by
      intro x b hl
      induction hl with
      | refl x => exact .refl _
      | step r _ ih => exact .step (edge r) ih
    have hend : ∀ {x b : Nat × Nat}, FitZ (bitsW W) W.length lp f L x.1 x.2 → LeadP (Stp W.length lp rows (FitZ (bitsW W) W.length lp f L)) x b → FitZ (bitsW W) W.length lp f L b.1 b.2 := by
      intro x b hx hl
      induction hl with
      | refl x => exact hx
      | step r _ ih => exact ih r.2.1
    have hFix : Fixd (prodE (tabA f L rows init) W lp) (asksA (tabA f L rows init) W.length) y := by
      intro p hp i hi
      have hil : i < L.length * W.length := by rw [← hyl]; exact getD_lt hi
      have hn0 : 0 < W.length := by omega
      have hk : i % W.length < W.length := Nat.mod_lt _ hn0
      have hq : i / W.length < L.length := Nat.div_lt_of_lt_mul (by rw [Nat.mul_comm]; exact hil)
      have hie : i = i / W.length * W.length + i % W.length := by rw [Nat.mul_comm]; exact (Nat.div_add_mod _ _).symm
      rw [hie] at hi ⊢
      have hF := (hyq hq hk).1 hi
      rw [step_iff (by rw [hyl, hlen]) (by rw [hyl]; exact idx_lt hq hk)]
      rcases List.mem_cons.1 hp with rfl | hp
      · obtain ⟨b, hb⟩ := hZ.any _ _ hF
        have := edge hb
        exact ⟨_, _, this, .refl _, by rw [hyl]; exact idx_lt (hql hb.2.1) hb.2.1.1, (hyq (hql hb.2.1) hb.2.1.1).2 hb.2.1, rfl⟩
      · obtain ⟨s, hs, rfl⟩ := List.mem_map.1 hp
        rw [hsets] at hs
        obtain ⟨u, hsu, hu, ho⟩ := set_until (List.mem_range.1 hs)
        obtain ⟨b, d, hb, hd, c, hc, how⟩ := hZ.met _ _ hF u hu ho
        have hFd := hend hb.2.1 hd
        refine ⟨_, _, edge hb, way hd, by rw [hyl]; exact idx_lt (hql hFd) hFd.1, (hyq (hql hFd) hFd.1).2 hFd, ?_⟩
        show ((tabA f L rows init).at ((d.1 * W.length + d.2) / W.length)).inn.testBit s = true
        rw [(idx_div hFd.1).1]
        exact (tab_set hN hc hsu hu ho h64).2 how
    have hsub := hgr y (by rw [hyl, hlen]) hFix
    refine ⟨q0, natI_mem.2 hq0, hrd hz0, ?_⟩
    have := hsub (q0 * W.length + 0) ((hyq (hql hz0) (by omega)).2 hz0)
    rw [Nat.add_zero] at this
    exact this
end
end Go.Proofs.YtamhjgkigjpbhaaDoor
