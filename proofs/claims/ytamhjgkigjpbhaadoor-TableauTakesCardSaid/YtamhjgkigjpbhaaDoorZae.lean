/- Texts that stand one behind the other, in one file. -/
import Derived.Test.YtamhjgkigjpbhaaDoorMa
import Derived.Test.YtamhjgkigjpbhaaDoorZad

/- Texts of one kind, in one file. -/

/- (XSimpQ) Formulas, made smaller: what holds of what is left. Plain. -/
namespace Go.Proofs.YtamhjgkigjpbhaaDoor

/-- Of what is left: where its propositions and its nexts come from. -/
def From (l r : List Nd) : Prop := (∀ x ∈ r, x.op = 3 → x ∈ l) ∧ (∀ x ∈ r, x.op = 8 → ∃ y ∈ l, y.op = 8)
theorem From.refl (l : List Nd) : From l l := ⟨fun _ h _ => h, fun x h h8 => ⟨x, h, h8⟩⟩
theorem From.trans {l m r : List Nd} (h : From l m) (k : From m r) : From l r :=
  ⟨fun x hx h3 => h.1 x (k.1 x hx h3) h3, fun x hx h8 => by obtain ⟨y, hy, h8'⟩ := k.2 x hx h8; exact h.2 y hy h8'⟩
section
variable {bits : Int → Nat → Bool} {n lp : Nat}
end
end Go.Proofs.YtamhjgkigjpbhaaDoor

/- (XSimpR) Formulas, made smaller: the lists of the program are those of the trees, and what the laws ask of them. Plain. -/
namespace Go.Proofs.YtamhjgkigjpbhaaDoor

theorem isN_tree {f : List Nd} (h : isN f = true) : ∃ t : Tr, t.ok ∧ t.nnf ∧ f = t.flat := by
  obtain ⟨t, hok, rfl⟩ := parse (isN_good h)
  exact ⟨t, hok, (isN_flat hok).1 h, rfl⟩
/-- All that the laws ask of what is left of f. -/
structure Kept (f g : List Nd) : Prop where
  isn : isN g = true
  len : g.length ≤ f.length
  from_ : From f g
  tree : ∀ (bits : Int → Nat → Bool) (n lp : Nat), lp < n → val bits n lp (treeOf g) = val bits n lp (treeOf f)
theorem Kept.refl {f : List Nd} (h : isN f = true) : Kept f f := ⟨h, Nat.le_refl _, From.refl _, fun _ _ _ _ => rfl⟩
theorem Kept.trans {f g k : List Nd} (a : Kept f g) (b : Kept g k) : Kept f k :=
  ⟨b.isn, Nat.le_trans b.len a.len, From.trans a.from_ b.from_, fun bits n lp h => (b.tree bits n lp h).trans (a.tree bits n lp h)⟩
end Go.Proofs.YtamhjgkigjpbhaaDoor

/- What holds at a place, node by node, of a formula in negation normal form. Plain. -/
namespace Go.Proofs.YtamhjgkigjpbhaaDoor

section
variable {bits : Int → Nat → Bool} {n lp : Nat} {f : List Nd}
/-- Does the part that ends at node k hold at place i? -/
def holdsAt (bits : Int → Nat → Bool) (n lp : Nat) (f : List Nd) (k i : Nat) : Bool := ((rowsL bits n lp f (spans f) f.length).getD k []).getD i false
theorem holdsAt_sub {t : Tr} {b k : Nat} (hok : t.ok) (hat : At f (spans f) b t) (hk : k + 1 = b + t.size) (hl : k < f.length) (i : Nat) : holdsAt bits n lp f k i = sat bits n lp t i := by
  have h1 := at_rows (bits := bits) (n := n) (lp := lp) t b k hok hat hk
  have h2 := rowsL_up (d := f.length - (k + 1)) h1
  rw [show k + 1 + (f.length - (k + 1)) = f.length by omega] at h2
  rw [holdsAt, List.getD_eq_getElem?_getD (l := rowsL bits n lp f (spans f) f.length), h2]; rfl
/-- What a node asks. -/
structure NodeEq (bits : Int → Nat → Bool) (n lp : Nat) (f : List Nd) (k : Nat) (x : Nd) (l r : Nat) : Prop where
  op : x.op = 1 ∨ x.op = 2 ∨ x.op = 3 ∨ x.op = 4 ∨ x.op = 5 ∨ x.op = 6 ∨ x.op = 8 ∨ x.op = 9 ∨ x.op = 10
  rng : x.op = 3 → 0 ≤ x.n ∧ x.n < 8
  kid0 : x.op = 1 ∨ x.op = 2 ∨ x.op = 3 → kids f k = (-1, -1)
  kid1 : x.op = 4 ∨ x.op = 8 → kids f k = ((l : Int), -1) ∧ l < k ∧ l + 1 = k
  kid2 : x.op = 5 ∨ x.op = 6 ∨ x.op = 9 ∨ x.op = 10 → kids f k = ((l : Int), (r : Int)) ∧ l < k ∧ r < k ∧ r + 1 = k
  lit : x.op = 4 → ∃ y, f[l]? = some y ∧ y.op = 3 ∧ 0 ≤ y.n ∧ y.n < 8
  tru : x.op = 1 → ∀ i, i < n → holdsAt bits n lp f k i = true
  fls : x.op = 2 → ∀ i, i < n → holdsAt bits n lp f k i = false
  prop : x.op = 3 → ∀ i, i < n → holdsAt bits n lp f k i = bits x.n i
  not_ : x.op = 4 → ∀ i, i < n → ∀ y, f[l]? = some y → holdsAt bits n lp f k i = !bits y.n i
  and_ : x.op = 5 → ∀ i, i < n → holdsAt bits n lp f k i = (holdsAt bits n lp f l i && holdsAt bits n lp f r i)
  or_ : x.op = 6 → ∀ i, i < n → holdsAt bits n lp f k i = (holdsAt bits n lp f l i || holdsAt bits n lp f r i)
  next : x.op = 8 → ∀ i, i < n → holdsAt bits n lp f k i = holdsAt bits n lp f l (nx lp n i)
  until_ : x.op = 9 → ∀ i, i < n → holdsAt bits n lp f k i = (holdsAt bits n lp f r i || (holdsAt bits n lp f l i && holdsAt bits n lp f k (nx lp n i)))
  rel : x.op = 10 → ∀ i, i < n → holdsAt bits n lp f k i = (holdsAt bits n lp f r i && (holdsAt bits n lp f l i || holdsAt bits n lp f k (nx lp n i)))
/-- Each node of a tree in negation normal form is the last one of a part in that form. -/
theorem at_subN {s : List Int} : ∀ (t : Tr) (b k : Nat), t.ok → t.nnf → At f s b t → b ≤ k → k < b + t.size → ∃ b' t', t'.ok ∧ t'.nnf ∧ At f s b' t' ∧ k + 1 = b' + t'.size
  | .leaf x, b, k, hok, hn, hat, h1, h2 => ⟨b, .leaf x, hok, hn, hat, by simp only [Tr.size] at *; omega⟩
  | .un x a, b, k, hok, hn, hat, h1, h2 => by
    by_cases h : k < b + a.size
    · have hna : a.nnf := by
        rcases hn with ⟨_, h⟩ | ⟨_, p, rfl, _⟩
        · exact h
        · trivial
      exact at_subN a b k hok.2 hna hat.1 h1 h
    · exact ⟨b, .un x a, hok, hn, hat, by simp only [Tr.size] at *; omega⟩
  | .bin x a c, b, k, hok, hn, hat, h1, h2 => by
    by_cases h : k < b + a.size
    · exact at_subN a b k hok.2.1 hn.2.1 hat.1 h1 h
    · by_cases h' : k < b + a.size + c.size
      · exact at_subN c (b + a.size) k hok.2.2 hn.2.2 hat.2.1 (by omega) h'
      · exact ⟨b, .bin x a c, hok, hn, hat, by simp only [Tr.size] at *; omega⟩
theorem node_eq (hN : isN f = true) (hlp : lp < n) {k : Nat} {x : Nd} (hx : f[k]? = some x) : ∃ l r : Nat, NodeEq bits n lp f k x l r := by
  obtain ⟨t, hok, hn, rfl⟩ := isN_tree hN
  have hw := isN_good hN
  have hk : k < t.flat.length := (List.getElem?_eq_some_iff.1 hx).1
  obtain ⟨b, t', hok', hn', hat', hk'⟩ := at_subN t 0 k hok hn (at_whole hok) (by omega) (by rw [t.flat_len] at hk; omega)
  have hr := (at_root hat' hk').1
  rw [hx] at hr
  have hx' : t.flat[k] = x := by rw [List.getElem?_eq_getElem hk] at hx; exact Option.some.inj hx
  have hkids := kids_at hw hk
  rw [hx'] at hkids
  have hK : ∀ i, holdsAt bits n lp t.flat k i = sat bits n lp t' i := holdsAt_sub hok' hat' hk' hk
  match t', hok', hn', hat', hk', hr, hK with
  | .leaf y, ⟨h, h3⟩, hn', hat', hk', hr, hK =>
    have e : x = y := Option.some.inj hr
    subst e
    have ht := takes_zero h
    rw [h] at hkids
    obtain ⟨xo, xn⟩ := x
    refine ⟨0, 0, ?_⟩
    constructor <;> intros <;> (try dsimp only at *) <;> (try omega) <;> (try (exact hkids))
    · rename_i e i hi; rw [hK]; subst e; exact sat_true hi
    · rename_i e i hi; rw [hK]; subst e; exact sat_false hi
    · rename_i e i hi; rw [hK]; subst e; exact sat_prop hi
  | .un y a, ⟨h, ha⟩, hn', hat', hk', hr, hK =>
    have e : x = y := Option.some.inj hr
    subst e
    simp only [Tr.size] at hk'
    obtain ⟨j, hj⟩ : ∃ j, j + 1 = b + a.size := ⟨b + a.size - 1, by have := a.size_pos; omega⟩
    have hA : ∀ i, holdsAt bits n lp t.flat j i = sat bits n lp a i := holdsAt_sub ha hat'.1 hj (by omega)
    rw [h] at hkids
    have hkk : kids t.flat k = ((j : Int), -1) := by rw [hkids, if_pos rfl, show (k : Int) - 1 = j by omega]
    obtain ⟨xo, xn⟩ := x
    rcases hn' with ⟨e8, _⟩ | ⟨e4, p, rfl, hp⟩
    · dsimp only at e8; subst e8
      refine ⟨j, 0, ?_⟩
      constructor <;> intros <;> (try dsimp only at *) <;> (try omega) <;> (try (exact ⟨hkk, by omega, by omega⟩))
      · rename_i i hi; rw [hK, hA]; exact sat_next hi
    · dsimp only at e4; subst e4
      have hroot := (at_root hat'.1 hj).1
      have h3 := ha.2 hp
      refine ⟨j, 0, ?_⟩
      constructor <;> intros <;> (try dsimp only at *) <;> (try omega) <;> (try (exact ⟨hkk, by omega, by omega⟩))
      · exact ⟨p, hroot, hp, h3⟩
      · rename_i i hi y hy
        have hj' : t.flat[j]? = some p := hroot
        rw [hj'] at hy
        cases hy
        rw [hK, sat_not hi]
        obtain ⟨po, pn⟩ := p
        dsimp only at hp
        subst hp
        rw [sat_prop hi]
  | .bin y a c, ⟨h, ha, hc⟩, hn', hat', hk', hr, hK =>
    have e : x = y := Option.some.inj hr
    subst e
    simp only [Tr.size] at hk'
    obtain ⟨j, hj⟩ : ∃ j, j + 1 = b + a.size := ⟨b + a.size - 1, by have := a.size_pos; omega⟩
    obtain ⟨m, hm⟩ : ∃ m, m + 1 = b + a.size + c.size := ⟨b + a.size + c.size - 1, by have := c.size_pos; omega⟩
    have hc0 := c.size_pos
    have hA : ∀ i, holdsAt bits n lp t.flat j i = sat bits n lp a i := holdsAt_sub ha hat'.1 hj (by omega)
    have hC : ∀ i, holdsAt bits n lp t.flat m i = sat bits n lp c i := holdsAt_sub hc hat'.2.1 hm (by omega)
    rw [h] at hkids
    have hs := (at_root hat'.2.1 hm).2
    have hkk : kids t.flat k = ((j : Int), (m : Int)) := by
      rw [hkids, if_neg (by decide), if_pos rfl, show k - 1 = m by omega, hs]
      simp only [Option.getD_some]
      congr 1 <;> omega
    have ho := hn'.1
    obtain ⟨xo, xn⟩ := x
    refine ⟨j, m, ?_⟩
    constructor <;> intros <;> (try dsimp only at *) <;> (try omega) <;> (try (exact ⟨hkk, by omega, by omega, by omega⟩))
    · rename_i e i hi; subst e; rw [hK, hA, hC]; exact sat_and hi
    · rename_i e i hi; subst e; rw [hK, hA, hC]; exact sat_or hi
    · rename_i e i hi; subst e; rw [hK, hK, hA, hC]; exact sat_until hlp ha hi
    · rename_i e i hi; subst e; rw [hK, hK, hA, hC]; exact sat_rel hlp ha hc hi
end
end Go.Proofs.YtamhjgkigjpbhaaDoor

/- The ways to make parts of a formula true: what the laws of layer 28 ask; plain. -/
namespace Go.Proofs.YtamhjgkigjpbhaaDoor

theorem skip_mem {now : List Bool} {l : List Nat} {j : Nat} {t : List Nat} (h : skipL now l = j :: t) : ∀ x ∈ l, now.getD x false = true ∨ x = j ∨ x ∈ t := by
  induction l with
  | nil => intro x hx; cases hx
  | cons y r ih =>
    unfold skipL at h ih
    rw [List.dropWhile_cons] at h
    split at h
    · rename_i e
      intro x hx
      rcases List.mem_cons.1 hx with rfl | hx
      · exact .inl e
      · exact ih h x hx
    · injection h with h1 h2
      intro x hx
      subst h1; subst h2
      rcases List.mem_cons.1 hx with rfl | hx
      · exact .inr (.inl rfl)
      · exact .inr (.inr hx)
/-- What a part's making true keeps. -/
theorem split_keeps {f : List Nd} {j : Nat} {w : Way} : ∀ v ∈ splitW f j w, v.now = w.now ∧ (∀ y ∈ w.todo, y ∈ v.todo) ∧ (∀ p, w.need.testBit p = true → v.need.testBit p = true) ∧ (∀ p, w.ban.testBit p = true → v.ban.testBit p = true) ∧
    (∀ p, w.next.getD p false = true → v.next.getD p false = true) ∧ (w.need &&& w.ban = 0 → v.need &&& v.ban = 0) := by
  have hset : ∀ (l : List Bool) (i p : Nat), l.getD p false = true → (l.set i true).getD p false = true := by
    intro l i p h
    rw [List.getD_eq_getElem?_getD, List.getElem?_set]
    by_cases e : i = p
    · subst e
      have : i < l.length := by
        rw [List.getD_eq_getElem?_getD] at h
        by_cases hl : i < l.length
        · exact hl
        · rw [List.getElem?_eq_none (by omega)] at h; cases h
      simp [this]
    · rw [if_neg e, ← List.getD_eq_getElem?_getD]; exact h
  intro v hv
  have fin : ∀ u : Way, v ∈ finW u → v = u ∧ u.need &&& u.ban = 0 := by
    intro u hu
    unfold finW at hu
    split at hu
    · rename_i e; rw [List.mem_singleton] at hu; exact ⟨hu, e⟩
    · cases hu
  unfold splitW at hv
  split at hv
  · rw [List.mem_singleton] at hv; subst hv; exact ⟨rfl, fun _ h => h, fun _ h => h, fun _ h => h, fun _ h => h, id⟩
  split at hv
  · obtain ⟨rfl, e⟩ := fin _ hv
    exact ⟨rfl, fun _ h => h, fun p h => by simp [Nat.testBit_or, h], fun _ h => h, fun _ h => h, fun _ => e⟩
  split at hv
  · obtain ⟨rfl, e⟩ := fin _ hv
    exact ⟨rfl, fun _ h => h, fun _ h => h, fun p h => by simp [Nat.testBit_or, h], fun _ h => h, fun _ => e⟩
  all_goals (try (split at hv))
  all_goals (try (split at hv))
  all_goals (try (split at hv))
  all_goals (try (split at hv))
  all_goals (try (split at hv))
  all_goals simp only [List.mem_cons, List.not_mem_nil, or_false] at hv
  all_goals (try (rcases hv with rfl | rfl))
  all_goals (try (subst hv))
  all_goals first
    | exact ⟨rfl, fun _ h => by simp [Way.with_, h], fun _ h => h, fun _ h => h, fun _ h => h, id⟩
    | exact ⟨rfl, fun _ h => by simp [Way.owing, Way.with_, h], fun _ h => h, fun _ h => h, fun p h => hset _ _ p h, id⟩
    | exact hv.elim
/-- Each cover once. -/
theorem addC_mem (out : List Cov) (c d : Cov) : d ∈ addC out c ↔ d ∈ out ∨ d = c := by
  unfold addC
  split
  · rename_i h
    exact ⟨fun h' => .inl h', fun h' => h'.elim id (fun e => e ▸ h)⟩
  · simp
theorem onceC_mem : ∀ (l out : List Cov) (d : Cov), d ∈ onceC l out ↔ d ∈ out ∨ d ∈ l
  | [], out, d => by simp [onceC]
  | c :: l, out, d => by
    show d ∈ onceC l (addC out c) ↔ _
    rw [onceC_mem l, addC_mem, List.mem_cons, or_assoc]
theorem onceC_nodup : ∀ (l out : List Cov), out.Nodup → (onceC l out).Nodup
  | [], _, h => h
  | c :: l, out, h => by
    refine onceC_nodup l _ ?_
    unfold addC
    split
    · exact h
    · rename_i hc
      rw [List.nodup_append]
      exact ⟨h, by simp, fun a ha b hb => by simp at hb; subst hb; exact fun e => hc (e ▸ ha)⟩
theorem addC_len (out : List Cov) (c : Cov) : (addC out c).length ≤ out.length + 1 := by unfold addC; split <;> simp
theorem onceC_len : ∀ (l out : List Cov), (onceC l out).length ≤ out.length + l.length
  | [], out => by simp [onceC]
  | c :: l, out => by
    have := onceC_len l (addC out c)
    have h2 := addC_len out c
    show (onceC l (addC out c)).length ≤ _
    simp only [List.length_cons]; omega
theorem onceC_app (l m out : List Cov) : onceC (l ++ m) out = onceC m (onceC l out) := by simp [onceC, List.foldl_append]

/-- All that a way has, or is to make, true is true at its end; and nothing comes to be needed and banned. -/
theorem leaf_keeps {f : List Nd} (hk : KidsOk f) (n : Nat) (w : Way) (hw : WOk f w) : ∀ y ∈ leaves f n w, WOk f y ∧ (∀ x, w.now.getD x false = true ∨ x ∈ w.todo → y.now.getD x false = true) ∧ (w.need &&& w.ban = 0 → y.need &&& y.ban = 0) := by
  refine way_ind hk (fun w y => WOk f y ∧ (∀ x, w.now.getD x false = true ∨ x ∈ w.todo → y.now.getD x false = true) ∧ (w.need &&& w.ban = 0 → y.need &&& y.ban = 0))
    (fun w hw hs => ⟨hw, fun x hx => hx.elim id (skip_nil hs x), id⟩) (fun w j t x y hw hs hx _ h => ?_) n w hw
  obtain ⟨_, _, hj⟩ := made_ok hw hs
  obtain ⟨k1, k2, _, _, _, k6⟩ := split_keeps x hx
  have hl : j < w.now.length := by rw [hw.now]; exact hj
  refine ⟨h.1, fun z hz => h.2.1 z ?_, fun e => h.2.2 (k6 e)⟩
  rw [k1]
  have hnow : ∀ y, w.now.getD y false = true → (w.made j t).now.getD y false = true := by
    intro y hy
    simp only [Way.made]
    rw [List.getD_eq_getElem?_getD, List.getElem?_set]
    by_cases e' : j = y
    · subst e'; simp [hl]
    · rw [if_neg e', ← List.getD_eq_getElem?_getD]; exact hy
  rcases hz with hz | hz
  · exact .inl (hnow z hz)
  · rcases skip_mem hs z hz with h | rfl | h
    · exact .inl (hnow z h)
    · left; simp [Way.made, List.getD, hl]
    · exact .inr (k2 z h)
theorem startW_ok {f : List Nd} {parts : List Nat} (h : ∀ x ∈ parts, x < f.length) : WOk f (startW f.length parts) := ⟨by simp [startW], by simp [startW], h⟩
theorem startW_cnt (n : Nat) (parts : List Nat) : cntF (startW n parts).now < n + 1 := by
  have := List.countP_le_length (p := fun b : Bool => !b) (l := List.replicate n false)
  simp only [startW, cntF]
  rw [List.length_replicate] at this
  omega
/-- Of a cover: nothing is both needed and banned, all parts are in Now, its lists are as long as the formula. -/
theorem coversL_rises {f : List Nd} (hk : KidsOk f) {parts : List Nat} (h : ∀ x ∈ parts, x < f.length) : (coversL f parts).Nodup ∧ ∀ c ∈ coversL f parts, c.1 &&& c.2.1 = 0 ∧ (∀ x ∈ parts, c.2.2.2.getD x false = true) ∧ c.2.2.1.length = f.length ∧ c.2.2.2.length = f.length := by
  refine ⟨onceC_nodup _ _ List.nodup_nil, fun c hc => ?_⟩
  rcases (onceC_mem _ _ _).1 hc with hc | hc
  · cases hc
  · obtain ⟨y, hy, rfl⟩ := List.mem_map.1 hc
    obtain ⟨a, b, d⟩ := leaf_keeps hk _ _ (startW_ok h) y hy
    exact ⟨d (by simp [startW]), fun x hx => b x (.inr hx), a.next, a.now⟩
end Go.Proofs.YtamhjgkigjpbhaaDoor
