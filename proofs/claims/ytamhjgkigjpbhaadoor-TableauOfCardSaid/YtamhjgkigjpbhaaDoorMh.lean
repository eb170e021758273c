/- Texts of one kind, in one file. -/
import Derived.Test.YtamhjgkigjpbhaaDoorMa
import Derived.Test.YtamhjgkigjpbhaaDoorMs

/- (XCovP) The ways to make parts of a formula true (layer 28), as lists of bools; plain. -/
namespace Go.Proofs.YtamhjgkigjpbhaaDoor

/-- A way under way. -/
structure Way where
  need : Nat
  ban : Nat
  now : List Bool
  next : List Bool
  todo : List Nat
/-- What a way says at its end: need, ban, next, now. -/
abbrev Cov := Nat × Nat × List Bool × List Bool
def Way.cov (w : Way) : Cov := (w.need, w.ban, w.next, w.now)
def Way.with_ (w : Way) (l : List Nat) : Way := { w with todo := l ++ w.todo }
def Way.owing (w : Way) (j : Nat) : Way := { w with next := w.next.set j true }
def Way.made (w : Way) (j : Nat) (t : List Nat) : Way := { w with now := w.now.set j true, todo := t }
def finW (w : Way) : List Way := if w.need &&& w.ban = 0 then [w] else []
def opAt (f : List Nd) (j : Nat) : Int := (f.getD j ⟨0, 0⟩).op
def nAt (f : List Nd) (j : Nat) : Nat := (f.getD j ⟨0, 0⟩).n.toNat
def leftOf (f : List Nd) (j : Nat) : Nat := (kids f j).1.toNat
def rightOf (f : List Nd) (j : Nat) : Nat := (kids f j).2.toNat
/-- The ways that a part's making true leads to. -/
def splitW (f : List Nd) (j : Nat) (w : Way) : List Way :=
  if opAt f j = 1 then [w]
  else if opAt f j = 3 then finW { w with need := w.need ||| 2 ^ nAt f j }
  else if opAt f j = 4 then finW { w with ban := w.ban ||| 2 ^ nAt f (j - 1) }
  else if opAt f j = 5 then [w.with_ [leftOf f j, rightOf f j]]
  else if opAt f j = 6 then [w.with_ [leftOf f j], w.with_ [rightOf f j]]
  else if opAt f j = 8 then [w.owing (leftOf f j)]
  else if opAt f j = 9 then [w.with_ [rightOf f j], (w.with_ [leftOf f j]).owing j]
  else if opAt f j = 10 then [w.with_ [leftOf f j, rightOf f j], (w.with_ [rightOf f j]).owing j]
  else []
def skipL (now : List Bool) (l : List Nat) : List Nat := l.dropWhile (fun j => now.getD j false)
/-- The ends of all ways, in order; n: how many parts may be taken yet, and one. -/
def leaves (f : List Nd) : Nat → Way → List Way
  | 0, _ => []
  | n + 1, w =>
    match skipL w.now w.todo with
    | [] => [w]
    | j :: t => (splitW f j (w.made j t)).flatMap (leaves f n)
def addC (out : List Cov) (c : Cov) : List Cov := if c ∈ out then out else out ++ [c]
def onceC (l : List Cov) (out : List Cov) : List Cov := l.foldl addC out
def startW (n : Nat) (parts : List Nat) : Way := ⟨0, 0, List.replicate n false, List.replicate n false, parts⟩
def coversL (f : List Nd) (parts : List Nat) : List Cov := onceC ((leaves f (f.length + 1) (startW f.length parts)).map Way.cov) []
/-- How many are not true yet. -/
def cntF (l : List Bool) : Nat := l.countP (! ·)
theorem cntF_set {l : List Bool} {j : Nat} (hj : j < l.length) (h : l.getD j false = false) : cntF (l.set j true) + 1 = cntF l := by
  unfold cntF
  have e : l[j] = false := by simpa [List.getD, hj] using h
  rw [List.countP_set hj]
  have hp : 0 < l.countP (! ·) := List.countP_pos_iff.2 ⟨l[j], List.getElem_mem hj, by rw [e]; rfl⟩
  rw [e]
  simp
  omega
theorem skip_head {now : List Bool} {l : List Nat} {j : Nat} {t : List Nat} (h : skipL now l = j :: t) : now.getD j false = false ∧ j ∈ l ∧ ∀ x ∈ t, x ∈ l := by
  have hs : ∀ x ∈ skipL now l, x ∈ l := fun x hx => (List.dropWhile_suffix _).subset hx
  refine ⟨?_, hs j (by rw [h]; simp), fun x hx => hs x (by rw [h]; simp [hx])⟩
  have := List.head?_dropWhile_not (fun j => now.getD j false) l
  unfold skipL at h
  rw [h] at this
  simpa using this
theorem skip_nil {now : List Bool} {l : List Nat} (h : skipL now l = []) : ∀ x ∈ l, now.getD x false = true := by
  induction l with
  | nil => intro x hx; cases hx
  | cons y r ih =>
    unfold skipL at h ih
    rw [List.dropWhile_cons] at h
    split at h
    · rename_i e
      intro x hx
      rcases List.mem_cons.1 hx with rfl | hx
      · exact e
      · exact ih h x hx
    · cases h
theorem skip_nil_of {now : List Bool} {l : List Nat} (h : ∀ x ∈ l, now.getD x false = true) : skipL now l = [] := by
  induction l with
  | nil => rfl
  | cons y r ih =>
    unfold skipL at ih ⊢
    rw [List.dropWhile_cons, if_pos (h y (by simp))]
    exact ih (fun x hx => h x (by simp [hx]))
/-- What a way's parts are. -/
structure WOk (f : List Nd) (w : Way) : Prop where
  now : w.now.length = f.length
  next : w.next.length = f.length
  todo : ∀ j ∈ w.todo, j < f.length
/-- The kids of a formula lie ahead. -/
def KidsOk (f : List Nd) : Prop := ∀ j, j < f.length → (opAt f j = 5 ∨ opAt f j = 6 ∨ opAt f j = 9 ∨ opAt f j = 10 → leftOf f j < j ∧ rightOf f j < j) ∧ (opAt f j = 8 → leftOf f j < j)
theorem split_ok {f : List Nd} (hk : KidsOk f) {j : Nat} (hj : j < f.length) {w : Way} (h : WOk f w) : ∀ x ∈ splitW f j w, WOk f x ∧ x.now = w.now := by
  obtain ⟨k2, k1⟩ := hk j hj
  intro x hx
  have fin : ∀ v : Way, WOk f v → v.now = w.now → x ∈ finW v → WOk f x ∧ x.now = w.now := by
    intro v hv hn hx
    unfold finW at hx
    split at hx
    · rw [List.mem_singleton] at hx; subst hx; exact ⟨hv, hn⟩
    · cases hx
  have wi : ∀ (v : Way) (l : List Nat), WOk f v → (∀ y ∈ l, y < f.length) → WOk f (v.with_ l) := fun v l hv hl =>
    ⟨hv.now, hv.next, fun y hy => by rcases List.mem_append.1 hy with hy | hy; exact hl y hy; exact hv.todo y hy⟩
  have ow : ∀ (v : Way) (i : Nat), WOk f v → WOk f (v.owing i) := fun v i hv => ⟨hv.now, by simp [Way.owing, hv.next], hv.todo⟩
  unfold splitW at hx
  split at hx
  · rw [List.mem_singleton] at hx; subst hx; exact ⟨h, rfl⟩
  split at hx
  · exact fin { w with need := w.need ||| 2 ^ nAt f j } ⟨h.now, h.next, h.todo⟩ rfl hx
  split at hx
  · exact fin { w with ban := w.ban ||| 2 ^ nAt f (j - 1) } ⟨h.now, h.next, h.todo⟩ rfl hx
  split at hx
  · rename_i e
    have := k2 (.inl e)
    rw [List.mem_singleton] at hx; subst hx
    exact ⟨wi _ _ h (fun y hy => by simp at hy; omega), rfl⟩
  split at hx
  · rename_i e
    have := k2 (.inr (.inl e))
    simp only [List.mem_cons, List.not_mem_nil, or_false] at hx
    rcases hx with rfl | rfl
    · exact ⟨wi _ _ h (fun y hy => by simp at hy; omega), rfl⟩
    · exact ⟨wi _ _ h (fun y hy => by simp at hy; omega), rfl⟩
  split at hx
  · rename_i e
    rw [List.mem_singleton] at hx; subst hx
    exact ⟨ow _ _ h, rfl⟩
  split at hx
  · rename_i e
    have := k2 (.inr (.inr (.inl e)))
    simp only [List.mem_cons, List.not_mem_nil, or_false] at hx
    rcases hx with rfl | rfl
    · exact ⟨wi _ _ h (fun y hy => by simp at hy; omega), rfl⟩
    · exact ⟨ow _ _ (wi _ _ h (fun y hy => by simp at hy; omega)), rfl⟩
  split at hx
  · rename_i e
    have := k2 (.inr (.inr (.inr e)))
    simp only [List.mem_cons, List.not_mem_nil, or_false] at hx
    rcases hx with rfl | rfl
    · exact ⟨wi _ _ h (fun y hy => by simp at hy; omega), rfl⟩
    · exact ⟨ow _ _ (wi _ _ h (fun y hy => by simp at hy; omega)), rfl⟩
  · cases hx
theorem made_ok {f : List Nd} {w : Way} (h : WOk f w) {j : Nat} {t : List Nat} (hs : skipL w.now w.todo = j :: t) : WOk f (w.made j t) ∧ cntF (w.made j t).now + 1 = cntF w.now ∧ j < f.length := by
  obtain ⟨h1, h2, h3⟩ := skip_head hs
  have hj := h.todo j h2
  exact ⟨⟨by simp [Way.made, h.now], h.next, fun y hy => h.todo y (h3 y hy)⟩, cntF_set (by rw [h.now]; exact hj) h1, hj⟩
/-- Induction over the ways from one on. -/
theorem way_ind {f : List Nd} (hk : KidsOk f) (P : Way → Way → Prop) (leaf : ∀ w, WOk f w → skipL w.now w.todo = [] → P w w)
    (step : ∀ w j t x y, WOk f w → skipL w.now w.todo = j :: t → x ∈ splitW f j (w.made j t) → WOk f x → P x y → P w y) :
    ∀ n w, WOk f w → ∀ y ∈ leaves f n w, P w y := by
  intro n
  induction n with
  | zero => intro w _ y hy; cases hy
  | succ n ih =>
    intro w hw y hy
    unfold leaves at hy
    cases hs : skipL w.now w.todo with
    | nil => rw [hs] at hy; rw [List.mem_singleton] at hy; subst hy; exact leaf _ hw hs
    | cons j t =>
      rw [hs] at hy
      obtain ⟨x, hx, hy⟩ := List.mem_flatMap.1 hy
      obtain ⟨hm, _, hj⟩ := made_ok hw hs
      have hxo := (split_ok hk hj hm x hx).1
      exact step w j t x y hw hs hx hxo (ih x hxo y hy)
end Go.Proofs.YtamhjgkigjpbhaaDoor

/- (XCovT) What holds at a place, node by node, of a formula in negation normal form. Plain. -/
namespace Go.Proofs.YtamhjgkigjpbhaaDoor

section
variable {bits : Int → Nat → Bool} {n lp : Nat} {f : List Nd}
/-- Does the part that ends at node k hold at place i? -/
def holdsAt (bits : Int → Nat → Bool) (n lp : Nat) (f : List Nd) (k i : Nat) : Bool := ((rowsL bits n lp f (spans f) f.length).getD k []).getD i false
theorem holdsAt_sub {t : Tr} {b k : Nat} (hok : t.ok) (hat : At f (spans f) b t) (hk : k + 1 = b + t.size) (hl : k < f.length) (i : Nat) : holdsAt bits n lp f k i = sat bits n lp t i := by
  have h1 := at_rows (bits := bits) (n := n) (lp := lp) t b k hok hat hk
  have h2 := rowsL_up (d := f.length - (k + 1)) h1
  rw [show k + 1 + (f.length - (k + 1)) = f.length by omega] at h2
  rw [holdsAt, List.getD_eq_getElem?_getD (l := rowsL bits n lp f (spans f) f.length), h2]; rfl
/-- What a node asks. -/
structure NodeEq (bits : Int → Nat → Bool) (n lp : Nat) (f : List Nd) (k : Nat) (x : Nd) (l r : Nat) : Prop where
  op : x.op = 1 ∨ x.op = 2 ∨ x.op = 3 ∨ x.op = 4 ∨ x.op = 5 ∨ x.op = 6 ∨ x.op = 8 ∨ x.op = 9 ∨ x.op = 10
  rng : x.op = 3 → 0 ≤ x.n ∧ x.n < 8
  kid0 : x.op = 1 ∨ x.op = 2 ∨ x.op = 3 → kids f k = (-1, -1)
  kid1 : x.op = 4 ∨ x.op = 8 → kids f k = ((l : Int), -1) ∧ l < k ∧ l + 1 = k
  kid2 : x.op = 5 ∨ x.op = 6 ∨ x.op = 9 ∨ x.op = 10 → kids f k = ((l : Int), (r : Int)) ∧ l < k ∧ r < k ∧ r + 1 = k
  lit : x.op = 4 → ∃ y, f[l]? = some y ∧ y.op = 3 ∧ 0 ≤ y.n ∧ y.n < 8
  tru : x.op = 1 → ∀ i, i < n → holdsAt bits n lp f k i = true
  fls : x.op = 2 → ∀ i, i < n → holdsAt bits n lp f k i = false
  prop : x.op = 3 → ∀ i, i < n → holdsAt bits n lp f k i = bits x.n i
  not_ : x.op = 4 → ∀ i, i < n → ∀ y, f[l]? = some y → holdsAt bits n lp f k i = !bits y.n i
  and_ : x.op = 5 → ∀ i, i < n → holdsAt bits n lp f k i = (holdsAt bits n lp f l i && holdsAt bits n lp f r i)
  or_ : x.op = 6 → ∀ i, i < n → holdsAt bits n lp f k i = (holdsAt bits n lp f l i || holdsAt bits n lp f r i)
  next : x.op = 8 → ∀ i, i < n → holdsAt bits n lp f k i = holdsAt bits n lp f l (nx lp n i)
  until_ : x.op = 9 → ∀ i, i < n → holdsAt bits n lp f k i = (holdsAt bits n lp f r i || (holdsAt bits n lp f l i && holdsAt bits n lp f k (nx lp n i)))
  rel : x.op = 10 → ∀ i, i < n → holdsAt bits n lp f k i = (holdsAt bits n lp f r i && (holdsAt bits n lp f l i || holdsAt bits n lp f k (nx lp n i)))
/-- Each node of a tree in negation normal form is the last one of a part in that form. -/
theorem at_subN {s : List Int} : ∀ (t : Tr) (b k : Nat), t.ok → t.nnf → At f s b t → b ≤ k → k < b + t.size → ∃ b' t', t'.ok ∧ t'.nnf ∧ At f s b' t' ∧ k + 1 = b' + t'.size
  | .leaf x, b, k, hok, hn, hat, h1, h2 => ⟨b, .leaf x, hok, hn, hat, by simp only [Tr.size] at *; omega⟩
  | .un x a, b, k, hok, hn, hat, h1, h2 => by
    by_cases h : k < b + a.size
    · have hna : a.nnf := by
        rcases hn with ⟨_, h⟩ | ⟨_, p, rfl, _⟩
        · exact h
        · trivial
      exact at_subN a b k hok.2 hna hat.1 h1 h
    · exact ⟨b, .un x a, hok, hn, hat, by simp only [Tr.size] at *; omega⟩
  | .bin x a c, b, k, hok, hn, hat, h1, h2 => by
    by_cases h : k < b + a.size
    · exact at_subN a b k hok.2.1 hn.2.1 hat.1 h1 h
    · by_cases h' : k < b + a.size + c.size
      · exact at_subN c (b + a.size) k hok.2.2 hn.2.2 hat.2.1 (by omega) h'
      · exact ⟨b, .bin x a c, hok, hn, hat, by simp only [Tr.size] at *; omega⟩
theorem node_eq (hN : isN f = true) (hlp : lp < n) {k : Nat} {x : Nd} (hx : f[k]? = some x) : ∃ l r : Nat, NodeEq bits n lp f k x l r := by
  obtain ⟨t, hok, hn, rfl⟩ := isN_tree hN
  have hw := isN_good hN
  have hk : k < t.flat.length := (List.getElem?_eq_some_iff.1 hx).1
  obtain ⟨b, t', hok', hn', hat', hk'⟩ := at_subN t 0 k hok hn (at_whole hok) (by omega) (by rw [t.flat_len] at hk; omega)
  have hr := (at_root hat' hk').1
  rw [hx] at hr
  have hx' : t.flat[k] = x := by rw [List.getElem?_eq_getElem hk] at hx; exact Option.some.inj hx
  have hkids := kids_at hw hk
  rw [hx'] at hkids
  have hK : ∀ i, holdsAt bits n lp t.flat k i = sat bits n lp t' i := holdsAt_sub hok' hat' hk' hk
  match t', hok', hn', hat', hk', hr, hK with
  | .leaf y, ⟨h, h3⟩, hn', hat', hk', hr, hK =>
    have e : x = y := Option.some.inj hr
    subst e
    have ht := takes_zero h
    rw [h] at hkids
    obtain ⟨xo, xn⟩ := x
    refine ⟨0, 0, ?_⟩
    constructor <;> intros <;> (try dsimp only at *) <;> (try omega) <;> (try (exact hkids))
    · rename_i e i hi; rw [hK]; subst e; exact sat_true hi
    · rename_i e i hi; rw [hK]; subst e; exact sat_false hi
    · rename_i e i hi; rw [hK]; subst e; exact sat_prop hi
  | .un y a, ⟨h, ha⟩, hn', hat', hk', hr, hK =>
    have e : x = y := Option.some.inj hr
    subst e
    simp only [Tr.size] at hk'
    obtain ⟨j, hj⟩ : ∃ j, j + 1 = b + a.size := ⟨b + a.size - 1, by have := a.size_pos; omega⟩
    have hA : ∀ i, holdsAt bits n lp t.flat j i = sat bits n lp a i := holdsAt_sub ha hat'.1 hj (by omega)
    rw [h] at hkids
    have hkk : kids t.flat k = ((j : Int), -1) := by rw [hkids, if_pos rfl, show (k : Int) - 1 = j by omega]
    obtain ⟨xo, xn⟩ := x
    rcases hn' with ⟨e8, _⟩ | ⟨e4, p, rfl, hp⟩
    · dsimp only at e8; subst e8
      refine ⟨j, 0, ?_⟩
      constructor <;> intros <;> (try dsimp only at *) <;> (try omega) <;> (try (exact ⟨hkk, by omega, by omega⟩))
      · rename_i i hi; rw [hK, hA]; exact sat_next hi
    · dsimp only at e4; subst e4
      have hroot := (at_root hat'.1 hj).1
      have h3 := ha.2 hp
      refine ⟨j, 0, ?_⟩
      constructor <;> intros <;> (try dsimp only at *) <;> (try omega) <;> (try (exact ⟨hkk, by omega, by omega⟩))
      · exact ⟨p, hroot, hp, h3⟩
      · rename_i i hi y hy
        have hj' : t.flat[j]? = some p := hroot
        rw [hj'] at hy
        cases hy
        rw [hK, sat_not hi]
        obtain ⟨po, pn⟩ := p
        dsimp only at hp
        subst hp
        rw [sat_prop hi]
  | .bin y a c, ⟨h, ha, hc⟩, hn', hat', hk', hr, hK =>
    have e : x = y := Option.some.inj hr
    subst e
    simp only [Tr.size] at hk'
    obtain ⟨j, hj⟩ : ∃ j, j + 1 = b + a.size := ⟨b + a.size - 1, by have := a.size_pos; omega⟩
    obtain ⟨m, hm⟩ : ∃ m, m + 1 = b + a.size + c.size := ⟨b + a.size + c.size - 1, by have := c.size_pos; omega⟩
    have hc0 := c.size_pos
    have hA : ∀ i, holdsAt bits n lp t.flat j i = sat bits n lp a i := holdsAt_sub ha hat'.1 hj (by omega)
    have hC : ∀ i, holdsAt bits n lp t.flat m i = sat bits n lp c i := holdsAt_sub hc hat'.2.1 hm (by omega)
    rw [h] at hkids
    have hs := (at_root hat'.2.1 hm).2
    have hkk : kids t.flat k = ((j : Int), (m : Int)) := by
      rw [hkids, if_neg (by decide), if_pos rfl, show k - 1 = m by omega, hs]
      simp only [Option.getD_some]
      congr 1 <;> omega
    have ho := hn'.1
    obtain ⟨xo, xn⟩ := x
    refine ⟨j, m, ?_⟩
    constructor <;> intros <;> (try dsimp only at *) <;> (try omega) <;> (try (exact ⟨hkk, by omega, by omega, by omega⟩))
    · rename_i e i hi; subst e; rw [hK, hA, hC]; exact sat_and hi
    · rename_i e i hi; subst e; rw [hK, hA, hC]; exact sat_or hi
    · rename_i e i hi; subst e; rw [hK, hK, hA, hC]; exact sat_until hlp ha hi
    · rename_i e i hi; subst e; rw [hK, hK, hA, hC]; exact sat_rel hlp ha hc hi
end
end Go.Proofs.YtamhjgkigjpbhaaDoor

/- (XCovQ) The ways to make parts of a formula true: what the laws of layer 28 ask; plain. -/
namespace Go.Proofs.YtamhjgkigjpbhaaDoor

theorem skip_mem {now : List Bool} {l : List Nat} {j : Nat} {t : List Nat} (h : skipL now l = j :: t) : ∀ x ∈ l, now.getD x false = true ∨ x = j ∨ x ∈ t := by
  induction l with
  | nil => intro x hx; cases hx
  | cons y r ih =>
    unfold skipL at h ih
    rw [List.dropWhile_cons] at h
    split at h
    · rename_i e
      intro x hx
      rcases List.mem_cons.1 hx with rfl | hx
      · exact .inl e
      · exact ih h x hx
    · injection h with h1 h2
      intro x hx
      subst h1; subst h2
      rcases List.mem_cons.1 hx with rfl | hx
      · exact .inr (.inl rfl)
      · exact .inr (.inr hx)
theorem skip_app {now : List Bool} {l e : List Nat} {j : Nat} {t : List Nat} (h : skipL now l = j :: t) : skipL now (l ++ e) = j :: (t ++ e) := by
  induction l with
  | nil => cases h
  | cons y r ih =>
    unfold skipL at h ih ⊢
    rw [List.dropWhile_cons] at h
    rw [List.cons_append, List.dropWhile_cons]
    split at h
    · rename_i hy
      rw [if_pos hy]; exact ih h
    · rename_i hy
      rw [if_neg hy]; injection h with h1 h2; subst h1; subst h2; rfl
/-- What a part's making true keeps. -/
theorem split_keeps {f : List Nd} {j : Nat} {w : Way} : ∀ v ∈ splitW f j w, v.now = w.now ∧ (∀ y ∈ w.todo, y ∈ v.todo) ∧ (∀ p, w.need.testBit p = true → v.need.testBit p = true) ∧ (∀ p, w.ban.testBit p = true → v.ban.testBit p = true) ∧
    (∀ p, w.next.getD p false = true → v.next.getD p false = true) ∧ (w.need &&& w.ban = 0 → v.need &&& v.ban = 0) := by
  have hset : ∀ (l : List Bool) (i p : Nat), l.getD p false = true → (l.set i true).getD p false = true := by
    intro l i p h
    rw [List.getD_eq_getElem?_getD, List.getElem?_set]
    by_cases e : i = p
    · subst e
      have : i < l.length := by
        rw [List.getD_eq_getElem?_getD] at h
        by_cases hl : i < l.length
        · exact hl
        · rw [List.getElem?_eq_none (by omega)] at h; cases h
      simp [this]
    · rw [if_neg e, ← List.getD_eq_getElem?_getD]; exact h
  intro v hv
  have fin : ∀ u : Way, v ∈ finW u → v = u ∧ u.need &&& u.ban = 0 := by
    intro u hu
    unfold finW at hu
    split at hu
    · rename_i e; rw [List.mem_singleton] at hu; exact ⟨hu, e⟩
    · cases hu
  unfold splitW at hv
  split at hv
  · rw [List.mem_singleton] at hv; subst hv; exact ⟨rfl, fun _ h => h, fun _ h => h, fun _ h => h, fun _ h => h, id⟩
  split at hv
  · obtain ⟨rfl, e⟩ := fin _ hv
    exact ⟨rfl, fun _ h => h, fun p h => by simp [Nat.testBit_or, h], fun _ h => h, fun _ h => h, fun _ => e⟩
  split at hv
  · obtain ⟨rfl, e⟩ := fin _ hv
    exact ⟨rfl, fun _ h => h, fun _ h => h, fun p h => by simp [Nat.testBit_or, h], fun _ h => h, fun _ => e⟩
  all_goals (try (split at hv))
  all_goals (try (split at hv))
  all_goals (try (split at hv))
  all_goals (try (split at hv))
  all_goals (try (split at hv))
  all_goals simp only [List.mem_cons, List.not_mem_nil, or_false] at hv
  all_goals (try (rcases hv with rfl | rfl))
  all_goals (try (subst hv))
  all_goals first
    | exact ⟨rfl, fun _ h => by simp [Way.with_, h], fun _ h => h, fun _ h => h, fun _ h => h, id⟩
    | exact ⟨rfl, fun _ h => by simp [Way.owing, Way.with_, h], fun _ h => h, fun _ h => h, fun p h => hset _ _ p h, id⟩
    | exact hv.elim
/-- Parts that are asked for twice. -/
def addT (e : List Nat) (w : Way) : Way := { w with todo := w.todo ++ e }
theorem fin_addT (e : List Nat) (u : Way) : finW (addT e u) = (finW u).map (addT e) := by
  unfold finW
  show (if u.need &&& u.ban = 0 then _ else _) = _
  split <;> rfl
theorem split_addT {f : List Nd} {j : Nat} (e : List Nat) (w : Way) : splitW f j (addT e w) = (splitW f j w).map (addT e) := by
  have t1 := fun w' => fin_addT e w'
  unfold splitW
  simp only [addT] at t1 ⊢
  repeat' split
  all_goals first
    | rfl
    | exact t1 { w with need := w.need ||| 2 ^ nAt f j }
    | exact t1 { w with ban := w.ban ||| 2 ^ nAt f (j - 1) }
    | simp [Way.with_, Way.owing]
theorem leaves_extra {f : List Nd} (hk : KidsOk f) : ∀ (n : Nat) (w : Way) (e : List Nat), WOk f w → (∀ x ∈ e, w.now.getD x false = true ∨ x ∈ w.todo) → (leaves f n (addT e w)).map Way.cov = (leaves f n w).map Way.cov := by
  intro n
  induction n with
  | zero => intros; rfl
  | succ n ih =>
    intro w e hw he
    unfold leaves
    cases hs : skipL w.now w.todo with
    | nil =>
      have h2 : skipL (addT e w).now (addT e w).todo = [] := skip_nil_of (fun x hx => by
        rcases List.mem_append.1 hx with hx | hx
        · exact skip_nil hs x hx
        · rcases he x hx with h | h
          · exact h
          · exact skip_nil hs x h)
      rw [h2]; rfl
    | cons j t =>
      have h2 : skipL (addT e w).now (addT e w).todo = j :: (t ++ e) := skip_app hs
      rw [h2]
      obtain ⟨hmo, _, hj⟩ := made_ok hw hs
      have hm : (addT e w).made j (t ++ e) = addT e (w.made j t) := rfl
      simp only [hm, split_addT, List.map_flatMap, List.flatMap_map]
      have hall : ∀ v ∈ splitW f j (w.made j t), (leaves f n (addT e v)).map Way.cov = (leaves f n v).map Way.cov := fun v hv => by
        refine ih v e (split_ok hk hj hmo v hv).1 (fun x hx => ?_)
        obtain ⟨k1, k2, _⟩ := split_keeps v hv
        rw [k1]
        have hnow : ∀ y, w.now.getD y false = true → (w.made j t).now.getD y false = true := by
          intro y hy
          simp only [Way.made]
          rw [List.getD_eq_getElem?_getD, List.getElem?_set]
          by_cases e' : j = y
          · subst e'
            have := (skip_head hs).1
            rw [this] at hy; cases hy
          · rw [if_neg e', ← List.getD_eq_getElem?_getD]; exact hy
        rcases he x hx with h | h
        · exact .inl (hnow x h)
        · rcases skip_mem hs x h with h | rfl | h
          · exact .inl (hnow x h)
          · left
            have hl : x < w.now.length := by rw [hw.now]; exact hj
            simp [Way.made, List.getD, hl]
          · exact .inr (k2 x h)
      clear he hs h2 hm hmo
      generalize splitW f j (w.made j t) = L at *
      induction L with
      | nil => rfl
      | cons v r ihr => simp only [List.flatMap_cons]; rw [hall v (by simp), ihr (fun u hu => hall u (by simp [hu]))]

/-- Each cover once. -/
theorem addC_mem (out : List Cov) (c d : Cov) : d ∈ addC out c ↔ d ∈ out ∨ d = c := by
  unfold addC
  split
  · rename_i h
    exact ⟨fun h' => .inl h', fun h' => h'.elim id (fun e => e ▸ h)⟩
  · simp
theorem onceC_mem : ∀ (l out : List Cov) (d : Cov), d ∈ onceC l out ↔ d ∈ out ∨ d ∈ l
  | [], out, d => by simp [onceC]
  | c :: l, out, d => by
    show d ∈ onceC l (addC out c) ↔ _
    rw [onceC_mem l, addC_mem, List.mem_cons, or_assoc]
theorem onceC_nodup : ∀ (l out : List Cov), out.Nodup → (onceC l out).Nodup
  | [], _, h => h
  | c :: l, out, h => by
    refine onceC_nodup l _ ?_
    unfold addC
    split
    · exact h
    · rename_i hc
      rw [List.nodup_append]
      exact ⟨h, by simp, fun a ha b hb => by simp at hb; subst hb; exact fun e => hc (e ▸ ha)⟩
theorem addC_len (out : List Cov) (c : Cov) : (addC out c).length ≤ out.length + 1 := by unfold addC; split <;> simp
theorem onceC_len : ∀ (l out : List Cov), (onceC l out).length ≤ out.length + l.length
  | [], out => by simp [onceC]
  | c :: l, out => by
    have := onceC_len l (addC out c)
    have h2 := addC_len out c
    show (onceC l (addC out c)).length ≤ _
    simp only [List.length_cons]; omega
theorem onceC_app (l m out : List Cov) : onceC (l ++ m) out = onceC m (onceC l out) := by simp [onceC, List.foldl_append]

/-- All that a way has, or is to make, true is true at its end; and nothing comes to be needed and banned. -/
theorem leaf_keeps {f : List Nd} (hk : KidsOk f) (n : Nat) (w : Way) (hw : WOk f w) : ∀ y ∈ leaves f n w, WOk f y ∧ (∀ x, w.now.getD x false = true ∨ x ∈ w.todo → y.now.getD x false = true) ∧ (w.need &&& w.ban = 0 → y.need &&& y.ban = 0) := by
  refine way_ind hk (fun w y => WOk f y ∧ (∀ x, w.now.getD x false = true ∨ x ∈ w.todo → y.now.getD x false = true) ∧ (w.need &&& w.ban = 0 → y.need &&& y.ban = 0))
    (fun w hw hs => ⟨hw, fun x hx => hx.elim id (skip_nil hs x), id⟩) (fun w j t x y hw hs hx _ h => ?_) n w hw
  obtain ⟨_, _, hj⟩ := made_ok hw hs
  obtain ⟨k1, k2, _, _, _, k6⟩ := split_keeps x hx
  have hl : j < w.now.length := by rw [hw.now]; exact hj
  refine ⟨h.1, fun z hz => h.2.1 z ?_, fun e => h.2.2 (k6 e)⟩
  rw [k1]
  have hnow : ∀ y, w.now.getD y false = true → (w.made j t).now.getD y false = true := by
    intro y hy
    simp only [Way.made]
    rw [List.getD_eq_getElem?_getD, List.getElem?_set]
    by_cases e' : j = y
    · subst e'; simp [hl]
    · rw [if_neg e', ← List.getD_eq_getElem?_getD]; exact hy
  rcases hz with hz | hz
  · exact .inl (hnow z hz)
  · rcases skip_mem hs z hz with h | rfl | h
    · exact .inl (hnow z h)
    · left; simp [Way.made, List.getD, hl]
    · exact .inr (k2 z h)
theorem startW_ok {f : List Nd} {parts : List Nat} (h : ∀ x ∈ parts, x < f.length) : WOk f (startW f.length parts) := ⟨by simp [startW], by simp [startW], h⟩
theorem startW_cnt (n : Nat) (parts : List Nat) : cntF (startW n parts).now < n + 1 := by
  have := List.countP_le_length (p := fun b : Bool => !b) (l := List.replicate n false)
  simp only [startW, cntF]
  rw [List.length_replicate] at this
  omega
/-- Parts that are named twice change nothing. -/
theorem coversL_twice {f : List Nd} (hk : KidsOk f) {parts : List Nat} (h : ∀ x ∈ parts, x < f.length) : coversL f (parts ++ parts) = coversL f parts := by
  have := leaves_extra hk (f.length + 1) (startW f.length parts) parts (startW_ok h) (fun x hx => .inr hx)
  unfold coversL
  rw [← this]; rfl
/-- Of a cover: nothing is both needed and banned, all parts are in Now, its lists are as long as the formula. -/
theorem coversL_rises {f : List Nd} (hk : KidsOk f) {parts : List Nat} (h : ∀ x ∈ parts, x < f.length) : (coversL f parts).Nodup ∧ ∀ c ∈ coversL f parts, c.1 &&& c.2.1 = 0 ∧ (∀ x ∈ parts, c.2.2.2.getD x false = true) ∧ c.2.2.1.length = f.length ∧ c.2.2.2.length = f.length := by
  refine ⟨onceC_nodup _ _ List.nodup_nil, fun c hc => ?_⟩
  rcases (onceC_mem _ _ _).1 hc with hc | hc
  · cases hc
  · obtain ⟨y, hy, rfl⟩ := List.mem_map.1 hc
    obtain ⟨a, b, d⟩ := leaf_keeps hk _ _ (startW_ok h) y hy
    exact ⟨d (by simp [startW]), fun x hx => b x (.inr hx), a.next, a.now⟩
end Go.Proofs.YtamhjgkigjpbhaaDoor

/- (XCovR) The ways to make parts of a formula true: at each place of a word all parts hold just if some cover fits; plain. -/
namespace Go.Proofs.YtamhjgkigjpbhaaDoor

theorem at_of {f : List Nd} {j : Nat} (hj : j < f.length) : f[j]? = some (f.getD j ⟨0, 0⟩) := by simp [List.getD, hj]
theorem mem_finW {u : Way} (h : u.need &&& u.ban = 0) : u ∈ finW u := by unfold finW; rw [if_pos h]; exact List.mem_singleton.2 rfl
theorem kidsOk_of {f : List Nd} (hN : isN f = true) : KidsOk f := by
  intro j hj
  obtain ⟨l, r, h⟩ := node_eq (bits := fun _ _ => false) (n := 1) (lp := 0) hN (by omega) (at_of hj)
  refine ⟨fun e => ?_, fun e => ?_⟩
  · obtain ⟨a, b, c, _⟩ := h.kid2 e
    unfold leftOf rightOf
    rw [a]; simp; omega
  · obtain ⟨a, b, _⟩ := h.kid1 (.inr e)
    unfold leftOf
    rw [a]; simp; omega

section
variable {bits : Int → Nat → Bool} {n lp : Nat} {f : List Nd}
/-- What node j asks, in the words of the ways. -/
structure AskEq (bits : Int → Nat → Bool) (n lp : Nat) (f : List Nd) (j i : Nat) : Prop where
  op : opAt f j = 1 ∨ opAt f j = 2 ∨ opAt f j = 3 ∨ opAt f j = 4 ∨ opAt f j = 5 ∨ opAt f j = 6 ∨ opAt f j = 8 ∨ opAt f j = 9 ∨ opAt f j = 10
  tru : opAt f j = 1 → holdsAt bits n lp f j i = true
  fls : opAt f j = 2 → holdsAt bits n lp f j i = false
  prop : opAt f j = 3 → holdsAt bits n lp f j i = bits (nAt f j) i
  not_ : opAt f j = 4 → holdsAt bits n lp f j i = !bits (nAt f (j - 1)) i
  and_ : opAt f j = 5 → holdsAt bits n lp f j i = (holdsAt bits n lp f (leftOf f j) i && holdsAt bits n lp f (rightOf f j) i)
  or_ : opAt f j = 6 → holdsAt bits n lp f j i = (holdsAt bits n lp f (leftOf f j) i || holdsAt bits n lp f (rightOf f j) i)
  next : opAt f j = 8 → holdsAt bits n lp f j i = holdsAt bits n lp f (leftOf f j) (nx lp n i)
  until_ : opAt f j = 9 → holdsAt bits n lp f j i = (holdsAt bits n lp f (rightOf f j) i || (holdsAt bits n lp f (leftOf f j) i && holdsAt bits n lp f j (nx lp n i)))
  rel : opAt f j = 10 → holdsAt bits n lp f j i = (holdsAt bits n lp f (rightOf f j) i && (holdsAt bits n lp f (leftOf f j) i || holdsAt bits n lp f j (nx lp n i)))
theorem ask_eq (hN : isN f = true) (hlp : lp < n) {j i : Nat} (hj : j < f.length) (hi : i < n) : AskEq bits n lp f j i := by
  obtain ⟨l, r, h⟩ := node_eq (bits := bits) (n := n) hN hlp (at_of hj)
  have e1 : opAt f j = 4 ∨ opAt f j = 8 → leftOf f j = l ∧ l + 1 = j := fun e => by
    obtain ⟨a, b, c⟩ := h.kid1 e
    unfold leftOf; rw [a]; exact ⟨by simp, c⟩
  have e2 : opAt f j = 5 ∨ opAt f j = 6 ∨ opAt f j = 9 ∨ opAt f j = 10 → leftOf f j = l ∧ rightOf f j = r := fun e => by
    obtain ⟨a, b, c, _⟩ := h.kid2 e
    unfold leftOf rightOf; rw [a]; simp
  refine ⟨h.op, fun e => h.tru e i hi, fun e => h.fls e i hi, fun e => ?_, fun e => ?_, fun e => ?_, fun e => ?_, fun e => ?_, fun e => ?_, fun e => ?_⟩
  · have := h.rng e
    rw [h.prop e i hi]
    unfold nAt
    congr 1; omega
  · obtain ⟨y, hy, hy3, hy0, _⟩ := h.lit e
    obtain ⟨_, el⟩ := e1 (.inl e)
    rw [h.not_ e i hi y hy]
    have : f.getD (j - 1) ⟨0, 0⟩ = y := by rw [show j - 1 = l by omega, List.getD_eq_getElem?_getD, hy]; rfl
    unfold nAt
    rw [this]
    congr 2; omega
  · obtain ⟨a, b⟩ := e2 (.inl e); rw [a, b]; exact h.and_ e i hi
  · obtain ⟨a, b⟩ := e2 (.inr (.inl e)); rw [a, b]; exact h.or_ e i hi
  · obtain ⟨a, _⟩ := e1 (.inr e); rw [a]; exact h.next e i hi
  · obtain ⟨a, b⟩ := e2 (.inr (.inr (.inl e))); rw [a, b]; exact h.until_ e i hi
  · obtain ⟨a, b⟩ := e2 (.inr (.inr (.inr e))); rw [a, b]; exact h.rel e i hi
/-- What is needed is read, what is banned is not. -/
def Reads (bits : Int → Nat → Bool) (need ban i : Nat) : Prop := (∀ p : Nat, need.testBit p = true → bits p i = true) ∧ ∀ p : Nat, ban.testBit p = true → bits p i = false
theorem reads_apart {need ban i : Nat} (h : Reads bits need ban i) : need &&& ban = 0 := by
  apply Nat.eq_of_testBit_eq
  intro p
  rw [Nat.testBit_and, Nat.zero_testBit]
  cases h1 : need.testBit p
  · rfl
  · cases h2 : ban.testBit p
    · rfl
    · have := h.1 p h1; rw [h.2 p h2] at this; cases this
/-- A way fits at a place. -/
def Fits (bits : Int → Nat → Bool) (n lp : Nat) (f : List Nd) (i : Nat) (w : Way) : Prop :=
  Reads bits w.need w.ban i ∧ (∀ j, w.next.getD j false = true → holdsAt bits n lp f j (nx lp n i) = true) ∧ ∀ j ∈ w.todo, holdsAt bits n lp f j i = true
theorem set_getD {l : List Bool} {i p : Nat} (h : (l.set i true).getD p false = true) : p = i ∨ l.getD p false = true := by
  rw [List.getD_eq_getElem?_getD, List.getElem?_set] at h
  by_cases e : i = p
  · exact .inl e.symm
  · rw [if_neg e, ← List.getD_eq_getElem?_getD] at h; exact .inr h
/-- If all of a way's parts hold, one of its ends fits. -/
theorem complete (hN : isN f = true) (hlp : lp < n) {i : Nat} (hi : i < n) : ∀ (k : Nat) (w : Way), WOk f w → cntF w.now < k → Fits bits n lp f i w → ∃ y ∈ leaves f k w, Fits bits n lp f i y := by
  have hk := kidsOk_of hN
  intro k
  induction k with
  | zero => intro w _ h; omega
  | succ k ih =>
    intro w hw hc hf
    unfold leaves
    cases hs : skipL w.now w.todo with
    | nil => exact ⟨w, by simp, hf⟩
    | cons j t =>
      obtain ⟨hm, hcnt, hj⟩ := made_ok hw hs
      obtain ⟨_, hj2, ht⟩ := skip_head hs
      have hH := hf.2.2 j hj2
      have hA := ask_eq (bits := bits) hN hlp hj hi
      have hb : Fits bits n lp f i (w.made j t) := ⟨hf.1, hf.2.1, fun y hy => hf.2.2 y (ht y hy)⟩
      have hwith : ∀ (v : Way) (l : List Nat), Fits bits n lp f i v → (∀ y ∈ l, holdsAt bits n lp f y i = true) → Fits bits n lp f i (v.with_ l) := fun v l hv hl =>
        ⟨hv.1, hv.2.1, fun y hy => (List.mem_append.1 hy).elim (hl y) (hv.2.2 y)⟩
      have how : ∀ (v : Way) (p : Nat), Fits bits n lp f i v → holdsAt bits n lp f p (nx lp n i) = true → Fits bits n lp f i (v.owing p) := fun v p hv hp =>
        ⟨hv.1, fun y hy => (set_getD hy).elim (fun e => e ▸ hp) (hv.2.1 y), hv.2.2⟩
      suffices hx : ∃ x ∈ splitW f j (w.made j t), Fits bits n lp f i x by
        obtain ⟨x, hx, hxf⟩ := hx
        obtain ⟨hxo, hxn⟩ := split_ok hk hj hm x hx
        obtain ⟨y, hy, hyf⟩ := ih x hxo (by rw [hxn]; omega) hxf
        exact ⟨y, List.mem_flatMap.2 ⟨x, hx, hy⟩, hyf⟩
      unfold splitW
      rcases hA.op with e | e | e | e | e | e | e | e | e
      · exact ⟨_, by rw [if_pos e]; simp, hb⟩
      · rw [hA.fls e] at hH; cases hH
      · have hr : Reads bits (w.need ||| 2 ^ nAt f j) w.ban i := ⟨fun p hp => by
          rw [Nat.testBit_or, Bool.or_eq_true, Nat.testBit_two_pow] at hp
          rcases hp with hp | hp
          · exact hf.1.1 p hp
          · have : nAt f j = p := by simpa using hp
            rw [← this, ← hA.prop e]; exact hH, hf.1.2⟩
        refine ⟨{ w.made j t with need := w.need ||| 2 ^ nAt f j }, ?_, hr, hb.2.1, hb.2.2⟩
        rw [if_neg (by omega), if_pos e]
        exact mem_finW (u := { w.made j t with need := w.need ||| 2 ^ nAt f j }) (reads_apart hr)
      · have hr : Reads bits w.need (w.ban ||| 2 ^ nAt f (j - 1)) i := ⟨hf.1.1, fun p hp => by
          rw [Nat.testBit_or, Bool.or_eq_true, Nat.testBit_two_pow] at hp
          rcases hp with hp | hp
          · exact hf.1.2 p hp
          · have : nAt f (j - 1) = p := by simpa using hp
            rw [hA.not_ e, this] at hH
            simpa using hH⟩
        refine ⟨{ w.made j t with ban := w.ban ||| 2 ^ nAt f (j - 1) }, ?_, hr, hb.2.1, hb.2.2⟩
        rw [if_neg (by omega), if_neg (by omega), if_pos e]
        exact mem_finW (u := { w.made j t with ban := w.ban ||| 2 ^ nAt f (j - 1) }) (reads_apart hr)
      · rw [hA.and_ e, Bool.and_eq_true] at hH
        refine ⟨_, by rw [if_neg (by omega), if_neg (by omega), if_neg (by omega), if_pos e]; exact List.mem_singleton.2 rfl, hwith _ _ hb (fun y hy => ?_)⟩
        simp only [List.mem_cons, List.not_mem_nil, or_false] at hy
        rcases hy with rfl | rfl
        · exact hH.1
        · exact hH.2
      · rw [hA.or_ e, Bool.or_eq_true] at hH
        rcases hH with hH | hH
        · refine ⟨_, by rw [if_neg (by omega), if_neg (by omega), if_neg (by omega), if_neg (by omega), if_pos e]; exact List.mem_cons_self .., hwith _ _ hb (fun y hy => by rw [List.mem_singleton] at hy; subst hy; exact hH)⟩
        · refine ⟨_, by rw [if_neg (by omega), if_neg (by omega), if_neg (by omega), if_neg (by omega), if_pos e]; exact List.mem_cons_of_mem _ (List.mem_cons_self ..), hwith _ _ hb (fun y hy => by rw [List.mem_singleton] at hy; subst hy; exact hH)⟩
      · rw [hA.next e] at hH
        exact ⟨_, by rw [if_neg (by omega), if_neg (by omega), if_neg (by omega), if_neg (by omega), if_neg (by omega), if_pos e]; exact List.mem_singleton.2 rfl, how _ _ hb hH⟩
      · rw [hA.until_ e, Bool.or_eq_true, Bool.and_eq_true] at hH
        rcases hH with hH | ⟨h1, h2⟩
        · refine ⟨_, by rw [if_neg (by omega), if_neg (by omega), if_neg (by omega), if_neg (by omega), if_neg (by omega), if_neg (by omega), if_pos e]; exact List.mem_cons_self .., hwith _ _ hb (fun y hy => by rw [List.mem_singleton] at hy; subst hy; exact hH)⟩
        · refine ⟨_, by rw [if_neg (by omega), if_neg (by omega), if_neg (by omega), if_neg (by omega), if_neg (by omega), if_neg (by omega), if_pos e]; exact List.mem_cons_of_mem _ (List.mem_cons_self ..), how _ _ (hwith _ _ hb (fun y hy => by rw [List.mem_singleton] at hy; subst hy; exact h1)) h2⟩
      · rw [hA.rel e, Bool.and_eq_true, Bool.or_eq_true] at hH
        obtain ⟨h1, h2 | h2⟩ := hH
        · refine ⟨_, by rw [if_neg (by omega), if_neg (by omega), if_neg (by omega), if_neg (by omega), if_neg (by omega), if_neg (by omega), if_neg (by omega), if_pos e]; exact List.mem_cons_self .., hwith _ _ hb (fun y hy => ?_)⟩
          simp only [List.mem_cons, List.not_mem_nil, or_false] at hy
          rcases hy with rfl | rfl
          · exact h2
          · exact h1
        · refine ⟨_, by rw [if_neg (by omega), if_neg (by omega), if_neg (by omega), if_neg (by omega), if_neg (by omega), if_neg (by omega), if_neg (by omega), if_pos e]; exact List.mem_cons_of_mem _ (List.mem_cons_self ..), how _ _ (hwith _ _ hb (fun y hy => by rw [List.mem_singleton] at hy; subst hy; exact h1)) h2⟩
/-- What a part that is made true leaves behind: in N, or in need, ban, next. -/
def Obl (f : List Nd) (need ban : Nat) (next : List Bool) (N : Nat → Prop) (j : Nat) : Prop :=
  opAt f j = 1 ∨ (opAt f j = 3 ∧ need.testBit (nAt f j) = true) ∨ (opAt f j = 4 ∧ ban.testBit (nAt f (j - 1)) = true) ∨ (opAt f j = 5 ∧ N (leftOf f j) ∧ N (rightOf f j)) ∨ (opAt f j = 6 ∧ (N (leftOf f j) ∨ N (rightOf f j))) ∨
    (opAt f j = 8 ∧ next.getD (leftOf f j) false = true) ∨ (opAt f j = 9 ∧ (N (rightOf f j) ∨ (N (leftOf f j) ∧ next.getD j false = true))) ∨ (opAt f j = 10 ∧ ((N (leftOf f j) ∧ N (rightOf f j)) ∨ (N (rightOf f j) ∧ next.getD j false = true)))
theorem Obl.mono {need ban need' ban' : Nat} {next next' : List Bool} {N N' : Nat → Prop} {j : Nat} (h : Obl f need ban next N j) (h1 : ∀ p, need.testBit p = true → need'.testBit p = true) (h2 : ∀ p, ban.testBit p = true → ban'.testBit p = true)
    (h3 : ∀ p, next.getD p false = true → next'.getD p false = true) (h4 : ∀ p, N p → N' p) : Obl f need' ban' next' N' j := by
  rcases h with e | ⟨e, h⟩ | ⟨e, h⟩ | ⟨e, h, k⟩ | ⟨e, h⟩ | ⟨e, h⟩ | ⟨e, h⟩ | ⟨e, h⟩
  · exact .inl e
  · exact .inr (.inl ⟨e, h1 _ h⟩)
  · exact .inr (.inr (.inl ⟨e, h2 _ h⟩))
  · exact .inr (.inr (.inr (.inl ⟨e, h4 _ h, h4 _ k⟩)))
  · exact .inr (.inr (.inr (.inr (.inl ⟨e, h.imp (h4 _) (h4 _)⟩))))
  · exact .inr (.inr (.inr (.inr (.inr (.inl ⟨e, h3 _ h⟩)))))
  · exact .inr (.inr (.inr (.inr (.inr (.inr (.inl ⟨e, h.imp (h4 _) (fun h => ⟨h4 _ h.1, h3 _ h.2⟩)⟩))))))
  · exact .inr (.inr (.inr (.inr (.inr (.inr (.inr ⟨e, h.imp (fun h => ⟨h4 _ h.1, h4 _ h.2⟩) (fun h => ⟨h4 _ h.1, h3 _ h.2⟩)⟩))))))
/-- All that is true has left what it asks. -/
def Closed (f : List Nd) (w : Way) : Prop := ∀ j, w.now.getD j false = true → Obl f w.need w.ban w.next (fun p => w.now.getD p false = true ∨ p ∈ w.todo) j
theorem set_self {l : List Bool} {i : Nat} (h : i < l.length) : (l.set i true).getD i false = true := by simp [List.getD, h]
theorem split_obl (hk : KidsOk f) {j : Nat} (hj : j < f.length) {w : Way} (hw : WOk f w) : ∀ v ∈ splitW f j w, Obl f v.need v.ban v.next (fun p => v.now.getD p false = true ∨ p ∈ v.todo) j := by
  intro v hv
  have fin : ∀ u : Way, v ∈ finW u → v = u := by
    intro u hu
    unfold finW at hu
    split at hu
    · exact List.mem_singleton.1 hu
    · cases hu
  unfold splitW at hv
  split at hv
  · exact .inl (by assumption)
  split at hv
  · obtain rfl := fin _ hv
    exact .inr (.inl ⟨by assumption, by simp [Nat.testBit_or]⟩)
  split at hv
  · obtain rfl := fin _ hv
    exact .inr (.inr (.inl ⟨by assumption, by simp [Nat.testBit_or]⟩))
  split at hv
  · rw [List.mem_singleton] at hv; subst hv
    exact .inr (.inr (.inr (.inl ⟨by assumption, .inr (by simp [Way.with_]), .inr (by simp [Way.with_])⟩)))
  split at hv
  · simp only [List.mem_cons, List.not_mem_nil, or_false] at hv
    rcases hv with rfl | rfl
    · exact .inr (.inr (.inr (.inr (.inl ⟨by assumption, .inl (.inr (by simp [Way.with_]))⟩))))
    · exact .inr (.inr (.inr (.inr (.inl ⟨by assumption, .inr (.inr (by simp [Way.with_]))⟩))))
  split at hv
  · rename_i e
    rw [List.mem_singleton] at hv; subst hv
    have := (hk j hj).2 e
    exact .inr (.inr (.inr (.inr (.inr (.inl ⟨e, set_self (by rw [hw.next]; omega)⟩)))))
  split at hv
  · rename_i e
    simp only [List.mem_cons, List.not_mem_nil, or_false] at hv
    rcases hv with rfl | rfl
    · exact .inr (.inr (.inr (.inr (.inr (.inr (.inl ⟨e, .inl (.inr (by simp [Way.with_]))⟩))))))
    · exact .inr (.inr (.inr (.inr (.inr (.inr (.inl ⟨e, .inr ⟨.inr (by simp [Way.with_, Way.owing]), set_self (by simp [Way.with_, hw.next]; omega)⟩⟩))))))
  split at hv
  · rename_i e
    simp only [List.mem_cons, List.not_mem_nil, or_false] at hv
    rcases hv with rfl | rfl
    · exact .inr (.inr (.inr (.inr (.inr (.inr (.inr ⟨e, .inl ⟨.inr (by simp [Way.with_]), .inr (by simp [Way.with_])⟩⟩))))))
    · exact .inr (.inr (.inr (.inr (.inr (.inr (.inr ⟨e, .inr ⟨.inr (by simp [Way.with_, Way.owing]), set_self (by simp [Way.with_, hw.next]; omega)⟩⟩))))))
  · cases hv
theorem leaf_closed (hk : KidsOk f) (k : Nat) (w : Way) (hw : WOk f w) : ∀ y ∈ leaves f k w, Closed f w → ∀ j, y.now.getD j false = true → Obl f y.need y.ban y.next (fun p => y.now.getD p false = true) j := by
  refine way_ind hk (fun w y => Closed f w → ∀ j, y.now.getD j false = true → Obl f y.need y.ban y.next (fun p => y.now.getD p false = true) j) (fun w hw hs hc j hj => ?_) (fun w j t x y hw hs hx _ h hc => h ?_) k w hw
  · exact (hc j hj).mono (fun _ h => h) (fun _ h => h) (fun _ h => h) (fun p hp => hp.elim id (skip_nil hs p))
  · obtain ⟨hm, _, hj⟩ := made_ok hw hs
    obtain ⟨k1, k2, k3, k4, k5, _⟩ := split_keeps x hx
    have hl : j < w.now.length := by rw [hw.now]; exact hj
    intro i hi
    rw [k1] at hi
    rcases set_getD (l := w.now) hi with rfl | hi
    · exact split_obl hk hj hm x hx
    · refine (hc i hi).mono k3 k4 k5 (fun p hp => ?_)
      rw [k1]
      have hnow : ∀ y, w.now.getD y false = true → (w.made j t).now.getD y false = true := by
        intro y hy
        simp only [Way.made]
        rw [List.getD_eq_getElem?_getD, List.getElem?_set]
        by_cases e' : j = y
        · subst e'; simp [hl]
        · rw [if_neg e', ← List.getD_eq_getElem?_getD]; exact hy
      rcases hp with hp | hp
      · exact .inl (hnow p hp)
      · rcases skip_mem hs p hp with h | rfl | h
        · exact .inl (hnow p h)
        · exact .inl (set_self hl)
        · exact .inr (k2 p h)
/-- What is true at the end of a way that fits holds. -/
theorem sound (hN : isN f = true) (hlp : lp < n) {i : Nat} (hi : i < n) {need ban : Nat} {next now : List Bool} (hr : Reads bits need ban i) (hx : ∀ j, next.getD j false = true → holdsAt bits n lp f j (nx lp n i) = true) (hl : now.length = f.length)
    (hc : ∀ j, now.getD j false = true → Obl f need ban next (fun p => now.getD p false = true) j) : ∀ j, now.getD j false = true → holdsAt bits n lp f j i = true := by
  have hk := kidsOk_of hN
  intro j
  induction j using Nat.strongRecOn with
  | _ j ih =>
    intro hj
    have hjl : j < f.length := by
      rw [← hl]
      rw [List.getD_eq_getElem?_getD] at hj
      by_cases h : j < now.length
      · exact h
      · rw [List.getElem?_eq_none (by omega)] at hj; cases hj
    have hA := ask_eq (bits := bits) hN hlp hjl hi
    obtain ⟨q2, q1⟩ := hk j hjl
    rcases hc j hj with e | ⟨e, h⟩ | ⟨e, h⟩ | ⟨e, h, k⟩ | ⟨e, h⟩ | ⟨e, h⟩ | ⟨e, h⟩ | ⟨e, h⟩
    · exact hA.tru e
    · rw [hA.prop e]; exact hr.1 _ h
    · rw [hA.not_ e, hr.2 _ h]; rfl
    · obtain ⟨a, b⟩ := q2 (.inl e); rw [hA.and_ e, ih _ a h, ih _ b k]; rfl
    · obtain ⟨a, b⟩ := q2 (.inr (.inl e))
      rw [hA.or_ e]
      rcases h with h | h
      · rw [ih _ a h]; rfl
      · rw [ih _ b h, Bool.or_true]
    · rw [hA.next e]; exact hx _ h
    · obtain ⟨a, b⟩ := q2 (.inr (.inr (.inl e)))
      rw [hA.until_ e]
      rcases h with h | ⟨h, k⟩
      · rw [ih _ b h]; rfl
      · rw [ih _ a h, hx _ k]; simp
    · obtain ⟨a, b⟩ := q2 (.inr (.inr (.inr e)))
      rw [hA.rel e]
      rcases h with ⟨h, k⟩ | ⟨h, k⟩
      · rw [ih _ a h, ih _ b k]; rfl
      · rw [ih _ b h, hx _ k]; simp
/-- A cover fits. -/
def FitsC (bits : Int → Nat → Bool) (n lp : Nat) (f : List Nd) (i : Nat) (c : Cov) : Prop :=
  Reads bits c.1 c.2.1 i ∧ ∀ j, c.2.2.1.getD j false = true → holdsAt bits n lp f j (nx lp n i) = true
theorem covers_sound (hN : isN f = true) (hlp : lp < n) {i : Nat} (hi : i < n) {parts : List Nat} (hp : ∀ x ∈ parts, x < f.length) {c : Cov} (hc : c ∈ coversL f parts) (hf : FitsC bits n lp f i c) :
    (∀ j, c.2.2.2.getD j false = true → holdsAt bits n lp f j i = true) ∧ ∀ x ∈ parts, holdsAt bits n lp f x i = true := by
  have hk := kidsOk_of hN
  have hc2 := (coversL_rises hk hp).2 c hc
  rcases (onceC_mem _ _ _).1 hc with hc | hc
  · cases hc
  · obtain ⟨y, hy, rfl⟩ := List.mem_map.1 hc
    have hcl : Closed f (startW f.length parts) := fun j hj => by
      simp only [startW, List.getD_eq_getElem?_getD, List.getElem?_replicate] at hj
      split at hj <;> cases hj
    have hob := leaf_closed hk _ _ (startW_ok hp) y hy hcl
    have hs := sound hN hlp hi hf.1 hf.2 hc2.2.2.2 hob
    exact ⟨hs, fun x hx => hs x (hc2.2.1 x hx)⟩
theorem covers_complete (hN : isN f = true) (hlp : lp < n) {i : Nat} (hi : i < n) {parts : List Nat} (hp : ∀ x ∈ parts, x < f.length) (h : ∀ x ∈ parts, holdsAt bits n lp f x i = true) : ∃ c ∈ coversL f parts, FitsC bits n lp f i c := by
  obtain ⟨y, hy, h1, h2, _⟩ := complete hN hlp hi (f.length + 1) (startW f.length parts) (startW_ok hp) (startW_cnt _ _) ⟨⟨fun p hp => by simp [startW] at hp, fun p hp => by simp [startW] at hp⟩, (fun j hj => by
      simp only [startW, List.getD_eq_getElem?_getD, List.getElem?_replicate] at hj
      split at hj <;> cases hj), h⟩
  exact ⟨y.cov, (onceC_mem _ _ _).2 (.inr (List.mem_map.2 ⟨y, hy, rfl⟩)), h1, h2⟩
end
end Go.Proofs.YtamhjgkigjpbhaaDoor

/- (XCovS) How many ways there are; rising lists of numbers; plain. -/
namespace Go.Proofs.YtamhjgkigjpbhaaDoor

/-- Does a node part ways? -/
def branches (f : List Nd) (j : Nat) : Bool := decide (opAt f j = 6) || decide (opAt f j = 9) || decide (opAt f j = 10)
def brF (f : List Nd) (now : List Bool) : Nat := (List.range f.length).countP (fun j => branches f j && !now.getD j false)
theorem countP_le_of {α : Type} {l : List α} {p q : α → Bool} (h : ∀ x ∈ l, p x = true → q x = true) : l.countP p ≤ l.countP q := List.countP_mono_left h
theorem brF_made {f : List Nd} {w : Way} (hw : WOk f w) {j : Nat} {t : List Nat} (hs : skipL w.now w.todo = j :: t) : brF f (w.made j t).now + (if branches f j = true then 1 else 0) ≤ brF f w.now := by
  obtain ⟨hj0, hj1, _⟩ := skip_head hs
  have hj := hw.todo j hj1
  have hr : List.range f.length = List.range j ++ (j :: (List.range' (j + 1) (f.length - j - 1))) := by
    rw [List.range_eq_range', List.range_eq_range', show f.length = j + ((f.length - j - 1) + 1) by omega, ← List.range'_append_1]
    simp [List.range'_succ]
  have hget : ∀ y, y ≠ j → (w.made j t).now.getD y false = w.now.getD y false := by
    intro y hy
    simp only [Way.made]
    rw [List.getD_eq_getElem?_getD, List.getElem?_set, if_neg (fun e => hy e.symm), ← List.getD_eq_getElem?_getD]
  have hself : (w.made j t).now.getD j false = true := set_self (by rw [hw.now]; exact hj)
  unfold brF
  rw [hr, List.countP_append, List.countP_append, List.countP_cons, List.countP_cons]
  have e1 : (List.range j).countP (fun y => branches f y && !(w.made j t).now.getD y false) = (List.range j).countP (fun y => branches f y && !w.now.getD y false) :=
    List.countP_congr (fun y hy => by rw [hget y (by have := List.mem_range.1 hy; omega)])
  have e2 : (List.range' (j + 1) (f.length - j - 1)).countP (fun y => branches f y && !(w.made j t).now.getD y false) = (List.range' (j + 1) (f.length - j - 1)).countP (fun y => branches f y && !w.now.getD y false) :=
    List.countP_congr (fun y hy => by rw [hget y (by have := (List.mem_range'_1.1 hy).1; omega)])
  rw [e1, e2, hself, hj0]
  simp
  omega
theorem split_len (f : List Nd) (j : Nat) (w : Way) : (splitW f j w).length ≤ (if branches f j = true then 2 else 1) := by
  have fin : ∀ u : Way, (finW u).length ≤ 1 := fun u => by unfold finW; split <;> simp
  unfold splitW branches
  by_cases e1 : opAt f j = 1
  · rw [if_pos e1]; split <;> simp
  rw [if_neg e1]
  by_cases e3 : opAt f j = 3
  · rw [if_pos e3]; have := fin { w with need := w.need ||| 2 ^ nAt f j }; split <;> omega
  rw [if_neg e3]
  by_cases e4 : opAt f j = 4
  · rw [if_pos e4]; have := fin { w with ban := w.ban ||| 2 ^ nAt f (j - 1) }; split <;> omega
  rw [if_neg e4]
  by_cases e5 : opAt f j = 5
  · rw [if_pos e5]; split <;> simp
  rw [if_neg e5]
  by_cases e6 : opAt f j = 6
  · rw [if_pos e6, if_pos (by simp [e6])]; simp
  rw [if_neg e6]
  by_cases e8 : opAt f j = 8
  · rw [if_pos e8]; split <;> simp
  rw [if_neg e8]
  by_cases e9 : opAt f j = 9
  · rw [if_pos e9, if_pos (by simp [e9])]; simp
  rw [if_neg e9]
  by_cases e10 : opAt f j = 10
  · rw [if_pos e10, if_pos (by simp [e10])]; simp
  rw [if_neg e10]; split <;> simp
theorem leaves_len {f : List Nd} (hk : KidsOk f) : ∀ (n : Nat) (w : Way), WOk f w → (leaves f n w).length ≤ 2 ^ brF f w.now := by
  intro n
  induction n with
  | zero => intro w _; simp [leaves]
  | succ n ih =>
    intro w hw
    unfold leaves
    cases hs : skipL w.now w.todo with
    | nil => simp; exact Nat.one_le_two_pow
    | cons j t =>
      obtain ⟨hm, _, hj⟩ := made_ok hw hs
      have hb := brF_made hw hs
      have hl := split_len f j (w.made j t)
      have hall : ∀ x ∈ splitW f j (w.made j t), (leaves f n x).length ≤ 2 ^ brF f (w.made j t).now := fun x hx => by
        obtain ⟨h1, h2⟩ := split_ok hk hj hm x hx
        have := ih x h1
        rw [h2] at this
        exact this
      have hsum : ∀ L : List Way, (∀ x ∈ L, (leaves f n x).length ≤ 2 ^ brF f (w.made j t).now) → (L.flatMap (leaves f n)).length ≤ L.length * 2 ^ brF f (w.made j t).now := by
        intro L
        induction L with
        | nil => intro _; simp
        | cons x r ihr =>
          intro h
          have a := h x (by simp)
          have b := ihr (fun y hy => h y (by simp [hy]))
          rw [List.flatMap_cons, List.length_append, List.length_cons, Nat.succ_mul]
          omega
      have h1 := hsum _ hall
      show ((splitW f j (w.made j t)).flatMap (leaves f n)).length ≤ _
      by_cases hbr : branches f j = true
      · rw [if_pos hbr] at hb hl
        have h2 : (splitW f j (w.made j t)).length * 2 ^ brF f (w.made j t).now ≤ 2 * 2 ^ brF f (w.made j t).now := Nat.mul_le_mul_right _ hl
        have h3 : 2 * 2 ^ brF f (w.made j t).now = 2 ^ (brF f (w.made j t).now + 1) := by rw [Nat.pow_succ]; omega
        have h4 : 2 ^ (brF f (w.made j t).now + 1) ≤ 2 ^ brF f w.now := Nat.pow_le_pow_right (by omega) hb
        omega
      · rw [if_neg hbr] at hb hl
        have h2 : (splitW f j (w.made j t)).length * 2 ^ brF f (w.made j t).now ≤ 1 * 2 ^ brF f (w.made j t).now := Nat.mul_le_mul_right _ hl
        have h4 : 2 ^ brF f (w.made j t).now ≤ 2 ^ brF f w.now := Nat.pow_le_pow_right (by omega) (by omega)
        omega

/-- The numbers that are on, rising. -/
def onL (l : List Bool) : List Nat := (List.range l.length).filter (fun i => l.getD i false)
theorem onL_mem {l : List Bool} {i : Nat} : i ∈ onL l ↔ l.getD i false = true := by
  unfold onL
  rw [List.mem_filter, List.mem_range]
  refine ⟨fun h => h.2, fun h => ⟨?_, h⟩⟩
  by_cases hl : i < l.length
  · exact hl
  · rw [List.getD_eq_getElem?_getD, List.getElem?_eq_none (by omega)] at h; cases h
theorem onL_rise (l : List Bool) : (onL l).Pairwise (· < ·) := List.Pairwise.filter _ List.pairwise_lt_range
theorem onL_len (l : List Bool) : (onL l).length ≤ l.length := by
  have := List.length_filter_le (fun i => l.getD i false) (List.range l.length)
  simpa [onL] using this
theorem rise_eq : ∀ {l m : List Nat}, l.Pairwise (· < ·) → m.Pairwise (· < ·) → (∀ x, x ∈ l ↔ x ∈ m) → l = m
  | [], [], _, _, _ => rfl
  | [], y :: m, _, _, h => by have := (h y).2 (by simp); cases this
  | x :: l, [], _, _, h => by have := (h x).1 (by simp); cases this
  | x :: l, y :: m, hl, hm, h => by
    obtain ⟨l1, l2⟩ := List.pairwise_cons.1 hl
    obtain ⟨m1, m2⟩ := List.pairwise_cons.1 hm
    have e : x = y := by
      have a := (h x).1 (by simp)
      have b := (h y).2 (by simp)
      rcases List.mem_cons.1 a with a | a
      · exact a
      · rcases List.mem_cons.1 b with b | b
        · exact b.symm
        · have := m1 x a; have := l1 y b; omega
    subst e
    rw [rise_eq l2 m2 (fun z => ?_)]
    constructor
    · intro hz
      have := (h z).1 (by simp [hz])
      rcases List.mem_cons.1 this with rfl | h'
      · have := l1 z hz; omega
      · exact h'
    · intro hz
      have := (h z).2 (by simp [hz])
      rcases List.mem_cons.1 this with rfl | h'
      · have := m1 z hz; omega
      · exact h'
/-- A number into a rising list, once: as the reference goes. -/
def cstep (n : Nat) (s : List Nat × Bool) (x : Nat) : List Nat × Bool := if s.2 = false ∧ n < x then (s.1 ++ [n, x], true) else (s.1 ++ [x], s.2)
def cfold (n : Nat) (l : List Nat) (s : List Nat × Bool) : List Nat × Bool := l.foldl (cstep n) s
def putF (l : List Nat) (n : Nat) : List Nat := if (cfold n l ([], decide (n ∈ l))).2 = true then (cfold n l ([], decide (n ∈ l))).1 else (cfold n l ([], decide (n ∈ l))).1 ++ [n]
def insF (n : Nat) : List Nat → List Nat
  | [] => [n]
  | x :: r => if n < x then n :: x :: r else x :: insF n r
theorem cfold_true (n : Nat) : ∀ (l acc : List Nat), cfold n l (acc, true) = (acc ++ l, true)
  | [], acc => by simp [cfold]
  | x :: l, acc => by
    show cfold n l (cstep n (acc, true) x) = _
    have : cstep n (acc, true) x = (acc ++ [x], true) := by simp [cstep]
    rw [this, cfold_true n l]; simp
theorem cfold_false (n : Nat) : ∀ (l acc : List Nat), (if (cfold n l (acc, false)).2 = true then (cfold n l (acc, false)).1 else (cfold n l (acc, false)).1 ++ [n]) = acc ++ insF n l
  | [], acc => by simp [cfold, insF]
  | x :: l, acc => by
    have e : cfold n (x :: l) (acc, false) = cfold n l (cstep n (acc, false) x) := rfl
    rw [e]
    by_cases h : n < x
    · have : cstep n (acc, false) x = (acc ++ [n, x], true) := by simp [cstep, h]
      rw [this, cfold_true]; simp [insF, h]
    · have : cstep n (acc, false) x = (acc ++ [x], false) := by simp [cstep, h]
      rw [this, cfold_false n l]; simp [insF, h]
theorem insF_mem (n : Nat) : ∀ (l : List Nat) (x : Nat), x ∈ insF n l ↔ x = n ∨ x ∈ l
  | [], x => by simp [insF]
  | y :: l, x => by
    unfold insF
    split
    · simp
    · rw [List.mem_cons, insF_mem n l, List.mem_cons, or_left_comm]
theorem insF_rise {n : Nat} : ∀ {l : List Nat}, l.Pairwise (· < ·) → n ∉ l → (insF n l).Pairwise (· < ·)
  | [], _, _ => by simp [insF]
  | y :: l, h, hn => by
    obtain ⟨h1, h2⟩ := List.pairwise_cons.1 h
    unfold insF
    split
    · rename_i hlt
      exact List.pairwise_cons.2 ⟨fun z hz => by rcases List.mem_cons.1 hz with rfl | hz; exact hlt; have := h1 z hz; omega, h⟩
    · rename_i hlt
      refine List.pairwise_cons.2 ⟨fun z hz => ?_, insF_rise h2 (fun e => hn (by simp [e]))⟩
      rcases (insF_mem n l z).1 hz with rfl | hz
      · have : z ≠ y := fun e => hn (by simp [e]); omega
      · exact h1 z hz
theorem putF_on {l : List Bool} {i : Nat} (hi : i < l.length) : putF (onL l) i = onL (l.set i true) := by
  have key : ∀ x, (l.set i true).getD x false = true ↔ x = i ∨ l.getD x false = true := by
    intro x
    constructor
    · exact set_getD
    · rintro (rfl | h)
      · exact set_self hi
      · by_cases e : i = x
        · subst e; exact set_self hi
        · rw [List.getD_eq_getElem?_getD, List.getElem?_set, if_neg e, ← List.getD_eq_getElem?_getD]; exact h
  unfold putF
  by_cases h : i ∈ onL l
  · rw [decide_eq_true h, cfold_true, if_pos rfl, List.nil_append]
    refine rise_eq (onL_rise _) (onL_rise _) (fun x => ?_)
    rw [onL_mem, onL_mem, key]
    constructor
    · exact .inr
    · rintro (rfl | h')
      · exact onL_mem.1 h
      · exact h'
  · rw [decide_eq_false h, cfold_false, List.nil_append]
    refine rise_eq (insF_rise (onL_rise _) h) (onL_rise _) (fun x => ?_)
    rw [insF_mem, onL_mem, onL_mem, key]
end Go.Proofs.YtamhjgkigjpbhaaDoor
