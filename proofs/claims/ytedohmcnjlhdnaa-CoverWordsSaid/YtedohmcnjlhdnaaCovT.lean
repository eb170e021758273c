/- What holds at a place, node by node, of a formula in negation normal form. Plain. -/
import Derived.Test.YtedohmcnjlhdnaaMs
import Derived.Test.YtedohmcnjlhdnaaMa
namespace Go.Proofs.Ytedohmcnjlhdnaa

section
variable {bits : Int → Nat → Bool} {n lp : Nat} {f : List Nd}
/-- Does the part that ends at node k hold at place i? -/
def holdsAt (bits : Int → Nat → Bool) (n lp : Nat) (f : List Nd) (k i : Nat) : Bool := ((rowsL bits n lp f (spans f) f.length).getD k []).getD i false
theorem holdsAt_sub {t : Tr} {b k : Nat} (hok : t.ok) (hat : At f (spans f) b t) (hk : k + 1 = b + t.size) (hl : k < f.length) (i : Nat) : holdsAt bits n lp f k i = sat bits n lp t i := by
  have h1 := at_rows (bits := bits) (n := n) (lp := lp) t b k hok hat hk
  have h2 := rowsL_up (d := f.length - (k + 1)) h1
  rw [show k + 1 + (f.length - (k + 1)) = f.length by omega] at h2
  rw [holdsAt, List.getD_eq_getElem?_getD (l := rowsL bits n lp f (spans f) f.length), h2]; rfl
/-- What a node asks. -/
structure NodeEq (bits : Int → Nat → Bool) (n lp : Nat) (f : List Nd) (k : Nat) (x : Nd) (l r : Nat) : Prop where
  op : x.op = 1 ∨ x.op = 2 ∨ x.op = 3 ∨ x.op = 4 ∨ x.op = 5 ∨ x.op = 6 ∨ x.op = 8 ∨ x.op = 9 ∨ x.op = 10
  rng : x.op = 3 → 0 ≤ x.n ∧ x.n < 8
  kid0 : x.op = 1 ∨ x.op = 2 ∨ x.op = 3 → kids f k = (-1, -1)
  kid1 : x.op = 4 ∨ x.op = 8 → kids f k = ((l : Int), -1) ∧ l < k ∧ l + 1 = k
  kid2 : x.op = 5 ∨ x.op = 6 ∨ x.op = 9 ∨ x.op = 10 → kids f k = ((l : Int), (r : Int)) ∧ l < k ∧ r < k ∧ r + 1 = k
  lit : x.op = 4 → ∃ y, f[l]? = some y ∧ y.op = 3 ∧ 0 ≤ y.n ∧ y.n < 8
  tru : x.op = 1 → ∀ i, i < n → holdsAt bits n lp f k i = true
  fls : x.op = 2 → ∀ i, i < n → holdsAt bits n lp f k i = false
  prop : x.op = 3 → ∀ i, i < n → holdsAt bits n lp f k i = bits x.n i
  not_ : x.op = 4 → ∀ i, i < n → ∀ y, f[l]? = some y → holdsAt bits n lp f k i = !bits y.n i
  and_ : x.op = 5 → ∀ i, i < n → holdsAt bits n lp f k i = (holdsAt bits n lp f l i && holdsAt bits n lp f r i)
  or_ : x.op = 6 → ∀ i, i < n → holdsAt bits n lp f k i = (holdsAt bits n lp f l i || holdsAt bits n lp f r i)
  next : x.op = 8 → ∀ i, i < n → holdsAt bits n lp f k i = holdsAt bits n lp f l (nx lp n i)
  until_ : x.op = 9 → ∀ i, i < n → holdsAt bits n lp f k i = (holdsAt bits n lp f r i || (holdsAt bits n lp f l i && holdsAt bits n lp f k (nx lp n i)))
  rel : x.op = 10 → ∀ i, i < n → holdsAt bits n lp f k i = (holdsAt bits n lp f r i && (holdsAt bits n lp f l i || holdsAt bits n lp f k (nx lp n i)))
/-- Each node of a tree in negation normal form is the last one of a part in that form. -/
theorem at_subN {s : List Int} : ∀ (t : Tr) (b k : Nat), t.ok → t.nnf → At f s b t → b ≤ k → k < b + t.size → ∃ b' t', t'.ok ∧ t'.nnf ∧ At f s b' t' ∧ k + 1 = b' + t'.size
  | .leaf x, b, k, hok, hn, hat, h1, h2 => ⟨b, .leaf x, hok, hn, hat, by simp only [Tr.size] at *; omega⟩
  | .un x a, b, k, hok, hn, hat, h1, h2 => by
    by_cases h : k < b + a.size
    · have hna : a.nnf := by
        rcases hn with ⟨_, h⟩ | ⟨_, p, rfl, _⟩
        · exact h
        · trivial
      exact at_subN a b k hok.2 hna hat.1 h1 h
    · exact ⟨b, .un x a, hok, hn, hat, by simp only [Tr.size] at *; omega⟩
  | .bin x a c, b, k, hok, hn, hat, h1, h2 => by
    by_cases h : k < b + a.size
    · exact at_subN a b k hok.2.1 hn.2.1 hat.1 h1 h
    · by_cases h' : k < b + a.size + c.size
      · exact at_subN c (b + a.size) k hok.2.2 hn.2.2 hat.2.1 (by omega) h'
      · exact ⟨b, .bin x a c, hok, hn, hat, by simp only [Tr.size] at *; omega⟩
theorem node_eq (hN : isN f = true) (hlp : lp < n) {k : Nat} {x : Nd} (hx : f[k]? = some x) : ∃ l r : Nat, NodeEq bits n lp f k x l r := by
  obtain ⟨t, hok, hn, rfl⟩ := isN_tree hN
  have hw := isN_good hN
  have hk : k < t.flat.length := (List.getElem?_eq_some_iff.1 hx).1
  obtain ⟨b, t', hok', hn', hat', hk'⟩ := at_subN t 0 k hok hn (at_whole hok) (by omega) (by rw [t.flat_len] at hk; omega)
  have hr := (at_root hat' hk').1
  rw [hx] at hr
  have hx' : t.flat[k] = x := by rw [List.getElem?_eq_getElem hk] at hx; exact Option.some.inj hx
  have hkids := kids_at hw hk
  rw [hx'] at hkids
  have hK : ∀ i, holdsAt bits n lp t.flat k i = sat bits n lp t' i := holdsAt_sub hok' hat' hk' hk
  match t', hok', hn', hat', hk', hr, hK with
  | .leaf y, ⟨h, h3⟩, hn', hat', hk', hr, hK =>
    have e : x = y := Option.some.inj hr
    subst e
    have ht := takes_zero h
    rw [h] at hkids
    obtain ⟨xo, xn⟩ := x
    refine ⟨0, 0, ?_⟩
    constructor <;> intros <;> (try dsimp only at *) <;> (try omega) <;> (try (exact hkids))
    · rename_i e i hi; rw [hK]; subst e; exact sat_true hi
    · rename_i e i hi; rw [hK]; subst e; exact sat_false hi
    · rename_i e i hi; rw [hK]; subst e; exact sat_prop hi
  | .un y a, ⟨h, ha⟩, hn', hat', hk', hr, hK =>
    have e : x = y := Option.some.inj hr
    subst e
    simp only [Tr.size] at hk'
    obtain ⟨j, hj⟩ : ∃ j, j + 1 = b + a.size := ⟨b + a.size - 1, by have := a.size_pos; omega⟩
    have hA : ∀ i, holdsAt bits n lp t.flat j i = sat bits n lp a i := holdsAt_sub ha hat'.1 hj (by omega)
    rw [h] at hkids
    have hkk : kids t.flat k = ((j : Int), -1) := by rw [hkids, if_pos rfl, show (k : Int) - 1 = j by omega]
    obtain ⟨xo, xn⟩ := x
    rcases hn' with ⟨e8, _⟩ | ⟨e4, p, rfl, hp⟩
    · dsimp only at e8; subst e8
      refine ⟨j, 0, ?_⟩
      constructor <;> intros <;> (try dsimp only at *) <;> (try omega) <;> (try (exact ⟨hkk, by omega, by omega⟩))
      · rename_i i hi; rw [hK, hA]; exact sat_next hi
    · dsimp only at e4; subst e4
      have hroot := (at_root hat'.1 hj).1
      have h3 := ha.2 hp
      refine ⟨j, 0, ?_⟩
      constructor <;> intros <;> (try dsimp only at *) <;> (try omega) <;> (try (exact ⟨hkk, by omega, by omega⟩))
      · exact ⟨p, hroot, hp, h3⟩
      · rename_i i hi y hy
        have hj' : t.flat[j]? = some p := hroot
        rw [hj'] at hy
        cases hy
        rw [hK, sat_not hi]
        obtain ⟨po, pn⟩ := p
        dsimp only at hp
        subst hp
        rw [sat_prop hi]
  | .bin y a c, ⟨h, ha, hc⟩, hn', hat', hk', hr, hK =>
    have e : x = y := Option.some.inj hr
    subst e
    simp only [Tr.size] at hk'
    obtain ⟨j, hj⟩ : ∃ j, j + 1 = b + a.size := ⟨b + a.size - 1, by have := a.size_pos; omega⟩
    obtain ⟨m, hm⟩ : ∃ m, m + 1 = b + a.size + c.size := ⟨b + a.size + c.size - 1, by have := c.size_pos; omega⟩
    have hc0 := c.size_pos
    have hA : ∀ i, holdsAt bits n lp t.flat j i = sat bits n lp a i := holdsAt_sub ha hat'.1 hj (by omega)
    have hC : ∀ i, holdsAt bits n lp t.flat m i = sat bits n lp c i := holdsAt_sub hc hat'.2.1 hm (by omega)
    rw [h] at hkids
    have hs := (at_root hat'.2.1 hm).2
    have hkk : kids t.flat k = ((j : Int), (m : Int)) := by
      rw [hkids, if_neg (by decide), if_pos rfl, show k - 1 = m by omega, hs]
      simp only [Option.getD_some]
      congr 1 <;> omega
    have ho := hn'.1
    obtain ⟨xo, xn⟩ := x
    refine ⟨j, m, ?_⟩
    constructor <;> intros <;> (try dsimp only at *) <;> (try omega) <;> (try (exact ⟨hkk, by omega, by omega, by omega⟩))
    · rename_i e i hi; subst e; rw [hK, hA, hC]; exact sat_and hi
    · rename_i e i hi; subst e; rw [hK, hA, hC]; exact sat_or hi
    · rename_i e i hi; subst e; rw [hK, hK, hA, hC]; exact sat_until hlp ha hi
    · rename_i e i hi; subst e; rw [hK, hK, hA, hC]; exact sat_rel hlp ha hc hi
end
end Go.Proofs.Ytedohmcnjlhdnaa
