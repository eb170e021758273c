/- The rows of all nodes, one by one, and those of a tree's parts. Plain. -/
import Derived.Test.YtedohmcnjlhdnaaWordP
namespace Go.Proofs.Ytedohmcnjlhdnaa

/-- The parts of a node x that stands at k, by how many it takes. -/
def parts0 (s : List Int) (k : Nat) (x : Nd) : Int × Int :=
  if takes x.op = 1 then ((k : Int) - 1, -1) else if takes x.op = 2 then (s[k - 1]?.getD 0 - 1, (k : Int) - 1) else (-1, -1)
def getR (L : List (List Bool)) (l : Int) : List Bool := if 0 ≤ l then L.getD l.toNat [] else []
def rowsL (bits : Int → Nat → Bool) (n lp : Nat) (f : List Nd) (s : List Int) : Nat → List (List Bool)
  | 0 => []
  | k + 1 => rowsL bits n lp f s k ++ [placesL bits n lp (f.getD k ⟨0, 0⟩) (getR (rowsL bits n lp f s k) (parts0 s k (f.getD k ⟨0, 0⟩)).1) (getR (rowsL bits n lp f s k) (parts0 s k (f.getD k ⟨0, 0⟩)).2)]

section
variable {bits : Int → Nat → Bool} {n lp : Nat} {f : List Nd} {s : List Int}
theorem rowsL_len : ∀ k, (rowsL bits n lp f s k).length = k
  | 0 => rfl
  | k + 1 => by rw [rowsL, List.length_append, rowsL_len k]; rfl
theorem rowsL_up {j : Nat} {r : List Bool} : ∀ {k d : Nat}, (rowsL bits n lp f s k)[j]? = some r → (rowsL bits n lp f s (k + d))[j]? = some r
  | _, 0, h => h
  | k, d + 1, h => by
    have ih := rowsL_up (d := d) h
    rw [← Nat.add_assoc, rowsL, List.getElem?_append_left (List.getElem?_eq_some_iff.1 ih).1]
    exact ih
theorem rowsL_at {k : Nat} {x : Nd} (h : f[k]? = some x) :
    (rowsL bits n lp f s (k + 1))[k]? = some (placesL bits n lp x (getR (rowsL bits n lp f s k) (parts0 s k x).1) (getR (rowsL bits n lp f s k) (parts0 s k x).2)) := by
  have : f.getD k ⟨0, 0⟩ = x := by simp [List.getD, h]
  rw [rowsL, this, List.getElem?_append_right (by rw [rowsL_len]; exact Nat.le_refl _), rowsL_len]
  simp
theorem getR_some {L : List (List Bool)} {j : Nat} {r : List Bool} (h : L[j]? = some r) : getR L (j : Int) = r := by
  simp [getR, List.getD, h]
theorem getR_neg {L : List (List Bool)} : getR L (-1) = [] := rfl

theorem at_rows : ∀ (t : Tr) (b k : Nat), t.ok → At f s b t → k + 1 = b + t.size → (rowsL bits n lp f s (k + 1))[k]? = some (val bits n lp t)
  | .leaf x, b, k, ⟨h, _⟩, hat, hk => by
    have hr := (at_root hat hk).1
    rw [rowsL_at hr]
    simp [Tr.root, parts0, h, getR_neg, val]
  | .un x a, b, k, ⟨h, ha⟩, hat, hk => by
    have hr := (at_root hat hk).1
    rw [rowsL_at hr]
    simp only [Tr.size] at hk
    obtain ⟨j, hj⟩ : ∃ j, j + 1 = b + a.size := ⟨b + a.size - 1, by have := a.size_pos; omega⟩
    have ih := at_rows a b j ha hat.1 hj
    have ejk : j + 1 = k := by omega
    rw [ejk] at ih
    have e : parts0 s k x = ((j : Int), -1) := by unfold parts0; rw [if_pos h, show (k : Int) - 1 = j by omega]
    simp only [Tr.root, e, getR_neg, getR_some ih, val]
  | .bin x a c, b, k, ⟨h, ha, hc⟩, hat, hk => by
    have hr := (at_root hat hk).1
    rw [rowsL_at hr]
    simp only [Tr.size] at hk
    obtain ⟨j, hj⟩ : ∃ j, j + 1 = b + a.size := ⟨b + a.size - 1, by have := a.size_pos; omega⟩
    obtain ⟨i, hi⟩ : ∃ i, i + 1 = b + a.size + c.size := ⟨b + a.size + c.size - 1, by have := c.size_pos; omega⟩
    have ih1 := at_rows a b j ha hat.1 hj
    have ih2 := at_rows c (b + a.size) i hc hat.2.1 hi
    have eik : i + 1 = k := by omega
    rw [eik] at ih2
    have ih1' := rowsL_up (d := k - (j + 1)) ih1
    rw [show j + 1 + (k - (j + 1)) = k by omega] at ih1'
    have hs := (at_root hat.2.1 hi).2
    have e : parts0 s k x = ((j : Int), (i : Int)) := by
      unfold parts0
      rw [if_neg (by omega), if_pos h, show k - 1 = i by omega, hs]
      simp only [Option.getD_some]
      congr 1 <;> omega
    simp only [Tr.root, e, getR_some ih1', getR_some ih2, val]

/-- Each node of a tree is the last one of a part. -/
theorem at_sub : ∀ (t : Tr) (b k : Nat), t.ok → At f s b t → b ≤ k → k < b + t.size → ∃ b' t', t'.ok ∧ At f s b' t' ∧ k + 1 = b' + t'.size
  | .leaf x, b, k, hok, hat, h1, h2 => ⟨b, .leaf x, hok, hat, by simp only [Tr.size] at *; omega⟩
  | .un x a, b, k, hok, hat, h1, h2 => by
    by_cases h : k < b + a.size
    · exact at_sub a b k hok.2 hat.1 h1 h
    · exact ⟨b, .un x a, hok, hat, by simp only [Tr.size] at *; omega⟩
  | .bin x a c, b, k, hok, hat, h1, h2 => by
    by_cases h : k < b + a.size
    · exact at_sub a b k hok.2.1 hat.1 h1 h
    · by_cases h' : k < b + a.size + c.size
      · exact at_sub c (b + a.size) k hok.2.2 hat.2.1 (by omega) h'
      · exact ⟨b, .bin x a c, hok, hat, by simp only [Tr.size] at *; omega⟩

/-- What each step of a good formula meets. -/
structure StepR (bits : Int → Nat → Bool) (n lp : Nat) (f : List Nd) (s : List Int) (k : Nat) (x : Nd) : Prop where
  l_lt : (parts0 s k x).1 < k
  r_lt : (parts0 s k x).2 < k
  l_ge : -1 ≤ (parts0 s k x).1
  r_ge : -1 ≤ (parts0 s k x).2
  l_one : 1 ≤ takes x.op → 0 ≤ (parts0 s k x).1
  r_two : 2 ≤ takes x.op → 0 ≤ (parts0 s k x).2
  zero : takes x.op = 0 → (parts0 s k x) = (-1, -1)
  one : takes x.op = 1 → (parts0 s k x).2 = -1
  two : takes x.op = 2 → 1 ≤ k ∧ ∃ v : Int, s[k - 1]? = some v ∧ 0 ≤ v ∧ v ≤ k
  l_len : 0 ≤ (parts0 s k x).1 → (getR (rowsL bits n lp f s k) (parts0 s k x).1).length = n
  r_len : 0 ≤ (parts0 s k x).2 → (getR (rowsL bits n lp f s k) (parts0 s k x).2).length = n
theorem step_r (hw : wrong f = 0) {k : Nat} {x : Nd} (hx : f[k]? = some x) : StepR bits n lp f (spans f) k x := by
  obtain ⟨t, hok, rfl⟩ := parse hw
  have hk : k < t.flat.length := (List.getElem?_eq_some_iff.1 hx).1
  obtain ⟨b, t', hok', hat', hk'⟩ := at_sub t 0 k hok (at_whole hok) (by omega) (by rw [t.flat_len] at hk; omega)
  have hr := (at_root hat' hk').1
  rw [hx] at hr
  cases hr
  have len : ∀ (u : Tr) (c j : Nat), u.ok → At t.flat (spans t.flat) c u → j + 1 = c + u.size → j + 1 ≤ k → (getR (rowsL bits n lp t.flat (spans t.flat) k) (j : Int)).length = n := by
    intro u c j hu ha hj hjk
    have := rowsL_up (d := k - (j + 1)) (at_rows (bits := bits) (n := n) (lp := lp) u c j hu ha hj)
    rw [show j + 1 + (k - (j + 1)) = k by omega] at this
    rw [getR_some this]
    exact val_len u hu
  match t', hok', hat', hk' with
  | .leaf y, ⟨h, _⟩, hat, hk =>
    have e : parts0 (spans t.flat) k (Tr.leaf y).root = (-1, -1) := by simp [parts0, Tr.root, h]
    have h' : takes (Tr.leaf y).root.op = 0 := h
    constructor <;> (try rw [e]) <;> (try rw [h']) <;> intros <;> (try dsimp only at *) <;> (try omega) <;> (try simp_all)
  | .un y a, ⟨h, ha⟩, hat, hk =>
    simp only [Tr.size] at hk
    obtain ⟨j, hj⟩ : ∃ j, j + 1 = b + a.size := ⟨b + a.size - 1, by have := a.size_pos; omega⟩
    have e : parts0 (spans t.flat) k (Tr.un y a).root = ((j : Int), -1) := by
      simp only [Tr.root]; unfold parts0; rw [if_pos h, show (k : Int) - 1 = j by omega]
    have h' : takes (Tr.un y a).root.op = 1 := h
    have hl := len a b j ha hat.1 hj (by omega)
    constructor <;> (try rw [e]) <;> (try rw [h']) <;> intros <;> (try dsimp only at *) <;> (try omega) <;> (try simp_all)
  | .bin y a c, ⟨h, ha, hc⟩, hat, hk =>
    simp only [Tr.size] at hk
    obtain ⟨j, hj⟩ : ∃ j, j + 1 = b + a.size := ⟨b + a.size - 1, by have := a.size_pos; omega⟩
    obtain ⟨i, hi⟩ : ∃ i, i + 1 = b + a.size + c.size := ⟨b + a.size + c.size - 1, by have := c.size_pos; omega⟩
    have hs := (at_root hat.2.1 hi).2
    have e : parts0 (spans t.flat) k (Tr.bin y a c).root = ((j : Int), (i : Int)) := by
      simp only [Tr.root]
      unfold parts0
      rw [if_neg (by omega), if_pos h, show k - 1 = i by omega, hs]
      simp only [Option.getD_some]
      congr 1 <;> omega
    have h' : takes (Tr.bin y a c).root.op = 2 := h
    have hl := len a b j ha hat.1 hj (by omega)
    have hr := len c (b + a.size) i hc hat.2.1 hi (by omega)
    have hs' : (spans t.flat)[k - 1]? = some ((b + a.size : Nat) : Int) := by rw [show k - 1 = i by omega]; exact hs
    constructor <;> (try rw [e]) <;> (try rw [h']) <;> intros <;> (try dsimp only at *) <;> (try omega) <;> (try first | exact hl | exact hr | exact ⟨by omega, _, hs', by omega, by omega⟩)
/-- The last row of a formula is the tree's. -/
theorem rows_last (hw : wrong f = 0) : (rowsL bits n lp f (spans f) f.length)[f.length - 1]? = some (val bits n lp (treeOf f)) := by
  obtain ⟨hok, hfl⟩ := treeOf_ok hw
  have hp := (treeOf f).size_pos
  have hl := (treeOf f).flat_len
  rw [hfl] at hl
  have := at_rows (bits := bits) (n := n) (lp := lp) (f := f) (s := spans f) (treeOf f) 0 (f.length - 1) hok (by have := at_whole hok; rwa [hfl] at this) (by omega)
  rwa [show f.length - 1 + 1 = f.length by omega] at this
/-- The whole formula's row: that of its form, and the other way round that of its negative form. -/
theorem rows_form (hlp : lp < n) (hw : wrong f = 0) (y : Bool) :
    (rowsL bits n lp (formL f y) (spans (formL f y)) (formL f y).length)[(formL f y).length - 1]? = some (if y then val bits n lp (treeOf f) else flipL (val bits n lp (treeOf f))) := by
  rw [rows_last (formL_good hw y).1]
  obtain ⟨hok, hfl⟩ := treeOf_ok hw
  rw [← val_nn hlp (treeOf f) y hok, formL, if_pos hw, treeOf_flat (nn_ok _ _ hok).1]
theorem val_flat (hw : wrong f = 0) : (val bits n lp (treeOf f)).length = n := val_len _ (treeOf_ok hw).1
end
end Go.Proofs.Ytedohmcnjlhdnaa
