/- What the rows of untils, releases, finallys and always say, from their parts' rows. Plain. -/
import Derived.Test.YtkikkplpalabhaaMp
import Derived.Test.YtkikkplpalabhaaWdT
namespace Go.Proofs.Ytkikkplpalabhaa

section
variable {bits : Int → Nat → Bool} {n lp : Nat} {f : List Nd}
theorem kids_parts (hw : wrong f = 0) {k : Nat} (hk : k < f.length) : kids f k = parts0 (spans f) k f[k] := by
  rw [kids_at hw hk, parts0]
/-- A node's row, from its parts' rows. -/
theorem rowsF_at (hw : wrong f = 0) {k : Nat} (hk : k < f.length) : (rowsF bits n lp f)[k]? = some (placesL bits n lp f[k] (getR (rowsF bits n lp f) (kids f k).1) (getR (rowsF bits n lp f) (kids f k).2)) := by
  have hx : f[k]? = some f[k] := by simp [hk]
  have hs := step_r (bits := bits) (n := n) (lp := lp) hw hx
  have h0 := rowsL_at (bits := bits) (n := n) (lp := lp) (s := spans f) hx
  have h1 := rowsL_up (d := f.length - (k + 1)) h0
  rw [show k + 1 + (f.length - (k + 1)) = f.length by omega, ← rowsF_rowsL hw] at h1
  have key : ∀ l : Int, -1 ≤ l → l < k → getR (rowsL bits n lp f (spans f) k) l = getR (rowsF bits n lp f) l := by
    intro l h1 h2
    by_cases h0 : 0 ≤ l
    · obtain ⟨j, rfl⟩ := Int.eq_ofNat_of_zero_le h0
      have hj : j < (rowsL bits n lp f (spans f) k).length := by rw [rowsL_len]; omega
      have hu := rowsL_up (d := f.length - k) (List.getElem?_eq_getElem hj)
      rw [show k + (f.length - k) = f.length by omega, ← rowsF_rowsL hw] at hu
      rw [getR_some (List.getElem?_eq_getElem hj), getR_some hu]
    · simp [getR, h0]
  rw [h1, kids_parts hw hk, key _ hs.l_ge hs.l_lt, key _ hs.r_ge hs.r_lt]
/-- What the law asks of a node of one or two parts. -/
structure FixAt (bits : Int → Nat → Bool) (n lp : Nat) (f : List Nd) (k : Nat) (a b : List Bool) : Prop where
  l0 : 0 ≤ (kids f k).1
  l1 : (kids f k).1 < f.length
  r1 : (kids f k).2 < f.length
  al : (getR (rowsF bits n lp f) (kids f k).1).length = n
  bl : 0 ≤ (kids f k).2 → (getR (rowsF bits n lp f) (kids f k).2).length = n
theorem fix_at (hw : wrong f = 0) {k : Nat} (hk : k < f.length) (ht : 1 ≤ takes f[k].op) : 0 ≤ (kids f k).1 ∧ (kids f k).1 < f.length ∧ -1 ≤ (kids f k).2 ∧ (kids f k).2 < f.length ∧ (takes f[k].op = 1 → (kids f k).2 = -1) ∧ (2 ≤ takes f[k].op → 0 ≤ (kids f k).2) := by
  have hx : f[k]? = some f[k] := by simp [hk]
  have hs := step_r (bits := fun _ _ => false) (n := 1) (lp := 0) hw hx
  rw [kids_parts hw hk]
  have h1 := hs.l_lt
  have h2 := hs.r_lt
  exact ⟨hs.l_one ht, by omega, hs.r_ge, by omega, hs.one, hs.r_two⟩
/-- The two rows that the law lays: the left part's (yes, where there is none) and the right one's, both turned round or not. -/
def lawA (op : Int) (r : Int) (n : Nat) (a : List Bool) : List Bool := (List.range n).map fun k => decide (r < 0) || (a.getD k false != (decide (op = 10) || decide (op = 12)))
def lawB (op : Int) (r : Int) (n : Nat) (a b : List Bool) : List Bool := (List.range n).map fun k => ((if r < 0 then a else b).getD k false != (decide (op = 10) || decide (op = 12)))
theorem run_congr {a b a' b' : List Bool} (hlp : lp < n) (ha : ∀ k, k < n → a.getD k false = a'.getD k false) (hb : ∀ k, k < n → b.getD k false = b'.getD k false) : ∀ d i, i < n → run lp n a b d i = run lp n a' b' d i
  | 0, _, _ => rfl
  | d + 1, i, hi => by rw [run, run, ha i hi, hb i hi, run_congr hlp ha hb d _ (nx_lt hlp)]
theorem range_map_get {F : Nat → Bool} {k : Nat} (h : k < n) : ((List.range n).map F).getD k false = F k := range_get _ h
theorem law_fix {x : Nd} {a b : List Bool} {r : Int} (hlp : lp < n) (ha : a.length = n) (hb : 0 ≤ r → b.length = n) (hop : x.op = 9 ∨ x.op = 10 ∨ x.op = 11 ∨ x.op = 12) (h1 : takes x.op = 1 → r < 0) (h2 : 2 ≤ takes x.op → 0 ≤ r) {k : Nat} (hk : k < n) :
    ((placesL bits n lp x a b).getD k false != (decide (x.op = 10) || decide (x.op = 12))) = run lp n (lawA x.op r n a) (lawB x.op r n a b) (2 * n + 1) k := by
  rw [run_sat hlp _ _ (by omega) hk]
  rcases hop with h | h | h | h
  · have hr : ¬ r < 0 := by have := h2 (by rw [h]; decide); omega
    have hbl := hb (by omega)
    rw [placesL, if_pos h]
    simp only [h, show ¬ ((9 : Int) = 10) by decide, show ¬ ((9 : Int) = 12) by decide, decide_false, Bool.or_false, Bool.bne_false]
    rw [untL, range_get _ (by omega), ha]
    exact run_congr hlp (fun i hi => by rw [lawA, range_map_get hi]; simp [hr]) (fun i hi => by rw [lawB, range_map_get hi]; simp [hr]) _ _ hk
  · have hr : ¬ r < 0 := by have := h2 (by rw [h]; decide); omega
    have hbl := hb (by omega)
    rw [placesL, if_neg (by omega), if_pos h]
    simp only [h, decide_true, Bool.true_or, Bool.bne_true]
    rw [flip_get (by rw [untL_len, flipL_len, ha]; exact hk), Bool.not_not, untL, flipL_len, range_get _ (by omega), ha]
    exact run_congr hlp (fun i hi => by rw [lawA, range_map_get hi, flip_get (by omega)]; simp [hr]) (fun i hi => by rw [lawB, range_map_get hi, flip_get (by omega)]; simp [hr]) _ _ hk
  · have hr : r < 0 := h1 (by rw [h]; decide)
    rw [placesL, if_neg (by omega), if_neg (by omega), if_pos h]
    simp only [h, show ¬ ((11 : Int) = 10) by decide, show ¬ ((11 : Int) = 12) by decide, decide_false, Bool.or_false, Bool.bne_false]
    rw [untL, yesL_len, range_get _ hk]
    exact run_congr hlp (fun i hi => by rw [lawA, range_map_get hi, yes_get hi]; simp [hr]) (fun i hi => by rw [lawB, range_map_get hi]; simp [hr]) _ _ hk
  · have hr : r < 0 := h1 (by rw [h]; decide)
    rw [placesL, if_neg (by omega), if_neg (by omega), if_neg (by omega), if_pos h]
    simp only [h, decide_true, Bool.or_true, Bool.bne_true]
    rw [flip_get (by rw [untL_len, yesL_len]; exact hk), Bool.not_not, untL, yesL_len, range_get _ hk]
    exact run_congr hlp (fun i hi => by rw [lawA, range_map_get hi, yes_get hi]; simp [hr]) (fun i hi => by rw [lawB, range_map_get hi, flip_get (by omega)]; simp [hr]) _ _ hk
end
end Go.Proofs.Ytkikkplpalabhaa
