/- Where the parts of a formula hold on a word, on lists and on trees. Plain. -/
import Derived.Test.YtedohmcnjlhdnaaNnfP
namespace Go.Proofs.Ytedohmcnjlhdnaa

/-- The place behind the place i of a word of n places whose loop begins at lp. -/
def nx (lp n i : Nat) : Nat := if i + 1 < n then i + 1 else lp
theorem nx_lt {lp n i : Nat} (h : lp < n) : nx lp n i < n := by unfold nx; split <;> omega
/-- Is a until b satisfied at a place, looked for through k places? -/
def run (lp n : Nat) (a b : List Bool) : Nat → Nat → Bool
  | 0, _ => false
  | k + 1, i => b.getD i false || (a.getD i false && run lp n a b k (nx lp n i))
def untL (lp : Nat) (a b : List Bool) : List Bool := (List.range a.length).map (run lp a.length a b (a.length + 1))
def flipL (a : List Bool) : List Bool := a.map (!·)
def yesL (n : Nat) : List Bool := List.replicate n true
def place1 (bit : Nat → Bool) (x : Nd) (n lp : Nat) (a b : List Bool) (i : Nat) : Bool :=
  if x.op = 1 then true else if x.op = 3 then bit i else if x.op = 4 then !a.getD i false
  else if x.op = 8 then a.getD (nx lp n i) false else if x.op = 5 then a.getD i false && b.getD i false
  else if x.op = 6 then a.getD i false || b.getD i false else if x.op = 7 then !a.getD i false || b.getD i false else false
/-- At which places a node is satisfied, by those at which its parts are. -/
def placesL (bits : Int → Nat → Bool) (n lp : Nat) (x : Nd) (a b : List Bool) : List Bool :=
  if x.op = 9 then untL lp a b else if x.op = 10 then flipL (untL lp (flipL a) (flipL b)) else if x.op = 11 then untL lp (yesL n) a
  else if x.op = 12 then flipL (untL lp (yesL n) (flipL a)) else (List.range n).map (place1 (bits x.n) x n lp a b)
/-- The places of a tree. -/
def val (bits : Int → Nat → Bool) (n lp : Nat) : Tr → List Bool
  | .leaf x => placesL bits n lp x [] []
  | .un x a => placesL bits n lp x (val bits n lp a) []
  | .bin x a b => placesL bits n lp x (val bits n lp a) (val bits n lp b)

theorem untL_len (lp : Nat) (a b : List Bool) : (untL lp a b).length = a.length := by simp [untL]
theorem flipL_len (a : List Bool) : (flipL a).length = a.length := by simp [flipL]
theorem yesL_len (n : Nat) : (yesL n).length = n := by simp [yesL]
theorem flip_flip (a : List Bool) : flipL (flipL a) = a := by
  rw [flipL, flipL, List.map_map]
  conv => rhs; rw [← List.map_id a]
  exact List.map_congr_left (fun x _ => by simp)
theorem flip_get {a : List Bool} {i : Nat} (h : i < a.length) : (flipL a).getD i false = !a.getD i false := by
  simp [flipL, List.getD, h]
theorem placesL_len {bits : Int → Nat → Bool} {n lp : Nat} {x : Nd} {a b : List Bool} (h : 1 ≤ takes x.op → a.length = n) : (placesL bits n lp x a b).length = n := by
  unfold placesL
  (repeat' split) <;> simp_all [untL_len, flipL_len, yesL_len, takes]
theorem val_len {bits : Int → Nat → Bool} {n lp : Nat} : ∀ t : Tr, t.ok → (val bits n lp t).length = n
  | .leaf x, ⟨h, _⟩ => placesL_len (by omega)
  | .un x a, ⟨_, ha⟩ => placesL_len (fun _ => val_len a ha)
  | .bin x a b, ⟨_, ha, _⟩ => placesL_len (fun _ => val_len a ha)

theorem ext_places {n : Nat} {f g : Nat → Bool} (h : ∀ i, i < n → f i = g i) : (List.range n).map f = (List.range n).map g :=
  List.map_congr_left (fun i hi => h i (List.mem_range.1 hi))
theorem flip_places {n : Nat} {f g : Nat → Bool} (h : ∀ i, i < n → f i = !g i) : (List.range n).map f = flipL ((List.range n).map g) := by
  rw [flipL, List.map_map]; exact ext_places h
theorem leafT {bits : Int → Nat → Bool} {n lp : Nat} (m : Int) : val bits n lp (.leaf ⟨1, m⟩) = yesL n := by
  simp [val, placesL, yesL]
  apply List.ext_getElem <;> simp [place1]
theorem leafF {bits : Int → Nat → Bool} {n lp : Nat} (m : Int) : val bits n lp (.leaf ⟨2, m⟩) = flipL (yesL n) := by
  simp [val, placesL, yesL, flipL]
  apply List.ext_getElem <;> simp [place1]

/-- The positive form holds where the formula does, the negative one where it does not. -/
theorem val_nn {bits : Int → Nat → Bool} {n lp : Nat} (hlp : lp < n) : ∀ (t : Tr) (y : Bool), t.ok → val bits n lp (nn t y) = if y then val bits n lp t else flipL (val bits n lp t)
  | .leaf x, y, ⟨h, _⟩ => by
    obtain ⟨op, m⟩ := x
    rcases takes_zero h with e | e | e
    all_goals dsimp only at e; subst e
    · cases y
      · simpa [nn, leafT] using leafF 0
      · simp [nn, leafT]
    · cases y
      · simp [nn, leafT, leafF, flip_flip]
      · simp [nn, leafF]
    · cases y
      · simp only [nn]
        simp only [val, placesL]
        simp only [if_true, Bool.false_eq_true, if_false, show ¬ ((3 : Int) = 9) by decide, show ¬ ((3 : Int) = 10) by decide, show ¬ ((3 : Int) = 11) by decide, show ¬ ((3 : Int) = 12) by decide]
        apply flip_places
        intro i hi
        simp [place1, List.getD, hi, val, placesL]
      · simp [nn]
  | .un x a, y, ⟨h, ha⟩ => by
    obtain ⟨op, m⟩ := x
    have hl := val_len (bits := bits) (n := n) (lp := lp) a ha
    have i1 := val_nn (bits := bits) hlp a y ha
    have i2 := val_nn (bits := bits) hlp a (!y) ha
    have hneg : ∀ m, val bits n lp (.un ⟨4, m⟩ a) = flipL (val bits n lp a) := by
      intro m
      show placesL bits n lp ⟨4, m⟩ (val bits n lp a) [] = _
      generalize val bits n lp a = v at hl ⊢
      subst hl
      rw [placesL]
      dsimp only
      rw [if_neg (by decide), if_neg (by decide), if_neg (by decide), if_neg (by decide)]
      apply List.ext_getElem
      · simp [flipL]
      · intro j h1 h2
        simp at h1
        simp [flipL, place1, h1, List.getD]
    have hnx : ∀ m v, v.length = n → placesL bits n lp ⟨8, m⟩ (flipL v) [] = flipL (placesL bits n lp ⟨8, m⟩ v []) := by
      intro m v hv
      rw [placesL, placesL]
      dsimp only
      rw [if_neg (by decide), if_neg (by decide), if_neg (by decide), if_neg (by decide), if_neg (by decide), if_neg (by decide), if_neg (by decide), if_neg (by decide)]
      apply flip_places
      intro i hi
      simp only [place1, show ¬ ((8 : Int) = 1) by decide, show ¬ ((8 : Int) = 3) by decide, show ¬ ((8 : Int) = 4) by decide, if_false, if_true]
      exact flip_get (by rw [hv]; exact nx_lt hlp)
    rcases takes_one h with e | e | e | e
    all_goals dsimp only at e; subst e
    · cases y
      · simpa [nn, hneg, flip_flip] using i2
      · simpa [nn, hneg] using i2
    · have e1 : ∀ v, placesL bits n lp ⟨8, 0⟩ v [] = placesL bits n lp ⟨8, m⟩ v [] := fun v => by simp [placesL, place1]
      cases y
      · simp [nn, val] at i1 ⊢
        rw [i1, hnx _ _ hl, e1]
      · simp [nn, val] at i1 ⊢
        rw [i1, e1]
    · cases y
      · simp [nn] at i1 ⊢
        show placesL bits n lp ⟨10, 0⟩ (val bits n lp (.leaf ⟨2, 0⟩)) (val bits n lp (nn a false)) = flipL (placesL bits n lp ⟨11, m⟩ (val bits n lp a) [])
        rw [i1, leafF]
        show placesL bits n lp ⟨10, 0⟩ (flipL (yesL n)) (flipL (val bits n lp a)) = flipL (placesL bits n lp ⟨11, m⟩ (val bits n lp a) [])
        simp [placesL, flip_flip]
      · simp [nn] at i1 ⊢
        show placesL bits n lp ⟨9, 0⟩ (val bits n lp (.leaf ⟨1, 0⟩)) (val bits n lp (nn a true)) = placesL bits n lp ⟨11, m⟩ (val bits n lp a) []
        rw [i1, leafT]
        show placesL bits n lp ⟨9, 0⟩ (yesL n) (val bits n lp a) = placesL bits n lp ⟨11, m⟩ (val bits n lp a) []
        simp [placesL]
    · cases y
      · simp [nn] at i1 ⊢
        show placesL bits n lp ⟨9, 0⟩ (val bits n lp (.leaf ⟨1, 0⟩)) (val bits n lp (nn a false)) = flipL (placesL bits n lp ⟨12, m⟩ (val bits n lp a) [])
        rw [i1, leafT]
        show placesL bits n lp ⟨9, 0⟩ (yesL n) (flipL (val bits n lp a)) = flipL (placesL bits n lp ⟨12, m⟩ (val bits n lp a) [])
        simp [placesL, flip_flip]
      · simp [nn] at i1 ⊢
        show placesL bits n lp ⟨10, 0⟩ (val bits n lp (.leaf ⟨2, 0⟩)) (val bits n lp (nn a true)) = placesL bits n lp ⟨12, m⟩ (val bits n lp a) []
        rw [i1, leafF]
        show placesL bits n lp ⟨10, 0⟩ (flipL (yesL n)) (val bits n lp a) = placesL bits n lp ⟨12, m⟩ (val bits n lp a) []
        simp [placesL, flip_flip]
  | .bin x a b, y, ⟨h, ha, hb⟩ => by
    obtain ⟨op, m⟩ := x
    have hla := val_len (bits := bits) (n := n) (lp := lp) a ha
    have hlb := val_len (bits := bits) (n := n) (lp := lp) b hb
    have a1 := val_nn (bits := bits) hlp a y ha
    have a2 := val_nn (bits := bits) hlp a (!y) ha
    have b1 := val_nn (bits := bits) hlp b y hb
    have hn : ∀ m, nn (.bin ⟨op, m⟩ a b) y = nn (.bin ⟨op, 0⟩ a b) y := fun m => by unfold nn; rfl
    have hm : ∀ m m' u v, takes op = 2 → placesL bits n lp ⟨op, m⟩ u v = placesL bits n lp ⟨op, m'⟩ u v := by
      intro m m' u v ht
      rcases takes_two ht with e | e | e | e | e <;> subst e <;> simp [placesL, place1]
    have hp : ∀ (p q : Int) (u v u' v' : List Bool), p < 9 → q < 9 → (∀ i, i < n → place1 (bits 0) ⟨p, 0⟩ n lp u v i = !place1 (bits 0) ⟨q, 0⟩ n lp u' v' i) → placesL bits n lp ⟨p, 0⟩ u v = flipL (placesL bits n lp ⟨q, 0⟩ u' v') := by
      intro p q u v u' v' h1 h2 hh
      rw [placesL, placesL]
      dsimp only
      rw [if_neg (by omega), if_neg (by omega), if_neg (by omega), if_neg (by omega), if_neg (by omega), if_neg (by omega), if_neg (by omega), if_neg (by omega)]
      exact flip_places hh
    have fa : ∀ i, i < n → (flipL (val bits n lp a)).getD i false = !(val bits n lp a).getD i false := fun i hi => flip_get (by rw [hla]; exact hi)
    have fb : ∀ i, i < n → (flipL (val bits n lp b)).getD i false = !(val bits n lp b).getD i false := fun i hi => flip_get (by rw [hlb]; exact hi)
    rw [hn m]
    rw [show val bits n lp (.bin ⟨op, m⟩ a b) = placesL bits n lp ⟨op, 0⟩ (val bits n lp a) (val bits n lp b) from hm m 0 _ _ h]
    rcases takes_two h with e | e | e | e | e
    all_goals dsimp only at e; subst e
    · cases y
      · simp [nn, val] at a1 b1 ⊢
        rw [a1, b1]
        refine hp _ _ _ _ _ _ (by decide) (by decide) (fun i hi => ?_)
        simp only [place1, fa i hi, fb i hi]
        simp
      · simp [nn, val] at a1 b1 ⊢
        rw [a1, b1]
    · cases y
      · simp [nn, val] at a1 b1 ⊢
        rw [a1, b1]
        refine hp _ _ _ _ _ _ (by decide) (by decide) (fun i hi => ?_)
        simp only [place1, fa i hi, fb i hi]
        simp
      · simp [nn, val] at a1 b1 ⊢
        rw [a1, b1]
    · cases y
      · simp [nn, val] at a2 b1 ⊢
        rw [a2, b1]
        refine hp _ _ _ _ _ _ (by decide) (by decide) (fun i hi => ?_)
        simp only [place1, fb i hi]
        simp
      · simp [nn, val] at a2 b1 ⊢
        rw [a2, b1]
        rw [placesL, placesL]
        dsimp only
        rw [if_neg (by decide), if_neg (by decide), if_neg (by decide), if_neg (by decide), if_neg (by decide), if_neg (by decide), if_neg (by decide), if_neg (by decide)]
        apply ext_places
        intro i hi
        simp only [place1, fa i hi]
        simp
    · cases y
      · simp [nn, val] at a1 b1 ⊢
        rw [a1, b1]; simp [placesL, flip_flip]
      · simp [nn, val] at a1 b1 ⊢
        rw [a1, b1]
    · cases y
      · simp [nn, val] at a1 b1 ⊢
        rw [a1, b1]; simp [placesL, flip_flip]
      · simp [nn, val] at a1 b1 ⊢
        rw [a1, b1]
end Go.Proofs.Ytedohmcnjlhdnaa
