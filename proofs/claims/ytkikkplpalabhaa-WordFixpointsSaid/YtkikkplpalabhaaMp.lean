/- Texts of one kind, in one file. -/
import Derived.Test.YtkikkplpalabhaaMa

/- (XWdP) Truth on a word, row by row: two sweeps from the end settle an until, and a stack of rows gives each part's. Plain. -/
namespace Go.Proofs.Ytkikkplpalabhaa

def swd (of : Nat → Bool → Bool) (n : Nat) (c : Bool) : Nat → Bool
  | 0 => of (n - 1) c
  | d + 1 => of (n - 1 - (d + 1)) (swd of n c d)
/-- One sweep from the end: c is what stood at the loop's first place. -/
def sw (of : Nat → Bool → Bool) (n : Nat) (c : Bool) (k : Nat) : Bool := swd of n c (n - 1 - k)
theorem sw_at (of : Nat → Bool → Bool) {n : Nat} (c : Bool) {k : Nat} (h : k < n) : sw of n c k = of k (if k + 1 < n then sw of n c (k + 1) else c) := by
  split
  · rename_i h1
    obtain ⟨d, hd⟩ : ∃ d, n - 1 - k = d + 1 := ⟨n - 1 - k - 1, by omega⟩
    rw [sw, hd, swd, sw, show n - 1 - (k + 1) = d by omega, show n - 1 - (d + 1) = k by omega]
  · rw [sw, show n - 1 - k = 0 by omega, swd, show n - 1 = k by omega]
theorem sw_fixed {of : Nat → Bool → Bool} {lp n : Nat} {u : Nat → Bool} (h : ∀ k, k < n → u k = of k (u (nx lp n k))) : ∀ d k, k + d + 1 = n → u k = sw of n (u lp) k
  | 0, k, hd => by
    rw [sw_at _ _ (by omega), h k (by omega), nx, if_neg (by omega), if_neg (by omega)]
  | d + 1, k, hd => by
    rw [sw_at _ _ (by omega), h k (by omega), nx, if_pos (by omega), if_pos (by omega), sw_fixed h d (k + 1) (by omega)]
theorem sw_fix {of : Nat → Bool → Bool} {lp n : Nat} {c : Bool} (h : sw of n c lp = c) {k : Nat} (hk : k < n) : sw of n c k = of k (sw of n c (nx lp n k)) := by
  rw [sw_at _ _ hk, nx]
  split
  · rfl
  · rw [h]
theorem sw_congr {of of' : Nat → Bool → Bool} {n : Nat} {c : Bool} (h : ∀ k c, k < n → of k c = of' k c) : ∀ d k, k + d + 1 = n → sw of n c k = sw of' n c k
  | 0, k, hd => by rw [sw_at of c (k := k) (by omega), sw_at of' c (k := k) (by omega), if_neg (by omega), if_neg (by omega), h k _ (by omega)]
  | d + 1, k, hd => by rw [sw_at of c (k := k) (by omega), sw_at of' c (k := k) (by omega), if_pos (by omega), if_pos (by omega), sw_congr h d (k + 1) (by omega), h k _ (by omega)]
theorem sw_dual {of of' : Nat → Bool → Bool} {n : Nat} {c : Bool} (h : ∀ k c, k < n → of' k (!c) = !of k c) : ∀ d k, k + d + 1 = n → sw of' n (!c) k = !sw of n c k
  | 0, k, hd => by rw [sw_at of' (!c) (k := k) (by omega), sw_at of c (k := k) (by omega), if_neg (by omega), if_neg (by omega), h k _ (by omega)]
  | d + 1, k, hd => by rw [sw_at of' (!c) (k := k) (by omega), sw_at of c (k := k) (by omega), if_pos (by omega), if_pos (by omega), sw_dual h d (k + 1) (by omega), h k _ (by omega)]
/-- What is asked at a place of an until. -/
def ofU (a b : List Bool) (k : Nat) (c : Bool) : Bool := b.getD k false || (a.getD k false && c)
def ofR (a b : List Bool) (k : Nat) (c : Bool) : Bool := b.getD k false && (a.getD k false || c)
def ofF (a : List Bool) (k : Nat) (c : Bool) : Bool := a.getD k false || c
def ofG (a : List Bool) (k : Nat) (c : Bool) : Bool := a.getD k false && c
theorem sw_until {lp n : Nat} (hlp : lp < n) (a b : List Bool) {k : Nat} (hk : k < n) :
    sw (ofU a b) n (sw (ofU a b) n false lp) k = run lp n a b (n + 1) k ∧ sw (ofU a b) n (run lp n a b (n + 1) lp) k = run lp n a b (n + 1) k := by
  have hfix : ∀ k, k < n → run lp n a b (n + 1) k = ofU a b k (run lp n a b (n + 1) (nx lp n k)) := fun k hk => run_fix hlp a b hk
  have hsw : ∀ k, k < n → run lp n a b (n + 1) k = sw (ofU a b) n (run lp n a b (n + 1) lp) k := fun k hk => sw_fixed hfix (n - 1 - k) k (by omega)
  refine ⟨?_, (hsw k hk).symm⟩
  have hc : sw (ofU a b) n false lp = run lp n a b (n + 1) lp := by
    cases e : run lp n a b (n + 1) lp
    · have := hsw lp hlp
      rw [e] at this; exact this.symm
    · cases e2 : sw (ofU a b) n false lp
      · have h3 := run_least hlp a b (u := fun k => sw (ofU a b) n false k) (fun i hi h => by
          show sw (ofU a b) n false i = true
          rw [sw_fix e2 hi]; exact h) (n + 1) lp hlp e
        rw [e2] at h3; exact h3
      · rfl
  rw [hc, hsw k hk]

/-- A list swept from the end down to place k. -/
def swK (of : Nat → Bool → Bool) (n lp : Nat) (old : List Bool) (k : Nat) : List Bool := (List.range n).map fun i => if k ≤ i then sw of n (old.getD lp false) i else old.getD i false
theorem swK_len {of : Nat → Bool → Bool} {n lp : Nat} {old : List Bool} {k : Nat} : (swK of n lp old k).length = n := by simp [swK]
theorem swK_start {of : Nat → Bool → Bool} {n lp : Nat} {old : List Bool} (h : old.length = n) : swK of n lp old n = old := by
  apply ext_getD swK_len h
  intro i hi
  rw [swK, range_get _ hi, if_neg (by omega)]
theorem swK_get {of : Nat → Bool → Bool} {n lp : Nat} {old : List Bool} {k : Nat} (hk : k < n) (hlp : lp < n) : of k ((swK of n lp old (k + 1)).getD (nx lp n k) false) = sw of n (old.getD lp false) k := by
  rw [sw_at _ _ hk, swK, range_get _ (nx_lt hlp), nx]
  split
  · rw [if_pos (Nat.le_refl _)]
  · rw [if_neg (by omega)]
theorem swK_step {of : Nat → Bool → Bool} {n lp : Nat} {old : List Bool} {k : Nat} (hk : k < n) (hlp : lp < n) : (swK of n lp old (k + 1)).set k (of k ((swK of n lp old (k + 1)).getD (nx lp n k) false)) = swK of n lp old k := by
  rw [swK_get (of := of) (old := old) hk hlp]
  apply ext_getD (n := n) (by rw [List.length_set, swK_len]) swK_len
  intro i hi
  rw [List.getD_eq_getElem?_getD, List.getElem?_set]
  split
  · rename_i e; subst e
    rw [if_pos (by rw [swK_len]; exact hi), swK, range_get _ hi, if_pos (Nat.le_refl _)]; rfl
  · rename_i e
    rw [← List.getD_eq_getElem?_getD, swK, range_get _ hi, swK, range_get _ hi]
    by_cases h : k ≤ i
    · rw [if_pos h, if_pos (by omega)]
    · rw [if_neg h, if_neg (by omega)]
def sweepL (of : Nat → Bool → Bool) (n lp : Nat) (old : List Bool) : List Bool := swK of n lp old 0
theorem sweepL_get {of : Nat → Bool → Bool} {n lp : Nat} {old : List Bool} {k : Nat} (hk : k < n) : (sweepL of n lp old).getD k false = sw of n (old.getD lp false) k := by
  rw [sweepL, swK, range_get _ hk, if_pos (by omega)]
theorem sweepL_len {of : Nat → Bool → Bool} {n lp : Nat} {old : List Bool} : (sweepL of n lp old).length = n := swK_len
/-- The fixpoint, from a beginning on, in two sweeps. -/
def settleL (of : Nat → Bool → Bool) (n lp : Nat) (begin_ : Bool) : List Bool := sweepL of n lp (sweepL of n lp (List.replicate n begin_))
theorem rep_get {n : Nat} {c : Bool} {k : Nat} (h : k < n) : (List.replicate n c).getD k false = c := by simp [List.getD, h]
theorem settle_get {of : Nat → Bool → Bool} {n lp : Nat} (hlp : lp < n) {c : Bool} {k : Nat} (hk : k < n) : (settleL of n lp c).getD k false = sw of n (sw of n c lp) k := by
  rw [settleL, sweepL_get hk, sweepL_get hlp, rep_get hlp]
theorem settleL_len {of : Nat → Bool → Bool} {n lp : Nat} {c : Bool} : (settleL of n lp c).length = n := sweepL_len
theorem settle_until {lp : Nat} {a b : List Bool} (hlp : lp < a.length) : settleL (ofU a b) a.length lp false = untL lp a b := by
  refine ext_getD (n := a.length) settleL_len (untL_len _ _ _) (fun i hi => ?_)
  rw [settle_get hlp hi, untL_get hi, (sw_until hlp a b hi).1]
theorem settle_thrice {lp : Nat} {a b : List Bool} (hlp : lp < a.length) : sweepL (ofU a b) a.length lp (settleL (ofU a b) a.length lp false) = untL lp a b := by
  refine ext_getD (n := a.length) sweepL_len (untL_len _ _ _) (fun i hi => ?_)
  rw [sweepL_get hi, settle_get hlp hlp, untL_get hi, (sw_until hlp a b hlp).1, (sw_until hlp a b hi).2]
theorem settle_congr {of of' : Nat → Bool → Bool} {n lp : Nat} (hlp : lp < n) {c : Bool} (h : ∀ k c, k < n → of k c = of' k c) : settleL of n lp c = settleL of' n lp c := by
  refine ext_getD (n := n) settleL_len settleL_len (fun i hi => ?_)
  rw [settle_get hlp hi, settle_get hlp hi, sw_congr h (n - 1 - lp) lp (by omega), sw_congr h (n - 1 - i) i (by omega)]
theorem settle_dual {of of' : Nat → Bool → Bool} {n lp : Nat} (hlp : lp < n) {c : Bool} (h : ∀ k c, k < n → of' k (!c) = !of k c) : settleL of' n lp (!c) = flipL (settleL of n lp c) := by
  refine ext_getD (n := n) settleL_len (by rw [flipL_len]; exact settleL_len) (fun i hi => ?_)
  rw [flip_get (by rw [settleL_len]; exact hi), settle_get hlp hi, settle_get hlp hi, sw_dual h (n - 1 - lp) lp (by omega), sw_dual h (n - 1 - i) i (by omega)]
theorem settle_rel {lp : Nat} {a b : List Bool} (hlp : lp < a.length) (hb : b.length = a.length) : settleL (ofR a b) a.length lp true = flipL (untL lp (flipL a) (flipL b)) := by
  have hl : (flipL a).length = a.length := flipL_len a
  have := settle_until (lp := lp) (a := flipL a) (b := flipL b) (by omega)
  rw [← this, hl]
  refine settle_dual (c := false) hlp (fun k c hk => ?_)
  simp only [ofR, ofU]
  rw [flip_get hk, flip_get (by omega)]
  cases a.getD k false <;> cases b.getD k false <;> cases c <;> rfl
theorem yes_get {n k : Nat} (h : k < n) : (yesL n).getD k false = true := by simp [yesL, List.getD, h]
theorem settle_fin {lp : Nat} {a : List Bool} (hlp : lp < a.length) : settleL (ofF a) a.length lp false = untL lp (yesL a.length) a := by
  have := settle_until (lp := lp) (a := yesL a.length) (b := a) (by rw [yesL_len]; exact hlp)
  rw [yesL_len] at this
  rw [← this]
  refine settle_congr hlp (fun k c hk => ?_)
  simp only [ofF, ofU]
  rw [yes_get hk]; rfl
theorem settle_glob {lp : Nat} {a : List Bool} (hlp : lp < a.length) : settleL (ofG a) a.length lp true = flipL (untL lp (yesL a.length) (flipL a)) := by
  have := settle_until (lp := lp) (a := yesL a.length) (b := flipL a) (by rw [yesL_len]; exact hlp)
  rw [yesL_len] at this
  rw [← this]
  refine settle_dual (c := false) hlp (fun k c hk => ?_)
  simp only [ofG, ofU]
  rw [yes_get hk, flip_get hk]
  cases a.getD k false <;> cases c <;> rfl

section
variable {bits : Int → Nat → Bool} {n lp : Nat}
/-- The rows that wait, and all rows, with one node more. -/
def tstep (bits : Int → Nat → Bool) (n lp : Nat) (s : List (List Bool) × List (List Bool)) (x : Nd) : List (List Bool) × List (List Bool) :=
  let row := placesL bits n lp x (if takes x.op = 1 then s.1.getD (s.1.length - 1) [] else if takes x.op = 2 then s.1.getD (s.1.length - 2) [] else []) (if takes x.op = 2 then s.1.getD (s.1.length - 1) [] else [])
  (s.1.take (s.1.length - (takes x.op).toNat) ++ [row], s.2 ++ [row])
def rowsT (bits : Int → Nat → Bool) (n lp : Nat) : Tr → List (List Bool)
  | .leaf x => [val bits n lp (.leaf x)]
  | .un x a => rowsT bits n lp a ++ [val bits n lp (.un x a)]
  | .bin x a b => rowsT bits n lp a ++ (rowsT bits n lp b ++ [val bits n lp (.bin x a b)])
theorem rowsT_len : ∀ t : Tr, (rowsT bits n lp t).length = t.size
  | .leaf _ => rfl
  | .un _ a => by simp [rowsT, Tr.size, rowsT_len a]
  | .bin _ a b => by simp [rowsT, Tr.size, rowsT_len a, rowsT_len b]; omega
theorem tstep_flat : ∀ (t : Tr) (l o : List (List Bool)), t.ok → t.flat.foldl (tstep bits n lp) (l, o) = (l ++ [val bits n lp t], o ++ rowsT bits n lp t)
  | .leaf x, l, o, ⟨h, _⟩ => by simp [Tr.flat, tstep, h, rowsT, val]
  | .un x a, l, o, ⟨h, ha⟩ => by
    rw [Tr.flat, List.foldl_append, tstep_flat a l o ha]
    simp [tstep, h, rowsT, val, List.getD]
  | .bin x a b, l, o, ⟨h, ha, hb⟩ => by
    rw [Tr.flat, List.foldl_append, tstep_flat a l o ha, List.foldl_append, tstep_flat b _ _ hb]
    have h2 : (l ++ [val bits n lp a] ++ [val bits n lp b]).length - 2 = l.length := by simp
    have h1 : (l ++ [val bits n lp a] ++ [val bits n lp b]).length - 1 = l.length + 1 := by simp
    simp only [List.foldl_cons, List.foldl_nil, tstep, h]
    rw [show ((2 : Int)).toNat = 2 from rfl, h2, h1]
    simp [rowsT, val, List.getD]
/-- All rows of a formula. -/
def rowsF (bits : Int → Nat → Bool) (n lp : Nat) (f : List Nd) : List (List Bool) := (f.foldl (tstep bits n lp) ([], [])).2
theorem rowsF_flat {t : Tr} (h : t.ok) : rowsF bits n lp t.flat = rowsT bits n lp t := by rw [rowsF, tstep_flat t [] [] h]; simp
theorem rowsF_len (f : List Nd) : (rowsF bits n lp f).length = f.length := by
  have h : ∀ (l : List Nd) (s : List (List Bool) × List (List Bool)), (l.foldl (tstep bits n lp) s).2.length = s.2.length + l.length := by
    intro l
    induction l with
    | nil => intro s; rfl
    | cons x l ih => intro s; rw [List.foldl_cons, ih]; simp [tstep]; omega
  rw [rowsF, h]; simp
theorem rowsT_at {f : List Nd} {s : List Int} : ∀ (t : Tr) (b k : Nat), t.ok → At f s b t → b ≤ k → k < b + t.size → (rowsT bits n lp t)[k - b]? = (rowsL bits n lp f s (k + 1))[k]?
  | .leaf x, b, k, hok, hat, h1, h2 => by
    simp only [Tr.size] at h2
    rw [at_rows (.leaf x) b k hok hat (by simp only [Tr.size]; omega), show k - b = 0 by omega]; rfl
  | .un x a, b, k, hok, hat, h1, h2 => by
    simp only [Tr.size] at h2
    by_cases h : k < b + a.size
    · rw [rowsT, List.getElem?_append_left (by rw [rowsT_len]; omega)]
      exact rowsT_at a b k hok.2 hat.1 h1 h
    · rw [at_rows (.un x a) b k hok hat (by simp only [Tr.size]; omega), rowsT, List.getElem?_append_right (by rw [rowsT_len]; omega), rowsT_len, show k - b - a.size = 0 by omega]; rfl
  | .bin x a c, b, k, hok, hat, h1, h2 => by
    simp only [Tr.size] at h2
    by_cases h : k < b + a.size
    · rw [rowsT, List.getElem?_append_left (by rw [rowsT_len]; omega)]
      exact rowsT_at a b k hok.2.1 hat.1 h1 h
    · rw [rowsT, List.getElem?_append_right (by rw [rowsT_len]; omega), rowsT_len]
      by_cases h' : k < b + a.size + c.size
      · rw [List.getElem?_append_left (by rw [rowsT_len]; omega), ← rowsT_at c (b + a.size) k hok.2.2 hat.2.1 (by omega) h', show k - b - a.size = k - (b + a.size) by omega]
      · rw [at_rows (.bin x a c) b k hok hat (by simp only [Tr.size]; omega), List.getElem?_append_right (by rw [rowsT_len]; omega), rowsT_len, show k - b - a.size - c.size = 0 by omega]; rfl
/-- The stack's rows are those told by where parts begin. -/
theorem rowsF_rowsL {f : List Nd} (hw : wrong f = 0) : rowsF bits n lp f = rowsL bits n lp f (spans f) f.length := by
  obtain ⟨t, hok, rfl⟩ := parse hw
  rw [rowsF_flat hok]
  apply List.ext_getElem?
  intro k
  have hl := t.flat_len
  by_cases hk : k < t.size
  · have h1 := rowsT_at (bits := bits) (n := n) (lp := lp) t 0 k hok (at_whole hok) (by omega) (by omega)
    rw [Nat.sub_zero] at h1
    have hlt : k < (rowsL bits n lp t.flat (spans t.flat) (k + 1)).length := by rw [rowsL_len]; omega
    have h2 := rowsL_up (d := t.flat.length - (k + 1)) (List.getElem?_eq_getElem hlt)
    rw [show k + 1 + (t.flat.length - (k + 1)) = t.flat.length by omega] at h2
    rw [h1, h2, List.getElem?_eq_getElem hlt]
  · rw [List.getElem?_eq_none (by rw [rowsT_len]; omega), List.getElem?_eq_none (by rw [rowsL_len]; omega)]
theorem rowsF_last {f : List Nd} (hw : wrong f = 0) : (rowsF bits n lp f)[f.length - 1]? = some (val bits n lp (treeOf f)) := by
  rw [rowsF_rowsL hw]; exact rows_last hw
end
end Go.Proofs.Ytkikkplpalabhaa

/- (XWdS) Truth on a word, by the sets that it has from a place on for ever. Plain. -/
namespace Go.Proofs.Ytkikkplpalabhaa

/-- The place of a word that stands i places on. -/
def hpl (lp n i : Nat) : Nat := if i < n then i else lp + (i - lp) % (n - lp)
theorem hpl_lt {lp n : Nat} (h : lp < n) (i : Nat) : hpl lp n i < n := by
  unfold hpl
  split
  · assumption
  · have := Nat.mod_lt (i - lp) (show 0 < n - lp by omega); omega
theorem hpl_small {lp n i : Nat} (h : i < n) : hpl lp n i = i := by rw [hpl, if_pos h]
theorem hpl_big {lp n i : Nat} (_h : lp < n) (hi : lp ≤ i) : hpl lp n i = lp + (i - lp) % (n - lp) := by
  unfold hpl
  split
  · rw [Nat.mod_eq_of_lt (by omega)]; omega
  · rfl
theorem hpl_nx {lp n : Nat} (h : lp < n) (i : Nat) : hpl lp n (i + 1) = nx lp n (hpl lp n i) := by
  by_cases hi : lp ≤ i
  · rw [hpl_big h (by omega), hpl_big h hi, nx]
    have hm := Nat.mod_lt (i - lp) (show 0 < n - lp by omega)
    have e : i + 1 - lp = (i - lp) + 1 := by omega
    rw [e, Nat.add_mod]
    by_cases h1 : n - lp = 1
    · rw [h1]; simp only [Nat.mod_one, Nat.add_zero]
      split
      · omega
      · rfl
    · rw [Nat.mod_eq_of_lt (show 1 < n - lp by omega)]
      split
      · rw [Nat.mod_eq_of_lt (by omega)]; omega
      · rw [show (i - lp) % (n - lp) + 1 = n - lp by omega, Nat.mod_self]; rfl
  · rw [hpl_small (show i + 1 < n by omega), hpl_small (show i < n by omega), nx, if_pos (by omega)]

/-- Satisfied from the place i on, by what is read at each place. -/
def Sat (bit : Int → Nat → Bool) : Tr → Nat → Prop
  | .leaf x, i => if x.op = 1 then True else if x.op = 3 then bit x.n i = true else False
  | .un x a, i => if x.op = 4 then ¬ Sat bit a i else if x.op = 8 then Sat bit a (i + 1) else if x.op = 11 then ∃ d, Sat bit a (i + d) else ∀ d, Sat bit a (i + d)
  | .bin x a b, i => if x.op = 5 then Sat bit a i ∧ Sat bit b i else if x.op = 6 then Sat bit a i ∨ Sat bit b i else if x.op = 7 then Sat bit a i → Sat bit b i
      else if x.op = 9 then ∃ d, Sat bit b (i + d) ∧ ∀ e, e < d → Sat bit a (i + e) else ∀ d, Sat bit b (i + d) ∨ ∃ e, e < d ∧ Sat bit a (i + e)
theorem Sat.shift {bit bit' : Int → Nat → Bool} {k : Nat} (h : ∀ m i, bit' m i = bit m (i + k)) : ∀ (t : Tr) (i : Nat), Sat bit' t i ↔ Sat bit t (i + k)
  | .leaf x, i => by simp only [Sat, h]
  | .un x a, i => by
    have ih := Sat.shift h a
    simp only [Sat, ih]
    have e : ∀ d, i + d + k = i + k + d := fun d => by omega
    simp only [e]
  | .bin x a b, i => by
    have ia := Sat.shift h a
    have ib := Sat.shift h b
    simp only [Sat, ia, ib]
    have e : ∀ d, i + d + k = i + k + d := fun d => by omega
    simp only [e]
theorem Sat.congr {bit bit' : Int → Nat → Bool} (h : ∀ m i, bit' m i = bit m i) (t : Tr) (i : Nat) : Sat bit' t i ↔ Sat bit t i :=
  Sat.shift (k := 0) h t i

section
variable {bits : Int → Nat → Bool} {n lp : Nat}
theorem run_iff (hlp : lp < n) (a b : List Bool) : ∀ k i, run lp n a b k (hpl lp n i) = true ↔ ∃ d, d < k ∧ b.getD (hpl lp n (i + d)) false = true ∧ ∀ e, e < d → a.getD (hpl lp n (i + e)) false = true
  | 0, i => by simp [run]
  | k + 1, i => by
    rw [run, ← hpl_nx hlp, Bool.or_eq_true, Bool.and_eq_true, run_iff hlp a b k (i + 1)]
    constructor
    · rintro (h | ⟨h, d, hd, hb, ha⟩)
      · exact ⟨0, by omega, h, fun e he => by omega⟩
      · refine ⟨d + 1, by omega, by rw [show i + (d + 1) = i + 1 + d by omega]; exact hb, fun e he => ?_⟩
        rcases e with _ | e
        · exact h
        · rw [show i + (e + 1) = i + 1 + e by omega]; exact ha e (by omega)
    · rintro ⟨d, hd, hb, ha⟩
      rcases d with _ | d
      · exact .inl hb
      · refine .inr ⟨ha 0 (by omega), d, by omega, by rw [show i + 1 + d = i + (d + 1) by omega]; exact hb, fun e he => ?_⟩
        rw [show i + 1 + e = i + (e + 1) by omega]; exact ha (e + 1) (by omega)
theorem run_ever (hlp : lp < n) (a b : List Bool) (i : Nat) : run lp n a b (n + 1) (hpl lp n i) = true ↔ ∃ d, b.getD (hpl lp n (i + d)) false = true ∧ ∀ e, e < d → a.getD (hpl lp n (i + e)) false = true := by
  constructor
  · intro h
    obtain ⟨d, _, h⟩ := (run_iff hlp a b _ i).1 h
    exact ⟨d, h⟩
  · rintro ⟨d, h⟩
    have h1 := (run_iff hlp a b (d + 1) i).2 ⟨d, by omega, h⟩
    have h2 := run_add lp n a b _ _ h1 n
    rwa [run_sat hlp a b (by omega) (hpl_lt hlp i)] at h2
theorem sat_imp {m : Int} {a b : Tr} {i : Nat} (hi : i < n) : sat bits n lp (.bin ⟨7, m⟩ a b) i = (!sat bits n lp a i || sat bits n lp b i) := by
  simp only [sat, val, placesL]
  simp only [show ¬ ((7 : Int) = 9) by decide, show ¬ ((7 : Int) = 10) by decide, show ¬ ((7 : Int) = 11) by decide, show ¬ ((7 : Int) = 12) by decide, if_false]
  rw [range_get _ hi]; simp [place1]
theorem sat_fin {m : Int} {a : Tr} {i : Nat} (hi : i < n) : sat bits n lp (.un ⟨11, m⟩ a) i = run lp n (yesL n) (val bits n lp a) (n + 1) i := by
  show (placesL bits n lp ⟨11, m⟩ (val bits n lp a) []).getD i false = _
  rw [placesL, if_neg (show ¬ ((11 : Int) = 9) by decide), if_neg (show ¬ ((11 : Int) = 10) by decide), if_pos rfl, untL_get (by rw [yesL_len]; exact hi), yesL_len]
theorem sat_glob {m : Int} {a : Tr} {i : Nat} (hi : i < n) : sat bits n lp (.un ⟨12, m⟩ a) i = !run lp n (yesL n) (flipL (val bits n lp a)) (n + 1) i := by
  show (placesL bits n lp ⟨12, m⟩ (val bits n lp a) []).getD i false = _
  rw [placesL, if_neg (show ¬ ((12 : Int) = 9) by decide), if_neg (show ¬ ((12 : Int) = 10) by decide), if_neg (show ¬ ((12 : Int) = 11) by decide), if_pos rfl, flip_get (by rw [untL_len, yesL_len]; exact hi), untL_get (by rw [yesL_len]; exact hi), yesL_len]
/-- What a word's places say is what it reads from there on. -/
theorem sat_iff (hlp : lp < n) : ∀ (t : Tr), t.ok → ∀ i, sat bits n lp t (hpl lp n i) = true ↔ Sat (fun m i => bits m (hpl lp n i)) t i
  | .leaf x, ⟨h, _⟩, i => by
    have hi := hpl_lt hlp i
    obtain ⟨o, m⟩ := x
    rcases takes_zero h with e | e | e <;> dsimp only at e <;> subst e
    · rw [sat_true hi]; simp [Sat]
    · rw [sat_false hi]; simp [Sat]
    · rw [sat_prop hi]; simp [Sat]
  | .un x a, ⟨h, ha⟩, i => by
    have hi := hpl_lt hlp i
    have ih := sat_iff hlp a ha
    have hlen : (val bits n lp a).length = n := val_len a ha
    obtain ⟨o, m⟩ := x
    rcases takes_one h with e | e | e | e <;> dsimp only at e <;> subst e
    · rw [sat_not hi]
      simp only [Sat, if_true, ← ih i]
      simp
    · rw [sat_next hi, ← hpl_nx hlp, ih]
      simp [Sat]
    · rw [sat_fin hi, run_ever hlp]
      have hy : ∀ j, (yesL n).getD (hpl lp n j) false = true := fun j => yes_get (hpl_lt hlp j)
      have ih' : ∀ d, (val bits n lp a).getD (hpl lp n (i + d)) false = true ↔ Sat (fun m i => bits m (hpl lp n i)) a (i + d) := fun d => ih _
      simp only [hy, ih', implies_true, and_true]
      simp [Sat]
    · rw [sat_glob hi]
      have hr := run_ever (lp := lp) hlp (yesL n) (flipL (val bits n lp a)) i
      have hy : ∀ j, (yesL n).getD (hpl lp n j) false = true := fun j => yes_get (hpl_lt hlp j)
      have hf : ∀ d, (flipL (val bits n lp a)).getD (hpl lp n (i + d)) false = true ↔ ¬ Sat (fun m i => bits m (hpl lp n i)) a (i + d) := fun d => by
        rw [flip_get (by rw [hlen]; exact hpl_lt hlp _), ← ih]
        show (!sat bits n lp a _) = true ↔ _
        simp
      simp only [hy, hf, implies_true, and_true] at hr
      simp only [Sat, show ¬ ((12 : Int) = 4) by decide, show ¬ ((12 : Int) = 8) by decide, show ¬ ((12 : Int) = 11) by decide, if_false]
      rw [Bool.not_eq_true', ← Bool.not_eq_true, hr]
      simp
  | .bin x a b, ⟨h, ha, hb⟩, i => by
    have hi := hpl_lt hlp i
    have ia := sat_iff hlp a ha
    have ib := sat_iff hlp b hb
    have hla : (val bits n lp a).length = n := val_len a ha
    have hlb : (val bits n lp b).length = n := val_len b hb
    obtain ⟨o, m⟩ := x
    rcases takes_two h with e | e | e | e | e <;> dsimp only at e <;> subst e
    · rw [sat_and hi, Bool.and_eq_true, ia, ib]; simp [Sat]
    · rw [sat_or hi, Bool.or_eq_true, ia, ib]; simp [Sat]
    · rw [sat_imp hi, Bool.or_eq_true, Bool.not_eq_true', ← Bool.not_eq_true, ia, ib]; simp only [Sat, show ¬ ((7 : Int) = 5) by decide, show ¬ ((7 : Int) = 6) by decide, if_false, if_true]; exact ⟨fun h ha => h.resolve_left (fun hn => hn ha), fun h => (Classical.em _).elim (fun ha => .inr (h ha)) .inl⟩
    · rw [sat_until_run ha hi, run_ever hlp]
      have ia' : ∀ d, (val bits n lp a).getD (hpl lp n (i + d)) false = true ↔ Sat (fun m i => bits m (hpl lp n i)) a (i + d) := fun d => ia _
      have ib' : ∀ d, (val bits n lp b).getD (hpl lp n (i + d)) false = true ↔ Sat (fun m i => bits m (hpl lp n i)) b (i + d) := fun d => ib _
      simp only [ia', ib']
      simp [Sat]
    · rw [sat_rel_run ha hi]
      have hr := run_ever (lp := lp) hlp (flipL (val bits n lp a)) (flipL (val bits n lp b)) i
      have fa : ∀ d, (flipL (val bits n lp a)).getD (hpl lp n (i + d)) false = true ↔ ¬ Sat (fun m i => bits m (hpl lp n i)) a (i + d) := fun d => by
        rw [flip_get (by rw [hla]; exact hpl_lt hlp _), ← ia]
        show (!sat bits n lp a _) = true ↔ _
        simp
      have fb : ∀ d, (flipL (val bits n lp b)).getD (hpl lp n (i + d)) false = true ↔ ¬ Sat (fun m i => bits m (hpl lp n i)) b (i + d) := fun d => by
        rw [flip_get (by rw [hlb]; exact hpl_lt hlp _), ← ib]
        show (!sat bits n lp b _) = true ↔ _
        simp
      simp only [fa, fb] at hr
      simp only [Sat, show ¬ ((10 : Int) = 5) by decide, show ¬ ((10 : Int) = 6) by decide, show ¬ ((10 : Int) = 7) by decide, show ¬ ((10 : Int) = 9) by decide, if_false]
      rw [Bool.not_eq_true', ← Bool.not_eq_true, hr]
      constructor
      · intro h d
        apply Classical.byContradiction
        intro hn
        simp only [not_or, not_exists, not_and] at hn
        exact h ⟨d, hn.1, hn.2⟩
      · rintro h ⟨d, h1, h2⟩
        rcases h d with h' | ⟨e, he, h'⟩
        · exact h1 h'
        · exact h2 e he h'
end
end Go.Proofs.Ytkikkplpalabhaa

/- (XWdN) Words written in the shortest way. Plain. -/
namespace Go.Proofs.Ytkikkplpalabhaa

/-- The set that a word has at a place, for ever. -/
def seqW (st lo : List Int) (i : Nat) : Int := if i < st.length then st.getD i 0 else lo.getD ((i - st.length) % lo.length) 0
theorem seqW_stem {st lo : List Int} {i : Nat} (h : i < st.length) : seqW st lo i = st.getD i 0 := by rw [seqW, if_pos h]
theorem seqW_loop {st lo : List Int} {i : Nat} (h : st.length ≤ i) : seqW st lo i = lo.getD ((i - st.length) % lo.length) 0 := by rw [seqW, if_neg (by omega)]
theorem seqW_per {st lo : List Int} {i : Nat} (h : st.length ≤ i) : seqW st lo (i + lo.length) = seqW st lo i := by
  rw [seqW_loop (by omega), seqW_loop h, show i + lo.length - st.length = i - st.length + lo.length by omega, Nat.add_mod_right]
/-- The place in the list of all sets. -/
theorem seqW_list {st lo : List Int} (h : lo ≠ []) (i : Nat) : (st ++ lo).getD (hpl st.length (st.length + lo.length) i) 0 = seqW st lo i := by
  have hl : 0 < lo.length := List.length_pos_iff.2 h
  by_cases hi : i < st.length
  · rw [hpl_small (by omega), seqW_stem hi, List.getD_eq_getElem?_getD, List.getElem?_append_left hi, ← List.getD_eq_getElem?_getD]
  · rw [hpl_big (by omega) (by omega), seqW_loop (by omega), show st.length + lo.length - st.length = lo.length by omega, List.getD_eq_getElem?_getD, List.getElem?_append_right (by omega), ← List.getD_eq_getElem?_getD]
    congr 1; omega

/-- From m on s comes again after p. -/
def Per (s : Nat → Int) (m p : Nat) : Prop := ∀ i, m ≤ i → s (i + p) = s i
theorem Per.mul {s : Nat → Int} {m p : Nat} (h : Per s m p) : ∀ k, Per s m (p * k)
  | 0 => fun i _ => by rw [Nat.mul_zero, Nat.add_zero]
  | k + 1 => fun i hi => by
    rw [Nat.mul_succ, ← Nat.add_assoc, h _ (by omega)]
    exact Per.mul h k i hi
theorem Per.up {s : Nat → Int} {m m' p : Nat} (h : Per s m p) (hm : m ≤ m') : Per s m' p := fun i hi => h i (by omega)
theorem Per.mod {s : Nat → Int} {m p q : Nat} (hp : Per s m p) (hq : Per s m q) : Per s m (p % q) := by
  intro i hi
  have h1 := hq.mul (p / q) (i + p % q) (by omega)
  have e : i + p % q + q * (p / q) = i + p := by have := Nat.mod_add_div p q; omega
  rw [e] at h1
  rw [← h1, hp i hi]
theorem seqW_Per {st lo : List Int} : Per (seqW st lo) st.length lo.length := fun _ hi => seqW_per hi

def perB (lo : List Int) (p : Nat) : Bool := decide (lo.length % p = 0) && decide (lo.drop p = lo.take (lo.length - p))
/-- The least period that divides a loop's length. -/
def periodL (lo : List Int) : Nat := ((List.range lo.length).find? (fun p => decide (1 ≤ p) && perB lo p)).getD lo.length
theorem period_some {lo : List Int} {p : Nat} (h1 : 1 ≤ p) (h2 : p < lo.length) (h3 : perB lo p = true) (h4 : ∀ q, 1 ≤ q → q < p → perB lo q = false) : periodL lo = p := by
  have : (List.range lo.length).find? (fun p => decide (1 ≤ p) && perB lo p) = some p := by
    rw [List.find?_range_eq_some]
    refine ⟨by simp [h1, h3], List.mem_range.2 h2, fun j hj => ?_⟩
    by_cases hj1 : 1 ≤ j
    · simp [h4 j hj1 hj]
    · simp [hj1]
  rw [periodL, this]; rfl
theorem period_none {lo : List Int} (h4 : ∀ q, 1 ≤ q → q < lo.length → perB lo q = false) : periodL lo = lo.length := by
  have : (List.range lo.length).find? (fun p => decide (1 ≤ p) && perB lo p) = none := by
    rw [List.find?_range_eq_none]
    intro j hj
    by_cases hj1 : 1 ≤ j
    · simp [h4 j hj1 hj]
    · simp [hj1]
  rw [periodL, this]; rfl
theorem perB_iff {lo : List Int} {p : Nat} (hp : 1 ≤ p) (hl : p ≤ lo.length) : perB lo p = true ↔ lo.length % p = 0 ∧ ∀ i, i + p < lo.length → lo.getD (i + p) 0 = lo.getD i 0 := by
  simp only [perB, Bool.and_eq_true, decide_eq_true_eq]
  refine and_congr_right (fun _ => ?_)
  constructor
  · intro h i hi
    have := congrArg (fun l => l.getD i 0) h
    simp only [List.getD_eq_getElem?_getD, List.getElem?_drop, List.getElem?_take] at this
    rw [if_pos (by omega), Nat.add_comm] at this
    simpa [List.getD_eq_getElem?_getD] using this
  · intro h
    apply List.ext_getElem (by simp)
    intro i h1 h2
    simp at h1
    have := h i (by omega)
    simp only [List.getD_eq_getElem?_getD] at this
    rw [List.getElem?_eq_getElem (by omega), List.getElem?_eq_getElem (by omega)] at this
    simp only [List.getElem_drop, List.getElem_take]
    simp only [Option.getD_some] at this
    rw [← this]; congr 1
    omega
/-- A loop's period is one of what goes on for ever. -/
theorem per_loop {st lo : List Int} {p : Nat} (hp : 1 ≤ p) (hl : p ≤ lo.length) (hd : lo.length % p = 0) : (∀ i, i + p < lo.length → lo.getD (i + p) 0 = lo.getD i 0) ↔ Per (seqW st lo) st.length p := by
  constructor
  · intro h i hi
    -- both are the element at the place within the period
    have key : ∀ j, j < lo.length → lo.getD j 0 = lo.getD (j % p) 0 := by
      intro j
      induction j using Nat.strongRecOn with
      | ind j ih =>
        intro hj
        by_cases hjp : j < p
        · rw [Nat.mod_eq_of_lt hjp]
        · have := h (j - p) (by omega)
          rw [show j - p + p = j by omega] at this
          rw [this, ih (j - p) (by omega) (by omega)]
          congr 1
          rw [Nat.mod_eq_sub_mod (show p ≤ j by omega)]
    have hm := Nat.mod_lt (i + p - st.length) (show 0 < lo.length by omega)
    have hm' := Nat.mod_lt (i - st.length) (show 0 < lo.length by omega)
    have hdv : p ∣ lo.length := Nat.dvd_of_mod_eq_zero hd
    rw [seqW_loop (by omega), seqW_loop hi, key _ hm, key _ hm', Nat.mod_mod_of_dvd _ hdv, Nat.mod_mod_of_dvd _ hdv, show i + p - st.length = i - st.length + p by omega, Nat.add_mod_right]
  · intro h i hi
    have := h (st.length + i) (by omega)
    rw [seqW_loop (by omega), seqW_loop (by omega), show st.length + i + p - st.length = i + p by omega, show st.length + i - st.length = i by omega, Nat.mod_eq_of_lt hi, Nat.mod_eq_of_lt (by omega)] at this
    exact this
theorem period_spec {lo : List Int} (h : lo ≠ []) : 1 ≤ periodL lo ∧ periodL lo ≤ lo.length ∧ lo.length % periodL lo = 0 ∧ (∀ i, i + periodL lo < lo.length → lo.getD (i + periodL lo) 0 = lo.getD i 0) ∧
    ∀ q, 1 ≤ q → q < periodL lo → perB lo q = false := by
  have hl : 0 < lo.length := List.length_pos_iff.2 h
  by_cases hn : ∃ q, 1 ≤ q ∧ q < lo.length ∧ perB lo q = true
  · obtain ⟨q, hq⟩ : ∃ q, (1 ≤ q ∧ q < lo.length ∧ perB lo q = true) ∧ ∀ r, r < q → ¬ (1 ≤ r ∧ r < lo.length ∧ perB lo r = true) := by
      obtain ⟨q, hq⟩ := hn
      induction q using Nat.strongRecOn with
      | ind q ih =>
        by_cases hr : ∃ r, r < q ∧ (1 ≤ r ∧ r < lo.length ∧ perB lo r = true)
        · obtain ⟨r, hr, hr'⟩ := hr
          exact ih r hr hr'
        · exact ⟨q, hq, fun r hr' hr'' => hr ⟨r, hr', hr''⟩⟩
    obtain ⟨⟨h1, h2, h3⟩, h4⟩ := hq
    have h5 : ∀ r, 1 ≤ r → r < q → perB lo r = false := fun r hr hr' => by
      cases e : perB lo r
      · rfl
      · exact absurd ⟨hr, by omega, e⟩ (h4 r hr')
    rw [period_some h1 h2 h3 h5]
    have := (perB_iff h1 (by omega)).1 h3
    exact ⟨h1, by omega, this.1, this.2, h5⟩
  · have h5 : ∀ q, 1 ≤ q → q < lo.length → perB lo q = false := fun q hq hq' => by
      cases e : perB lo q
      · rfl
      · exact absurd ⟨q, hq, hq', e⟩ hn
    rw [period_none h5]
    exact ⟨hl, Nat.le_refl _, Nat.mod_self _, fun i hi => by omega, h5⟩
/-- It is the least of all periods. -/
theorem period_least {st lo : List Int} (h : lo ≠ []) : Per (seqW st lo) st.length (periodL lo) ∧ ∀ m q, 1 ≤ q → Per (seqW st lo) m q → periodL lo ≤ q := by
  obtain ⟨h1, h2, h3, h4, h5⟩ := period_spec h
  have hP := (per_loop (st := st) h1 h2 h3).1 h4
  refine ⟨hP, ?_⟩
  have key : ∀ q, 1 ≤ q → (∃ m, Per (seqW st lo) m q) → periodL lo ≤ q := by
    intro q
    induction q using Nat.strongRecOn with
    | ind q ih =>
      intro hq ⟨m, hm⟩
      -- the rest of the loop's length by q is a smaller one
      have hmax : Per (seqW st lo) (m + st.length) q := hm.up (by omega)
      have hL : Per (seqW st lo) (m + st.length) lo.length := seqW_Per.up (by omega)
      by_cases hr : lo.length % q = 0
      · -- q divides the length, and is one of the loop
        have hqs : Per (seqW st lo) st.length q := by
          intro i hi
          have e1 := (seqW_Per (st := st) (lo := lo)).mul (m + st.length) (i + q) (by omega)
          have e2 := (seqW_Per (st := st) (lo := lo)).mul (m + st.length) i hi
          have hl0 : 1 ≤ lo.length := by omega
          have hge : m + st.length ≤ i + lo.length * (m + st.length) := by
            have : 1 * (m + st.length) ≤ lo.length * (m + st.length) := Nat.mul_le_mul_right _ hl0
            omega
          rw [← e1, ← e2, show i + q + lo.length * (m + st.length) = i + lo.length * (m + st.length) + q by omega]
          exact hmax _ hge
        have hql : q ≤ lo.length := Nat.le_of_dvd (by omega) (Nat.dvd_of_mod_eq_zero hr)
        have hB := (perB_iff hq hql).2 ⟨hr, (per_loop hq hql hr).2 hqs⟩
        by_cases hlt : q < periodL lo
        · rw [h5 q hq hlt] at hB; cases hB
        · omega
      · have hlt := Nat.mod_lt lo.length (show 0 < q by omega)
        have := ih (lo.length % q) hlt (by omega) ⟨_, hL.mod hmax⟩
        omega
  exact fun m q hq hm => key q hq ⟨m, hm⟩

/-- How much of the stem is needed. -/
def roll (s : Nat → Int) (p : Nat) : Nat → Nat
  | 0 => 0
  | k + 1 => if s k = s (k + p) then roll s p k else k + 1
theorem roll_le (s : Nat → Int) (p : Nat) : ∀ k, roll s p k ≤ k
  | 0 => Nat.le_refl _
  | k + 1 => by
    rw [roll]
    split
    · have := roll_le s p k; omega
    · exact Nat.le_refl _
theorem roll_spec (s : Nat → Int) (p : Nat) : ∀ k, (∀ i, roll s p k ≤ i → i < k → s (i + p) = s i) ∧ (0 < roll s p k → s (roll s p k - 1 + p) ≠ s (roll s p k - 1))
  | 0 => ⟨fun i _ h => by omega, fun h => by simp [roll] at h⟩
  | k + 1 => by
    rw [roll]
    split
    · rename_i h
      obtain ⟨h1, h2⟩ := roll_spec s p k
      refine ⟨fun i hi hi' => ?_, h2⟩
      by_cases e : i = k
      · rw [e, ← h]
      · exact h1 i hi (by omega)
    · rename_i h
      exact ⟨fun i hi hi' => by omega, fun _ => by simpa using fun e => h e.symm⟩
theorem roll_uniq {s : Nat → Int} {p m m' : Nat} (h : Per s m p) (h' : Per s m' p) (hm : 0 < m → s (m - 1 + p) ≠ s (m - 1)) (hm' : 0 < m' → s (m' - 1 + p) ≠ s (m' - 1)) : m = m' := by
  rcases Nat.lt_trichotomy m m' with hlt | e | hlt
  · exact absurd (h (m' - 1) (by omega)) (hm' (by omega))
  · exact e
  · exact absurd (h' (m - 1) (by omega)) (hm (by omega))
/-- The sets of a word from a place on, up to another one. -/
def partW (s : Nat → Int) (from_ to : Nat) : List Int := (List.range (to - from_)).map fun i => s (from_ + i)
theorem partW_len (s : Nat → Int) (a b : Nat) : (partW s a b).length = b - a := by simp [partW]
theorem partW_get {s : Nat → Int} {a b i : Nat} (h : i < b - a) : (partW s a b).getD i 0 = s (a + i) := by simp [partW, List.getD, h]
theorem partW_snoc {s : Nat → Int} {a b : Nat} (h : a ≤ b) : partW s a (b + 1) = partW s a b ++ [s b] := by
  rw [partW, show b + 1 - a = (b - a) + 1 by omega, List.range_succ, List.map_append, partW]
  simp [show a + (b - a) = b by omega]
def stemN (st lo : List Int) : Nat := roll (seqW st lo) (periodL lo) st.length
/-- P27.3. -/
def normL (st lo : List Int) : List Int × List Int := (partW (seqW st lo) 0 (stemN st lo), partW (seqW st lo) (stemN st lo) (stemN st lo + periodL lo))
theorem stemN_spec {st lo : List Int} (h : lo ≠ []) : Per (seqW st lo) (stemN st lo) (periodL lo) ∧ (0 < stemN st lo → seqW st lo (stemN st lo - 1 + periodL lo) ≠ seqW st lo (stemN st lo - 1)) := by
  obtain ⟨h1, h2⟩ := roll_spec (seqW st lo) (periodL lo) st.length
  refine ⟨fun i hi => ?_, h2⟩
  by_cases e : i < st.length
  · exact h1 i hi e
  · exact (period_least h).1 i (by omega)
/-- What goes on for ever alike is written alike. -/
theorem normL_congr {st lo st' lo' : List Int} (h : lo ≠ []) (h' : lo' ≠ []) (hs : ∀ i, seqW st lo i = seqW st' lo' i) : normL st lo = normL st' lo' := by
  have e : seqW st lo = seqW st' lo' := funext hs
  obtain ⟨a1, a2⟩ := period_least (st := st) h
  obtain ⟨b1, b2⟩ := period_least (st := st') h'
  have p1 := (period_spec h).1
  have p2 := (period_spec h').1
  have hp : periodL lo = periodL lo' := by
    have := a2 st'.length (periodL lo') p2 (by rw [e]; exact b1)
    have := b2 st.length (periodL lo) p1 (by rw [← e]; exact a1)
    omega
  have hm : stemN st lo = stemN st' lo' := by
    obtain ⟨c1, c2⟩ := stemN_spec (st := st) h
    obtain ⟨d1, d2⟩ := stemN_spec (st := st') h'
    rw [e, hp] at c1 c2
    exact roll_uniq c1 d1 c2 d2
  rw [normL, normL, hm, hp, e]
/-- The shortest form goes on alike. -/
theorem normL_seq {st lo : List Int} (h : lo ≠ []) (i : Nat) : seqW (normL st lo).1 (normL st lo).2 i = seqW st lo i := by
  obtain ⟨c1, _⟩ := stemN_spec (st := st) h
  have p1 := (period_spec h).1
  have l1 : (normL st lo).1.length = stemN st lo := by rw [normL, partW_len]; omega
  have l2 : (normL st lo).2.length = periodL lo := by rw [normL, partW_len]; omega
  by_cases hi : i < stemN st lo
  · rw [seqW_stem (by omega), normL, partW_get (by omega)]; congr 1; omega
  · rw [seqW_loop (by omega), l1, l2]
    have hm := Nat.mod_lt (i - stemN st lo) (show 0 < periodL lo by omega)
    rw [normL, partW_get (by omega)]
    have := c1.mul ((i - stemN st lo) / periodL lo) (stemN st lo + (i - stemN st lo) % periodL lo) (by omega)
    rw [← this]
    congr 1
    have := Nat.mod_add_div (i - stemN st lo) (periodL lo)
    omega
theorem normL_ne {st lo : List Int} (h : lo ≠ []) : (normL st lo).2 ≠ [] := by
  have p1 := (period_spec h).1
  intro e
  have : (normL st lo).2.length = periodL lo := by rw [normL, partW_len]; omega
  rw [e] at this; simp at this; omega
theorem normL_normL {st lo : List Int} (h : lo ≠ []) : normL (normL st lo).1 (normL st lo).2 = normL st lo :=
  normL_congr (normL_ne h) h (normL_seq h)
/-- A word whose loop is gone over once more goes on alike. -/
theorem longer_seq {st lo : List Int} (h : lo ≠ []) (i : Nat) : seqW (st ++ lo) lo i = seqW st lo i := by
  have hl : 0 < lo.length := List.length_pos_iff.2 h
  by_cases h1 : i < st.length
  · rw [seqW_stem (by simp; omega), seqW_stem h1, List.getD_eq_getElem?_getD, List.getElem?_append_left h1, ← List.getD_eq_getElem?_getD]
  · by_cases h2 : i < st.length + lo.length
    · rw [seqW_stem (by simp; omega), seqW_loop (by omega), Nat.mod_eq_of_lt (by omega)]
      simp [List.getD, List.getElem?_append_right (show st.length ≤ i by omega)]
    · rw [seqW_loop (by simp; omega), seqW_loop (by omega), List.length_append]
      congr 1
      have : i - st.length = i - (st.length + lo.length) + lo.length := by omega
      rw [this, Nat.add_mod_right]
/-- P27.3: a word from a place on. -/
def shiftL (st lo : List Int) (n : Nat) : List Int × List Int :=
  if n ≤ st.length then (st.drop n, lo) else ([], lo.drop ((n - st.length) % lo.length) ++ lo.take ((n - st.length) % lo.length))
theorem rot_get {lo : List Int} {r i : Nat} (hr : r < lo.length) (hi : i < lo.length) : (lo.drop r ++ lo.take r).getD i 0 = lo.getD ((r + i) % lo.length) 0 := by
  by_cases h : r + i < lo.length
  · rw [Nat.mod_eq_of_lt h, List.getD_eq_getElem?_getD, List.getElem?_append_left (by simp; omega), List.getElem?_drop, ← List.getD_eq_getElem?_getD]
  · rw [Nat.mod_eq_sub_mod (by omega), Nat.mod_eq_of_lt (by omega), List.getD_eq_getElem?_getD, List.getElem?_append_right (by simp; omega), List.getElem?_take]
    simp only [List.length_drop]
    rw [if_pos (by omega), ← List.getD_eq_getElem?_getD]; congr 1; omega
theorem shiftL_seq {st lo : List Int} (h : lo ≠ []) (n i : Nat) : seqW (shiftL st lo n).1 (shiftL st lo n).2 i = seqW st lo (i + n) := by
  have hl : 0 < lo.length := List.length_pos_iff.2 h
  unfold shiftL
  split
  · rename_i hn
    dsimp only
    by_cases hi : i < st.length - n
    · rw [seqW_stem (by simp; omega), seqW_stem (by omega)]
      simp [List.getD, List.getElem?_drop, Nat.add_comm]
    · rw [seqW_loop (by simp; omega), seqW_loop (by omega), List.length_drop]
      congr 2; omega
  · rename_i hn
    dsimp only
    have hr := Nat.mod_lt (n - st.length) hl
    have hlen : (lo.drop ((n - st.length) % lo.length) ++ lo.take ((n - st.length) % lo.length)).length = lo.length := by simp; omega
    rw [seqW_loop (by simp), seqW_loop (by omega), hlen]
    have hi := Nat.mod_lt i hl
    rw [List.length_nil, Nat.sub_zero, rot_get hr hi]
    congr 1
    rw [← Nat.add_mod, show n - st.length + i = i + n - st.length by omega]
theorem shiftL_ne {st lo : List Int} (h : lo ≠ []) (n : Nat) : (shiftL st lo n).2 ≠ [] := by
  have hl : 0 < lo.length := List.length_pos_iff.2 h
  unfold shiftL
  split
  · exact h
  · intro e
    have := congrArg List.length e
    have hr := Nat.mod_lt (n - st.length) hl
    rw [List.length_append, List.length_drop, List.length_take, List.length_nil] at this
    omega
end Go.Proofs.Ytkikkplpalabhaa
