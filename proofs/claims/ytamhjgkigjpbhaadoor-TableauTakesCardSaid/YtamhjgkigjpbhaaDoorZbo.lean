/- Texts that stand one behind the other, in one file. -/
import Derived.Test.YtamhjgkigjpbhaaDoorMa
import Derived.Test.YtamhjgkigjpbhaaDoorZad
import Derived.Deep.QuietTactic
import Derived.BigQuiet
import Derived.IntWalk
import Derived.Outline

/- Texts of one kind, in one file. -/

/- (XWdP) Truth on a word, row by row: two sweeps from the end settle an until, and a stack of rows gives each part's. Plain. -/
namespace Go.Proofs.YtamhjgkigjpbhaaDoor

def swd (of : Nat → Bool → Bool) (n : Nat) (c : Bool) : Nat → Bool
  | 0 => of (n - 1) c
  | d + 1 => of (n - 1 - (d + 1)) (swd of n c d)
/-- One sweep from the end: c is what stood at the loop's first place. -/
def sw (of : Nat → Bool → Bool) (n : Nat) (c : Bool) (k : Nat) : Bool := swd of n c (n - 1 - k)
theorem sw_at (of : Nat → Bool → Bool) {n : Nat} (c : Bool) {k : Nat} (h : k < n) : sw of n c k = of k (if k + 1 < n then sw of n c (k + 1) else c) := by
  split
  · rename_i h1
    obtain ⟨d, hd⟩ : ∃ d, n - 1 - k = d + 1 := ⟨n - 1 - k - 1, by omega⟩
    rw [sw, hd, swd, sw, show n - 1 - (k + 1) = d by omega, show n - 1 - (d + 1) = k by omega]
  · rw [sw, show n - 1 - k = 0 by omega, swd, show n - 1 = k by omega]
theorem sw_fixed {of : Nat → Bool → Bool} {lp n : Nat} {u : Nat → Bool} (h : ∀ k, k < n → u k = of k (u (nx lp n k))) : ∀ d k, k + d + 1 = n → u k = sw of n (u lp) k
  | 0, k, hd => by
    rw [sw_at _ _ (by omega), h k (by omega), nx, if_neg (by omega), if_neg (by omega)]
  | d + 1, k, hd => by
    rw [sw_at _ _ (by omega), h k (by omega), nx, if_pos (by omega), if_pos (by omega), sw_fixed h d (k + 1) (by omega)]
theorem sw_fix {of : Nat → Bool → Bool} {lp n : Nat} {c : Bool} (h : sw of n c lp = c) {k : Nat} (hk : k < n) : sw of n c k = of k (sw of n c (nx lp n k)) := by
  rw [sw_at _ _ hk, nx]
  split
  · rfl
  · rw [h]
/-- What is asked at a place of an until. -/
def ofU (a b : List Bool) (k : Nat) (c : Bool) : Bool := b.getD k false || (a.getD k false && c)
theorem sw_until {lp n : Nat} (hlp : lp < n) (a b : List Bool) {k : Nat} (hk : k < n) :
    sw (ofU a b) n (sw (ofU a b) n false lp) k = run lp n a b (n + 1) k ∧ sw (ofU a b) n (run lp n a b (n + 1) lp) k = run lp n a b (n + 1) k := by
  have hfix : ∀ k, k < n → run lp n a b (n + 1) k = ofU a b k (run lp n a b (n + 1) (nx lp n k)) := fun k hk => run_fix hlp a b hk
  have hsw : ∀ k, k < n → run lp n a b (n + 1) k = sw (ofU a b) n (run lp n a b (n + 1) lp) k := fun k hk => sw_fixed hfix (n - 1 - k) k (by omega)
  refine ⟨?_, (hsw k hk).symm⟩
  have hc : sw (ofU a b) n false lp = run lp n a b (n + 1) lp := by
    cases e : run lp n a b (n + 1) lp
    · have := hsw lp hlp
      rw [e] at this; exact this.symm
    · cases e2 : sw (ofU a b) n false lp
      · have h3 := run_least hlp a b (u := fun k => sw (ofU a b) n false k) (fun i hi h => by
          show sw (ofU a b) n false i = true
          rw [sw_fix e2 hi]; exact h) (n + 1) lp hlp e
        rw [e2] at h3; exact h3
      · rfl
  rw [hc, hsw k hk]

/-- A list swept from the end down to place k. -/
def swK (of : Nat → Bool → Bool) (n lp : Nat) (old : List Bool) (k : Nat) : List Bool := (List.range n).map fun i => if k ≤ i then sw of n (old.getD lp false) i else old.getD i false
theorem swK_len {of : Nat → Bool → Bool} {n lp : Nat} {old : List Bool} {k : Nat} : (swK of n lp old k).length = n := by simp [swK]
theorem swK_start {of : Nat → Bool → Bool} {n lp : Nat} {old : List Bool} (h : old.length = n) : swK of n lp old n = old := by
  apply ext_getD swK_len h
  intro i hi
  rw [swK, range_get _ hi, if_neg (by omega)]
theorem swK_get {of : Nat → Bool → Bool} {n lp : Nat} {old : List Bool} {k : Nat} (hk : k < n) (hlp : lp < n) : of k ((swK of n lp old (k + 1)).getD (nx lp n k) false) = sw of n (old.getD lp false) k := by
  rw [sw_at _ _ hk, swK, range_get _ (nx_lt hlp), nx]
  split
  · rw [if_pos (Nat.le_refl _)]
  · rw [if_neg (by omega)]
theorem swK_step {of : Nat → Bool → Bool} {n lp : Nat} {old : List Bool} {k : Nat} (hk : k < n) (hlp : lp < n) : (swK of n lp old (k + 1)).set k (of k ((swK of n lp old (k + 1)).getD (nx lp n k) false)) = swK of n lp old k := by
  rw [swK_get (of := of) (old := old) hk hlp]
  apply ext_getD (n := n) (by rw [List.length_set, swK_len]) swK_len
  intro i hi
  rw [List.getD_eq_getElem?_getD, List.getElem?_set]
  split
  · rename_i e; subst e
    rw [if_pos (by rw [swK_len]; exact hi), swK, range_get _ hi, if_pos (Nat.le_refl _)]; rfl
  · rename_i e
    rw [← List.getD_eq_getElem?_getD, swK, range_get _ hi, swK, range_get _ hi]
    by_cases h : k ≤ i
    · rw [if_pos h, if_pos (by omega)]
    · rw [if_neg h, if_neg (by omega)]
def sweepL (of : Nat → Bool → Bool) (n lp : Nat) (old : List Bool) : List Bool := swK of n lp old 0
theorem sweepL_get {of : Nat → Bool → Bool} {n lp : Nat} {old : List Bool} {k : Nat} (hk : k < n) : (sweepL of n lp old).getD k false = sw of n (old.getD lp false) k := by
  rw [sweepL, swK, range_get _ hk, if_pos (by omega)]
theorem sweepL_len {of : Nat → Bool → Bool} {n lp : Nat} {old : List Bool} : (sweepL of n lp old).length = n := swK_len
/-- The fixpoint, from a beginning on, in two sweeps. -/
def settleL (of : Nat → Bool → Bool) (n lp : Nat) (begin_ : Bool) : List Bool := sweepL of n lp (sweepL of n lp (List.replicate n begin_))
theorem rep_get {n : Nat} {c : Bool} {k : Nat} (h : k < n) : (List.replicate n c).getD k false = c := by simp [List.getD, h]
theorem settle_get {of : Nat → Bool → Bool} {n lp : Nat} (hlp : lp < n) {c : Bool} {k : Nat} (hk : k < n) : (settleL of n lp c).getD k false = sw of n (sw of n c lp) k := by
  rw [settleL, sweepL_get hk, sweepL_get hlp, rep_get hlp]
theorem settle_thrice {lp : Nat} {a b : List Bool} (hlp : lp < a.length) : sweepL (ofU a b) a.length lp (settleL (ofU a b) a.length lp false) = untL lp a b := by
  refine ext_getD (n := a.length) sweepL_len (untL_len _ _ _) (fun i hi => ?_)
  rw [sweepL_get hi, settle_get hlp hlp, untL_get hi, (sw_until hlp a b hlp).1, (sw_until hlp a b hi).2]
section
variable {bits : Int → Nat → Bool} {n lp : Nat}
/-- The rows that wait, and all rows, with one node more. -/
def tstep (bits : Int → Nat → Bool) (n lp : Nat) (s : List (List Bool) × List (List Bool)) (x : Nd) : List (List Bool) × List (List Bool) :=
  let row := placesL bits n lp x (if takes x.op = 1 then s.1.getD (s.1.length - 1) [] else if takes x.op = 2 then s.1.getD (s.1.length - 2) [] else []) (if takes x.op = 2 then s.1.getD (s.1.length - 1) [] else [])
  (s.1.take (s.1.length - (takes x.op).toNat) ++ [row], s.2 ++ [row])
def rowsT (bits : Int → Nat → Bool) (n lp : Nat) : Tr → List (List Bool)
  | .leaf x => [val bits n lp (.leaf x)]
  | .un x a => rowsT bits n lp a ++ [val bits n lp (.un x a)]
  | .bin x a b => rowsT bits n lp a ++ (rowsT bits n lp b ++ [val bits n lp (.bin x a b)])
theorem rowsT_len : ∀ t : Tr, (rowsT bits n lp t).length = t.size
  | .leaf _ => rfl
  | .un _ a => by simp [rowsT, Tr.size, rowsT_len a]
  | .bin _ a b => by simp [rowsT, Tr.size, rowsT_len a, rowsT_len b]; omega
theorem tstep_flat : ∀ (t : Tr) (l o : List (List Bool)), t.ok → t.flat.foldl (tstep bits n lp) (l, o) = (l ++ [val bits n lp t], o ++ rowsT bits n lp t)
  | .leaf x, l, o, ⟨h, _⟩ => by simp [Tr.flat, tstep, h, rowsT, val]
  | .un x a, l, o, ⟨h, ha⟩ => by
    rw [Tr.flat, List.foldl_append, tstep_flat a l o ha]
    simp [tstep, h, rowsT, val, List.getD]
  | .bin x a b, l, o, ⟨h, ha, hb⟩ => by
    rw [Tr.flat, List.foldl_append, tstep_flat a l o ha, List.foldl_append, tstep_flat b _ _ hb]
    have h2 : (l ++ [val bits n lp a] ++ [val bits n lp b]).length - 2 = l.length := by simp
    have h1 : (l ++ [val bits n lp a] ++ [val bits n lp b]).length - 1 = l.length + 1 := by simp
    simp only [List.foldl_cons, List.foldl_nil, tstep, h]
    rw [show ((2 : Int)).toNat = 2 from rfl, h2, h1]
    simp [rowsT, val, List.getD]
/-- All rows of a formula. -/
def rowsF (bits : Int → Nat → Bool) (n lp : Nat) (f : List Nd) : List (List Bool) := (f.foldl (tstep bits n lp) ([], [])).2
theorem rowsF_flat {t : Tr} (h : t.ok) : rowsF bits n lp t.flat = rowsT bits n lp t := by rw [rowsF, tstep_flat t [] [] h]; simp
theorem rowsF_len (f : List Nd) : (rowsF bits n lp f).length = f.length := by
  have h : ∀ (l : List Nd) (s : List (List Bool) × List (List Bool)), (l.foldl (tstep bits n lp) s).2.length = s.2.length + l.length := by
    intro l
    induction l with
    | nil => intro s; rfl
    | cons x l ih => intro s; rw [List.foldl_cons, ih]; simp [tstep]; omega
  rw [rowsF, h]; simp
theorem rowsT_at {f : List Nd} {s : List Int} : ∀ (t : Tr) (b k : Nat), t.ok → At f s b t → b ≤ k → k < b + t.size → (rowsT bits n lp t)[k - b]? = (rowsL bits n lp f s (k + 1))[k]?
  | .leaf x, b, k, hok, hat, h1, h2 => by
    simp only [Tr.size] at h2
    rw [at_rows (.leaf x) b k hok hat (by simp only [Tr.size]; omega), show k - b = 0 by omega]; rfl
  | .un x a, b, k, hok, hat, h1, h2 => by
    simp only [Tr.size] at h2
    by_cases h : k < b + a.size
    · rw [rowsT, List.getElem?_append_left (by rw [rowsT_len]; omega)]
      exact rowsT_at a b k hok.2 hat.1 h1 h
    · rw [at_rows (.un x a) b k hok hat (by simp only [Tr.size]; omega), rowsT, List.getElem?_append_right (by rw [rowsT_len]; omega), rowsT_len, show k - b - a.size = 0 by omega]; rfl
  | .bin x a c, b, k, hok, hat, h1, h2 => by
    simp only [Tr.size] at h2
    by_cases h : k < b + a.size
    · rw [rowsT, List.getElem?_append_left (by rw [rowsT_len]; omega)]
      exact rowsT_at a b k hok.2.1 hat.1 h1 h
    · rw [rowsT, List.getElem?_append_right (by rw [rowsT_len]; omega), rowsT_len]
      by_cases h' : k < b + a.size + c.size
      · rw [List.getElem?_append_left (by rw [rowsT_len]; omega), ← rowsT_at c (b + a.size) k hok.2.2 hat.2.1 (by omega) h', show k - b - a.size = k - (b + a.size) by omega]
      · rw [at_rows (.bin x a c) b k hok hat (by simp only [Tr.size]; omega), List.getElem?_append_right (by rw [rowsT_len]; omega), rowsT_len, show k - b - a.size - c.size = 0 by omega]; rfl
/-- The stack's rows are those told by where parts begin. -/
theorem rowsF_rowsL {f : List Nd} (hw : wrong f = 0) : rowsF bits n lp f = rowsL bits n lp f (spans f) f.length := by
  obtain ⟨t, hok, rfl⟩ := parse hw
  rw [rowsF_flat hok]
  apply List.ext_getElem?
  intro k
  have hl := t.flat_len
  by_cases hk : k < t.size
  · have h1 := rowsT_at (bits := bits) (n := n) (lp := lp) t 0 k hok (at_whole hok) (by omega) (by omega)
    rw [Nat.sub_zero] at h1
    have hlt : k < (rowsL bits n lp t.flat (spans t.flat) (k + 1)).length := by rw [rowsL_len]; omega
    have h2 := rowsL_up (d := t.flat.length - (k + 1)) (List.getElem?_eq_getElem hlt)
    rw [show k + 1 + (t.flat.length - (k + 1)) = t.flat.length by omega] at h2
    rw [h1, h2, List.getElem?_eq_getElem hlt]
  · rw [List.getElem?_eq_none (by rw [rowsT_len]; omega), List.getElem?_eq_none (by rw [rowsL_len]; omega)]
theorem rowsF_last {f : List Nd} (hw : wrong f = 0) : (rowsF bits n lp f)[f.length - 1]? = some (val bits n lp (treeOf f)) := by
  rw [rowsF_rowsL hw]; exact rows_last hw
end
end Go.Proofs.YtamhjgkigjpbhaaDoor

/- (XWdS) Truth on a word, by the sets that it has from a place on for ever. Plain. -/
namespace Go.Proofs.YtamhjgkigjpbhaaDoor

/-- The place of a word that stands i places on. -/
def hpl (lp n i : Nat) : Nat := if i < n then i else lp + (i - lp) % (n - lp)
/-- Satisfied from the place i on, by what is read at each place. -/
def Sat (bit : Int → Nat → Bool) : Tr → Nat → Prop
  | .leaf x, i => if x.op = 1 then True else if x.op = 3 then bit x.n i = true else False
  | .un x a, i => if x.op = 4 then ¬ Sat bit a i else if x.op = 8 then Sat bit a (i + 1) else if x.op = 11 then ∃ d, Sat bit a (i + d) else ∀ d, Sat bit a (i + d)
  | .bin x a b, i => if x.op = 5 then Sat bit a i ∧ Sat bit b i else if x.op = 6 then Sat bit a i ∨ Sat bit b i else if x.op = 7 then Sat bit a i → Sat bit b i
      else if x.op = 9 then ∃ d, Sat bit b (i + d) ∧ ∀ e, e < d → Sat bit a (i + e) else ∀ d, Sat bit b (i + d) ∨ ∃ e, e < d ∧ Sat bit a (i + e)
theorem Sat.shift {bit bit' : Int → Nat → Bool} {k : Nat} (h : ∀ m i, bit' m i = bit m (i + k)) : ∀ (t : Tr) (i : Nat), Sat bit' t i ↔ Sat bit t (i + k)
  | .leaf x, i => by simp only [Sat, h]
  | .un x a, i => by
    have ih := Sat.shift h a
    simp only [Sat, ih]
    have e : ∀ d, i + d + k = i + k + d := fun d => by omega
    simp only [e]
  | .bin x a b, i => by
    have ia := Sat.shift h a
    have ib := Sat.shift h b
    simp only [Sat, ia, ib]
    have e : ∀ d, i + d + k = i + k + d := fun d => by omega
    simp only [e]
theorem Sat.congr {bit bit' : Int → Nat → Bool} (h : ∀ m i, bit' m i = bit m i) (t : Tr) (i : Nat) : Sat bit' t i ↔ Sat bit t i :=
  Sat.shift (k := 0) h t i

section
variable {bits : Int → Nat → Bool} {n lp : Nat}
end
end Go.Proofs.YtamhjgkigjpbhaaDoor

/- (XWdN) Words written in the shortest way. Plain. -/
namespace Go.Proofs.YtamhjgkigjpbhaaDoor

/-- The set that a word has at a place, for ever. -/
def seqW (st lo : List Int) (i : Nat) : Int := if i < st.length then st.getD i 0 else lo.getD ((i - st.length) % lo.length) 0
theorem seqW_stem {st lo : List Int} {i : Nat} (h : i < st.length) : seqW st lo i = st.getD i 0 := by rw [seqW, if_pos h]
theorem seqW_loop {st lo : List Int} {i : Nat} (h : st.length ≤ i) : seqW st lo i = lo.getD ((i - st.length) % lo.length) 0 := by rw [seqW, if_neg (by omega)]
/-- From m on s comes again after p. -/
def Per (s : Nat → Int) (m p : Nat) : Prop := ∀ i, m ≤ i → s (i + p) = s i
theorem Per.up {s : Nat → Int} {m m' p : Nat} (h : Per s m p) (hm : m ≤ m') : Per s m' p := fun i hi => h i (by omega)
def perB (lo : List Int) (p : Nat) : Bool := decide (lo.length % p = 0) && decide (lo.drop p = lo.take (lo.length - p))
/-- The least period that divides a loop's length. -/
def periodL (lo : List Int) : Nat := ((List.range lo.length).find? (fun p => decide (1 ≤ p) && perB lo p)).getD lo.length
theorem period_some {lo : List Int} {p : Nat} (h1 : 1 ≤ p) (h2 : p < lo.length) (h3 : perB lo p = true) (h4 : ∀ q, 1 ≤ q → q < p → perB lo q = false) : periodL lo = p := by
  have : (List.range lo.length).find? (fun p => decide (1 ≤ p) && perB lo p) = some p := by
    rw [List.find?_range_eq_some]
    refine ⟨by simp [h1, h3], List.mem_range.2 h2, fun j hj => ?_⟩
    by_cases hj1 : 1 ≤ j
    · simp [h4 j hj1 hj]
    · simp [hj1]
  rw [periodL, this]; rfl
theorem period_none {lo : List Int} (h4 : ∀ q, 1 ≤ q → q < lo.length → perB lo q = false) : periodL lo = lo.length := by
  have : (List.range lo.length).find? (fun p => decide (1 ≤ p) && perB lo p) = none := by
    rw [List.find?_range_eq_none]
    intro j hj
    by_cases hj1 : 1 ≤ j
    · simp [h4 j hj1 hj]
    · simp [hj1]
  rw [periodL, this]; rfl
theorem perB_iff {lo : List Int} {p : Nat} (hp : 1 ≤ p) (hl : p ≤ lo.length) : perB lo p = true ↔ lo.length % p = 0 ∧ ∀ i, i + p < lo.length → lo.getD (i + p) 0 = lo.getD i 0 := by
  simp only [perB, Bool.and_eq_true, decide_eq_true_eq]
  refine and_congr_right (fun _ => ?_)
  constructor
  · intro h i hi
    have := congrArg (fun l => l.getD i 0) h
    simp only [List.getD_eq_getElem?_getD, List.getElem?_drop, List.getElem?_take] at this
    rw [if_pos (by omega), Nat.add_comm] at this
    simpa [List.getD_eq_getElem?_getD] using this
  · intro h
    apply List.ext_getElem (by simp)
    intro i h1 h2
    simp at h1
    have := h i (by omega)
    simp only [List.getD_eq_getElem?_getD] at this
    rw [List.getElem?_eq_getElem (by omega), List.getElem?_eq_getElem (by omega)] at this
    simp only [List.getElem_drop, List.getElem_take]
    simp only [Option.getD_some] at this
    rw [← this]; congr 1
    omega
theorem period_spec {lo : List Int} (h : lo ≠ []) : 1 ≤ periodL lo ∧ periodL lo ≤ lo.length ∧ lo.length % periodL lo = 0 ∧ (∀ i, i + periodL lo < lo.length → lo.getD (i + periodL lo) 0 = lo.getD i 0) ∧
    ∀ q, 1 ≤ q → q < periodL lo → perB lo q = false := by
  have hl : 0 < lo.length := List.length_pos_iff.2 h
  by_cases hn : ∃ q, 1 ≤ q ∧ q < lo.length ∧ perB lo q = true
  · obtain ⟨q, hq⟩ : ∃ q, (1 ≤ q ∧ q < lo.length ∧ perB lo q = true) ∧ ∀ r, r < q → ¬ (1 ≤ r ∧ r < lo.length ∧ perB lo r = true) := by
      obtain ⟨q, hq⟩ := hn
      induction q using Nat.strongRecOn with
      | ind q ih =>
        by_cases hr : ∃ r, r < q ∧ (1 ≤ r ∧ r < lo.length ∧ perB lo r = true)
        · obtain ⟨r, hr, hr'⟩ := hr
          exact ih r hr hr'
        · exact ⟨q, hq, fun r hr' hr'' => hr ⟨r, hr', hr''⟩⟩
    obtain ⟨⟨h1, h2, h3⟩, h4⟩ := hq
    have h5 : ∀ r, 1 ≤ r → r < q → perB lo r = false := fun r hr hr' => by
      cases e : perB lo r
      · rfl
      · exact absurd ⟨hr, by omega, e⟩ (h4 r hr')
    rw [period_some h1 h2 h3 h5]
    have := (perB_iff h1 (by omega)).1 h3
    exact ⟨h1, by omega, this.1, this.2, h5⟩
  · have h5 : ∀ q, 1 ≤ q → q < lo.length → perB lo q = false := fun q hq hq' => by
      cases e : perB lo q
      · rfl
      · exact absurd ⟨q, hq, hq', e⟩ hn
    rw [period_none h5]
    exact ⟨hl, Nat.le_refl _, Nat.mod_self _, fun i hi => by omega, h5⟩
/-- How much of the stem is needed. -/
def roll (s : Nat → Int) (p : Nat) : Nat → Nat
  | 0 => 0
  | k + 1 => if s k = s (k + p) then roll s p k else k + 1
def stemN (st lo : List Int) : Nat := roll (seqW st lo) (periodL lo) st.length
end Go.Proofs.YtamhjgkigjpbhaaDoor

/- The walks of layer 27: Check, Len, At, of the program and of the reference. -/
namespace Go.Proofs.YtamhjgkigjpbhaaDoor
open Go.RowKit

def atW (st lo : List Int) (i : Int) : Int := if i < 0 then 0 else seqW st lo i.toNat
/-- A word's sets, read. -/
structure WRd (w : World) (B : Nat) (A1 A2 : Option Addr) (n1 c1 n2 c2 : Nat) (st lo : List Int) : Prop where
  s1 : Sl w B 1 A1 n1 c1 (ucells st)
  s2 : Sl w B 1 A2 n2 c2 (ucells lo)
  l1 : n1 = st.length
  l2 : n2 = lo.length
theorem WRd.below {w w' : World} {B B' n1 c1 n2 c2 : Nat} {A1 A2 : Option Addr} {st lo : List Int} (h : WRd w B A1 A2 n1 c1 n2 c2 st lo) (hb : Below B' w w') (hB : B ≤ B') : WRd w' B A1 A2 n1 c1 n2 c2 st lo :=
  ⟨h.s1.below hb hB, h.s2.below hb hB, h.l1, h.l2⟩
theorem WRd.up {w : World} {B B' n1 c1 n2 c2 : Nat} {A1 A2 : Option Addr} {st lo : List Int} (h : WRd w B A1 A2 n1 c1 n2 c2 st lo) (hB : B ≤ B') : WRd w B' A1 A2 n1 c1 n2 c2 st lo := ⟨h.s1.up hB, h.s2.up hB, h.l1, h.l2⟩
theorem rd_u {w : World} {B : Nat} {A : Option Addr} {n c : Nat} {l : List Int} (h : Sl w B 1 A n c (ucells l)) {k : Nat} (hk : k < l.length) : ∃ b o, A = some ⟨b, o, none⟩ ∧ b < B ∧ w.cell? ⟨b, o + k, none⟩ = some (.int .u64 (l.getD k 0)) :=
  h.rd.at_ (ucells_at hk)
/-- The word's box. -/
theorem wbox (w : World) (A1 A2 : Option Addr) (n1 c1 n2 c2 : Nat) : Below w.heap.size w (w.alloc (.cells #[.slice A1 n1 c1, .slice A2 n2 c2] 35)) ∧ (w.alloc (.cells #[.slice A1 n1 c1, .slice A2 n2 c2] 35)).cell? ⟨w.heap.size, 0, none⟩ = some (.slice A1 n1 c1) ∧
    (w.alloc (.cells #[.slice A1 n1 c1, .slice A2 n2 c2] 35)).cell? ⟨w.heap.size, 1, none⟩ = some (.slice A2 n2 c2) :=
  ⟨(Below.refl _ _).alloc (Nat.le_refl _) _, by rw [cell_of_row _ _ _ _ _ (0, 0) (heap_alloc_new w _)]; rfl, by rw [cell_of_row _ _ _ _ _ (0, 0) (heap_alloc_new w _)]; rfl⟩

set_option maxHeartbeats 400000 in
theorem rCheck_any (A1 A2 : Option Addr) (n1 c1 n2 c2 : Nat) (st lo : List Int) (w : World) (hn1 : n1 = st.length) (hn2 : n2 = lo.length) (hl : n1 + n2 ≤ 60000) :
    Calls Tryd.prog 12 #[.agg #[.slice A1 n1 c1, .slice A2 n2 c2]] w (Num w (if n2 = 0 then 8 else 0)) := by
  have hb := (wbox w A1 A2 n1 c1 n2 c2).1
  by_cases h0 : n2 = 0
  · have d : ((n2 : Int) == 0) = true := by simp [h0]
    rw [if_pos h0]
    clear h0 hn1 hn2
    go_enter Tryd.func12, Tryd.ntmps12
    go_wp2
    go_ret
    exact ⟨rfl, hb⟩
  · have d : ((n2 : Int) == 0) = false := by simpa using h0
    have d2 : decide ((65536 : Int) < (n1 : Int) + (n2 : Int)) = false := by simp; omega
    rw [if_neg h0]
    clear h0 hn1 hn2
    go_enter Tryd.func12, Tryd.ntmps12
    go_wp2
    go_ret
    exact ⟨rfl, hb⟩
theorem rLen_any (A1 A2 : Option Addr) (n1 c1 n2 c2 : Nat) (w : World) (hl : n1 + n2 ≤ 60000) :
    Calls Tryd.prog 27 #[.agg #[.slice A1 n1 c1, .slice A2 n2 c2]] w (Num w ((n1 + n2 : Nat) : Int)) := by
  have hb := (wbox w A1 A2 n1 c1 n2 c2).1
  go_enter Tryd.func27, Tryd.ntmps27
  go_wp2
  go_ret
  exact ⟨ret_int (by omega), hb⟩
set_option maxHeartbeats 1000000 in
theorem rAt_any (A1 A2 : Option Addr) (n1 c1 n2 c2 : Nat) (st lo : List Int) (i : Int) (w : World) (B : Nat) (h : WRd w B A1 A2 n1 c1 n2 c2 st lo) (hB : B ≤ w.heap.size) (_hl : n1 + n2 ≤ 60000) (hi : i ≤ 9223372036854775807) :
    Calls Tryd.prog 29 #[.agg #[.slice A1 n1 c1, .slice A2 n2 c2], .int .i64 i] w (NumU w (atW st lo i)) := by
  obtain ⟨hb, hx1, hx2⟩ := wbox w A1 A2 n1 c1 n2 c2
  have h1 := h.below hb hB
  have hn1 := h.l1
  have hn2 := h.l2
  clear hx1 hx2 h
  by_cases h0 : i < 0
  · have d : decide (i < 0) = true := by simpa using h0
    have e : atW st lo i = 0 := by rw [atW, if_pos h0]
    rw [e]
    clear e h0 hn1 hn2 h1
    go_enter Tryd.func29, Tryd.ntmps29
    go_wp2
    go_ret
    exact ⟨rfl, hb⟩
  obtain ⟨k, rfl⟩ := Int.eq_ofNat_of_zero_le (show 0 ≤ i by omega)
  have e : atW st lo (k : Int) = seqW st lo k := by rw [atW, if_neg h0, Int.toNat_natCast]
  rw [e]
  clear e h0
  by_cases hk : k < n1
  · have hks : k < st.length := by omega
    obtain ⟨b, o, rfl, hbB, hc⟩ := rd_u h1.s1 hks
    rw [seqW_stem hks]
    clear hn1 hn2 h1 hks
    generalize st.getD k 0 = x at *
    have d : (k : Int) < (n1 : Int) := by omega
    go_enter Tryd.func29, Tryd.ntmps29
    go_wp2
    go_ret
    exact ⟨rfl, hb⟩
  have d0 : decide (k < n1) = false := by simpa using hk
  by_cases h2 : n2 = 0
  · have d : ((n2 : Int) == 0) = true := by simp [h2]
    have hlo : lo = [] := List.eq_nil_of_length_eq_zero (by omega)
    have e : seqW st lo k = 0 := by rw [seqW_loop (by omega), hlo]; rfl
    rw [e]
    clear e hlo h2 hn1 hn2 h1
    go_enter Tryd.func29, Tryd.ntmps29
    go_wp2
    go_ret
    exact ⟨rfl, hb⟩
  · have d : ((n2 : Int) == 0) = false := by simpa using h2
    have hm := Nat.mod_lt (k - n1) (show 0 < n2 by omega)
    have hkl : (k - n1) % n2 < lo.length := by omega
    obtain ⟨b, o, rfl, hbB, hc⟩ := rd_u h1.s2 hkl
    have e : seqW st lo k = lo.getD ((k - n1) % n2) 0 := by rw [seqW_loop (by omega), hn1, hn2]
    rw [e]
    obtain ⟨j, hj⟩ : ∃ j, j = k - n1 := ⟨_, rfl⟩
    rw [← hj] at hm hc ⊢
    have e1 : IntKind.i64.wrap ((k : Int) - (n1 : Int)) = (j : Int) := by rw [IntWalk.i64_in _ (by omega)]; omega
    have e2 : ((j : Int)).tmod (n2 : Int) = ((j % n2 : Nat) : Int) := by rw [Int.tmod_eq_emod_of_nonneg (by omega)]; omega
    have hpos : (0 : Int) < (n2 : Int) := by omega
    generalize lo.getD (j % n2) 0 = x at *
    generalize j % n2 = r at *
    have i1 : (r : Int) < (n2 : Int) := by omega
    have hn0 : ¬ ((n2 : Int) = 0) := by omega
    have E1 := Lib.hid e1
    have E2 := Lib.hid e2
    clear e hn1 hn2 h1 hj e1 e2 hkl h2
    go_enter Tryd.func29, Tryd.ntmps29
    go_wp2
    have e1 := E1.out
    have e2 := E2.out
    go_quiet (fail)
    clear e1 e2
    go_wp2
    go_ret
    exact ⟨rfl, below_drewN hb _⟩

end Go.Proofs.YtamhjgkigjpbhaaDoor
