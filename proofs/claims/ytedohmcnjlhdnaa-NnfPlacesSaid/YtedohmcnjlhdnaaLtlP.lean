/- Formulas as lists of nodes: what is wrong with them, where their parts begin: plain. -/
import Derived.Test.YtedohmcnjlhdnaaBase
namespace Go.Proofs.Ytedohmcnjlhdnaa
open Go.RowKit

structure Nd where
  op : Int
  n : Int
  deriving DecidableEq

def takes (op : Int) : Int :=
  if op = 1 ∨ op = 2 ∨ op = 3 then 0 else if op = 4 ∨ op = 8 ∨ op = 11 ∨ op = 12 then 1
  else if op = 5 ∨ op = 6 ∨ op = 7 ∨ op = 9 ∨ op = 10 then 2 else -1
theorem takes_bd (a : Int) : -1 ≤ takes a ∧ takes a ≤ 2 := by unfold takes; repeat' split <;> omega

/-- What is wrong with a node that has d parts ahead of it. -/
def bad (x : Nd) (d : Nat) : Int :=
  if takes x.op < 0 then 3 else if (d : Int) < takes x.op then 4 else if x.op = 3 ∧ (x.n < 0 ∨ 8 ≤ x.n) then 10 else 0
/-- The first error, and how many parts are left. -/
def scan : List Nd → Nat → Int × Nat
  | [], d => (0, d)
  | x :: r, d => if bad x d = 0 then scan r (d - (takes x.op).toNat + 1) else (bad x d, d)
def wrong (f : List Nd) : Int := if f = [] then 4 else if (scan f 0).1 = 0 then (if 1 < (scan f 0).2 then 5 else 0) else (scan f 0).1

theorem scan_append (l r : List Nd) (d : Nat) : scan (l ++ r) d = if (scan l d).1 = 0 then scan r (scan l d).2 else scan l d := by
  induction l generalizing d with
  | nil => simp [scan]
  | cons x l ih =>
    simp only [List.cons_append, scan]
    split
    · exact ih _
    · rfl
theorem take_snoc {α : Type} (f : List α) (k : Nat) (h : k < f.length) : f.take (k + 1) = f.take k ++ [f[k]] := by
  rw [List.take_succ_eq_append_getElem h]
theorem scan_ok {f : List Nd} {k d : Nat} (hk : k < f.length) (hs : scan (f.take k) 0 = (0, d)) (hb : bad f[k] d = 0) : scan (f.take (k + 1)) 0 = (0, d - (takes f[k].op).toNat + 1) := by
  rw [take_snoc f k hk, scan_append, hs]
  simp [scan, hb]
theorem scan_bad {f : List Nd} {k d : Nat} (hk : k < f.length) (hs : scan (f.take k) 0 = (0, d)) (hb : bad f[k] d ≠ 0) : wrong f = bad f[k] d ∧ (scan f 0).1 = bad f[k] d := by
  have h : scan f 0 = (bad f[k] d, d) := by
    conv => lhs; rw [← List.take_append_drop k f, List.drop_eq_getElem_cons hk, scan_append, hs]
    simp [scan, hb]
  have hne : f ≠ [] := by rintro rfl; simp at hk
  simp [wrong, h, hb, hne]
theorem wrong_end {f : List Nd} {d : Nat} (hne : f ≠ []) (hs : scan f 0 = (0, d)) : wrong f = if 1 < d then 5 else 0 := by simp [wrong, hs, hne]
theorem wrong_nil : wrong [] = 4 := rfl

/-- The stack of where parts begin, and where each begins. -/
def stp (s : List Int × List Int) (x : Nd) : List Int × List Int :=
  let k := (takes x.op).toNat
  let b := if 0 < k then s.1.getD (s.1.length - k) 0 else (s.2.length : Int)
  (s.1.take (s.1.length - k) ++ [b], s.2 ++ [b])
def runs (f : List Nd) : List Int × List Int := f.foldl stp ([], [])
def spans (f : List Nd) : List Int := if wrong f = 0 then (runs f).2 else []

theorem runs_snoc {f : List Nd} {k : Nat} (hk : k < f.length) : runs (f.take (k + 1)) = stp (runs (f.take k)) f[k] := by
  unfold runs; rw [take_snoc f k hk, List.foldl_append]; rfl
theorem runs_len (f : List Nd) : (runs f).2.length = f.length := by
  suffices h : ∀ (l : List Nd) (s : List Int × List Int), (l.foldl stp s).2.length = s.2.length + l.length by have := h f ([], []); simpa [runs] using this
  intro l
  induction l with
  | nil => simp
  | cons x l ih => intro s; rw [List.foldl_cons, ih]; simp [stp]; omega
theorem runs_stack {f : List Nd} {d : Nat} (h : scan f 0 = (0, d)) : (runs f).1.length = d := by
  suffices hh : ∀ (l : List Nd) (s : List Int × List Int) (e : Nat), scan l s.1.length = (0, e) → (l.foldl stp s).1.length = e from hh f ([], []) d h
  intro l
  induction l with
  | nil => intro s e h; simpa [scan] using h
  | cons x l ih =>
    intro s e h
    rw [List.foldl_cons]
    apply ih
    simp only [scan] at h
    split at h
    · rename_i hb
      rw [← h]
      congr 1
      simp only [stp, List.length_append, List.length_take, List.length_cons, List.length_nil]
      omega
    · rename_i hb; simp at h; exact absurd h.1 hb
theorem runs_pos (f : List Nd) : ∀ b ∈ (runs f).2, 0 ≤ b ∧ b < f.length := by
  suffices hh : ∀ (l : List Nd) (s : List Int × List Int) (m : Nat), s.2.length + l.length ≤ m → (∀ b ∈ s.1, 0 ≤ b ∧ b < m) → (∀ b ∈ s.2, 0 ≤ b ∧ b < m) → ∀ b ∈ (l.foldl stp s).2, 0 ≤ b ∧ b < m by
    intro b hb
    exact hh f ([], []) f.length (by simp) (by simp) (by simp) b hb
  intro l
  induction l with
  | nil => intro s m _ _ h; simpa using h
  | cons x l ih =>
    intro s m hm h1 h2
    rw [List.foldl_cons]
    simp only [List.length_cons] at hm
    have hb : 0 ≤ (if 0 < (takes x.op).toNat then s.1.getD (s.1.length - (takes x.op).toNat) 0 else (s.2.length : Int)) ∧ (if 0 < (takes x.op).toNat then s.1.getD (s.1.length - (takes x.op).toNat) 0 else (s.2.length : Int)) < (m : Int) := by
      split
      · by_cases hlt : s.1.length - (takes x.op).toNat < s.1.length
        · have : s.1.getD (s.1.length - (takes x.op).toNat) 0 = s.1[s.1.length - (takes x.op).toNat] := by simp [List.getD, hlt]
          rw [this]
          exact h1 _ (List.getElem_mem _)
        · have : s.1.getD (s.1.length - (takes x.op).toNat) 0 = 0 := by simp [List.getD, hlt]
          omega
      · omega
    refine ih _ m ?_ ?_ ?_
    · simp [stp]; omega
    · intro b hbm
      simp only [stp, List.mem_append, List.mem_singleton] at hbm
      rcases hbm with hbm | rfl
      · exact h1 _ (List.mem_of_mem_take hbm)
      · exact hb
    · intro b hbm
      simp only [stp, List.mem_append, List.mem_singleton] at hbm
      rcases hbm with hbm | rfl
      · exact h2 _ hbm
      · exact hb

theorem spans_len {f : List Nd} (h : wrong f = 0) : (spans f).length = f.length := by simp [spans, h, runs_len]
theorem spans_nil_iff (f : List Nd) : spans f = [] ↔ wrong f ≠ 0 := by
  by_cases h : wrong f = 0
  · have hl := spans_len h
    have hne : f ≠ [] := by rintro rfl; simp [wrong_nil] at h
    simp only [h, ne_eq, not_true_eq_false, iff_false]
    rintro h0
    rw [h0] at hl
    exact hne (List.eq_nil_of_length_eq_zero (by simpa using hl.symm))
  · simp [spans, h]
theorem wrong_run {f : List Nd} (hne : f ≠ []) : wrong f = if (scan f 0).1 = 0 then (if 1 < (runs f).1.length then 5 else 0) else (scan f 0).1 := by
  unfold wrong
  rw [if_neg hne]
  split
  · rename_i h
    rw [runs_stack (f := f) (d := (scan f 0).2) (by rw [← h])]
  · rfl
/-- A formula's nodes are all good where they stand. -/
theorem good_at {f : List Nd} (h : wrong f = 0) {k : Nat} (hk : k < f.length) : scan (f.take k) 0 = (0, (runs (f.take k)).1.length) ∧ bad f[k] (runs (f.take k)).1.length = 0 := by
  have hne : f ≠ [] := by rintro rfl; simp at hk
  have hs : (scan f 0).1 = 0 := by
    unfold wrong at h
    rw [if_neg hne] at h
    split at h
    · assumption
    · exact h
  have hsp : f = f.take k ++ (f[k] :: f.drop (k + 1)) := by rw [← List.drop_eq_getElem_cons hk, List.take_append_drop]
  have h1 : (scan (f.take k) 0).1 = 0 := by
    rw [hsp, scan_append] at hs
    split at hs
    · assumption
    · exact hs
  have h2 : scan (f.take k) 0 = (0, (scan (f.take k) 0).2) := by rw [← h1]
  have h3 := runs_stack h2
  refine ⟨by rw [h3]; exact h2, ?_⟩
  rw [h3]
  rw [hsp, scan_append, if_pos h1] at hs
  simp only [scan] at hs
  split at hs
  · assumption
  · exact hs
theorem good_takes {x : Nd} {d : Nat} (h : bad x d = 0) : 0 ≤ takes x.op ∧ takes x.op ≤ (d : Int) ∧ (x.op = 3 → 0 ≤ x.n ∧ x.n < 8) := by
  unfold bad at h
  split at h
  · omega
  · split at h
    · omega
    · split at h
      · omega
      · refine ⟨by omega, by omega, fun h3 => ?_⟩; omega
theorem runs1_le (f : List Nd) : (runs f).1.length ≤ f.length := by
  suffices hh : ∀ (l : List Nd) (s : List Int × List Int) , (l.foldl stp s).1.length ≤ s.1.length + l.length by have := hh f ([], []); simpa [runs] using this
  intro l
  induction l with
  | nil => simp
  | cons x l ih =>
    intro s
    rw [List.foldl_cons]
    have := ih (stp s x)
    have h2 : (stp s x).1.length ≤ s.1.length + 1 := by simp only [stp, List.length_append, List.length_take, List.length_cons, List.length_nil]; omega
    simp only [List.length_cons]
    omega
/-- The parts of a node. -/
def kids (f : List Nd) (at_ : Int) : Int × Int :=
  if wrong f = 0 ∧ 0 ≤ at_ ∧ at_ < f.length then
    if takes (f[at_.toNat]?.getD ⟨0, 0⟩).op = 1 then (at_ - 1, -1)
    else if takes (f[at_.toNat]?.getD ⟨0, 0⟩).op = 2 then ((spans f)[(at_ - 1).toNat]?.getD 0 - 1, at_ - 1) else (-1, -1)
  else (-1, -1)
theorem kids_out {f : List Nd} {at_ : Int} (h : ¬ (wrong f = 0 ∧ 0 ≤ at_ ∧ at_ < f.length)) : kids f at_ = (-1, -1) := by unfold kids; rw [if_neg h]
theorem kids_at {f : List Nd} {k : Nat} (h : wrong f = 0) (hk : k < f.length) :
    kids f k = if takes f[k].op = 1 then ((k : Int) - 1, -1) else if takes f[k].op = 2 then ((spans f)[k - 1]?.getD 0 - 1, (k : Int) - 1) else (-1, -1) := by
  unfold kids
  rw [if_pos ⟨h, by omega, by omega⟩]
  have e : ((k : Int) - 1).toNat = k - 1 := by omega
  simp [hk, e]

/-- The cells of nodes. -/
def ncells (f : List Nd) : List Value := f.flatMap fun x => [.int .i64 x.op, .int .i64 x.n]
theorem ncells_len (f : List Nd) : (ncells f).length = f.length * 2 := by
  induction f with
  | nil => rfl
  | cons x r ih => simp [ncells] at ih ⊢; omega
theorem ncells0 (f : List Nd) (k : Nat) : (ncells f)[k * 2]? = f[k]?.map fun x => .int .i64 x.op := by
  induction f generalizing k with
  | nil => simp [ncells]
  | cons x r ih => cases k with
    | zero => simp [ncells]
    | succ k => have := ih k; simp [ncells, Nat.succ_mul] at this ⊢; exact this
theorem ncells1 (f : List Nd) (k : Nat) : (ncells f)[k * 2 + 1]? = f[k]?.map fun x => .int .i64 x.n := by
  induction f generalizing k with
  | nil => simp [ncells]
  | cons x r ih => cases k with
    | zero => simp [ncells]
    | succ k => have := ih k; simp [ncells, Nat.succ_mul] at this ⊢; exact this
theorem ncells_append (f g : List Nd) : ncells (f ++ g) = ncells f ++ ncells g := by simp [ncells]
theorem ncells_one (f : List Nd) : ∀ u ∈ ncells f, u.oneCell' = true := by
  intro u hu
  simp only [ncells, List.mem_flatMap, List.mem_cons, List.not_mem_nil, or_false] at hu
  obtain ⟨x, _, rfl | rfl⟩ := hu <;> rfl
theorem rd_nd {w : World} {B : Nat} {A : Option Addr} {f : List Nd} (h : Rd w B A (ncells f)) {k : Nat} (hk : k < f.length) :
    ∃ b off, A = some ⟨b, off, none⟩ ∧ b < B ∧ w.cell? ⟨b, off + k * 2, none⟩ = some (.int .i64 f[k].op) ∧ w.cell? ⟨b, off + k * 2 + 1, none⟩ = some (.int .i64 f[k].n) := by
  rcases h with h | ⟨b, off, hA, hb, hc⟩
  · have := ncells0 f k; rw [h] at this; simp [hk] at this
  · exact ⟨b, off, hA, hb, hc _ _ (by rw [ncells0]; simp [hk]), by rw [Nat.add_assoc]; exact hc _ _ (by rw [ncells1]; simp [hk])⟩
/-- The cells of numbers. -/
def icells (l : List Int) : List Value := l.map (.int .i64)
theorem icells_len (l : List Int) : (icells l).length = l.length * 1 := by simp [icells]
theorem icells_one (l : List Int) : ∀ u ∈ icells l, u.oneCell' = true := by
  intro u hu
  simp only [icells, List.mem_map] at hu
  obtain ⟨x, _, rfl⟩ := hu
  rfl
theorem icells_append (l m : List Int) : icells (l ++ m) = icells l ++ icells m := by simp [icells]
theorem icells_drop (l : List Int) (k : Nat) : icells (l.drop k) = (icells l).drop (k * 1) := by simp [icells]
theorem icells_take (l : List Int) (k : Nat) : icells (l.take k) = (icells l).take (k * 1) := by simp [icells]
theorem rd_int {w : World} {B : Nat} {A : Option Addr} {l : List Int} (h : Rd w B A (icells l)) {k : Nat} (hk : k < l.length) :
    ∃ b off, A = some ⟨b, off, none⟩ ∧ b < B ∧ w.cell? ⟨b, off + k, none⟩ = some (.int .i64 l[k]) := by
  exact h.at_ (by simp [icells, hk])

/-- The propositions, as bits. -/
def propsF (f : List Nd) : Nat := f.foldl (fun u x => if x.op = 3 then u ||| 2 ^ x.n.toNat else u) 0
def props (f : List Nd) : Nat := if wrong f = 0 then propsF f else 0
theorem propsF_snoc {f : List Nd} {k : Nat} (hk : k < f.length) : propsF (f.take (k + 1)) = if f[k].op = 3 then propsF (f.take k) ||| 2 ^ f[k].n.toNat else propsF (f.take k) := by
  unfold propsF; rw [take_snoc f k hk, List.foldl_append]; rfl
theorem or_step {u : Nat} {n : Int} (hu : u < 256) (h0 : 0 ≤ n) (h8 : n < 8) : bits .or .u64 (u : Int) (IntKind.u64.wrap (2 ^ n.toNat)) = ((u ||| 2 ^ n.toNat : Nat) : Int) ∧ (u ||| 2 ^ n.toNat) < 256 := by
  obtain ⟨m, rfl⟩ := Int.eq_ofNat_of_zero_le h0
  have hm : m < 8 := by omega
  have e : IntKind.u64.wrap (2 ^ ((m : Int)).toNat) = ((2 ^ m : Nat) : Int) := by
    have hp : 2 ^ m ≤ 2 ^ 7 := Nat.pow_le_pow_right (by omega) (by omega)
    rw [Int.toNat_natCast, IntKind.wrap_u64]
    have e2 : (2 : Int) ^ m = ((2 ^ m : Nat) : Int) := by simp
    rw [e2]
    generalize 2 ^ m = c at hp ⊢
    omega
  have h2 : 2 ^ m < 2 ^ 8 := Nat.pow_lt_pow_right (by omega) hm
  have hor : u ||| 2 ^ m < 2 ^ 8 := Nat.or_lt_two_pow (by omega) h2
  refine ⟨?_, by simpa using hor⟩
  rw [e, Int.toNat_natCast]
  show IntKind.u64.wrap ((BitVec.ofInt 64 (u : Int) ||| BitVec.ofInt 64 ((2 ^ m : Nat) : Int)).toNat : Int) = _
  rw [BitVec.toNat_or, BitVec.ofInt_natCast, BitVec.toNat_ofNat, BitVec.ofInt_natCast, BitVec.toNat_ofNat, Nat.mod_eq_of_lt (by omega), Nat.mod_eq_of_lt (by omega), IntKind.wrap_u64]
  omega
/-- The nodes that are untils, from number i on. -/
def utl : Nat → List Nd → List Int
  | _, [] => []
  | i, x :: r => if x.op = 9 then (i : Int) :: utl (i + 1) r else utl (i + 1) r
def untils (f : List Nd) : List Int := if wrong f = 0 then utl 0 f else []
theorem utl_append (l : List Nd) (x : Nd) : ∀ i, utl i (l ++ [x]) = utl i l ++ if x.op = 9 then [((i + l.length : Nat) : Int)] else [] := by
  induction l with
  | nil => intro i; simp [utl]
  | cons y l ih =>
    intro i
    simp only [List.cons_append, utl, ih]
    have e : i + 1 + l.length = i + (y :: l).length := by simp; omega
    split <;> simp [e]
theorem utl_snoc {f : List Nd} {k : Nat} (hk : k < f.length) : utl 0 (f.take (k + 1)) = utl 0 (f.take k) ++ if f[k].op = 9 then [(k : Int)] else [] := by
  rw [take_snoc f k hk, utl_append]
  simp [List.length_take, Nat.min_eq_left (Nat.le_of_lt hk)]
theorem utl_len (l : List Nd) : ∀ i, (utl i l).length ≤ l.length := by
  induction l with
  | nil => simp [utl]
  | cons x l ih => intro i; simp only [utl]; have := ih (i + 1); split <;> simp <;> omega
def hasNext (f : List Nd) : Bool := f.any fun x => x.op == 8
def neg (f : List Nd) : List Nd := if wrong f = 0 then f ++ [⟨4, 0⟩] else []
end Go.Proofs.Ytedohmcnjlhdnaa
