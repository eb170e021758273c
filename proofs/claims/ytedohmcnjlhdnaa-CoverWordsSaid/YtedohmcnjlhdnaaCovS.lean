/- How many ways there are; rising lists of numbers; plain. -/
import Derived.Test.YtedohmcnjlhdnaaCovR
namespace Go.Proofs.Ytedohmcnjlhdnaa

/-- Does a node part ways? -/
def branches (f : List Nd) (j : Nat) : Bool := decide (opAt f j = 6) || decide (opAt f j = 9) || decide (opAt f j = 10)
def brF (f : List Nd) (now : List Bool) : Nat := (List.range f.length).countP (fun j => branches f j && !now.getD j false)
theorem countP_le_of {α : Type} {l : List α} {p q : α → Bool} (h : ∀ x ∈ l, p x = true → q x = true) : l.countP p ≤ l.countP q := List.countP_mono_left h
theorem brF_made {f : List Nd} {w : Way} (hw : WOk f w) {j : Nat} {t : List Nat} (hs : skipL w.now w.todo = j :: t) : brF f (w.made j t).now + (if branches f j = true then 1 else 0) ≤ brF f w.now := by
  obtain ⟨hj0, hj1, _⟩ := skip_head hs
  have hj := hw.todo j hj1
  have hr : List.range f.length = List.range j ++ (j :: (List.range' (j + 1) (f.length - j - 1))) := by
    rw [List.range_eq_range', List.range_eq_range', show f.length = j + ((f.length - j - 1) + 1) by omega, ← List.range'_append_1]
    simp [List.range'_succ]
  have hget : ∀ y, y ≠ j → (w.made j t).now.getD y false = w.now.getD y false := by
    intro y hy
    simp only [Way.made]
    rw [List.getD_eq_getElem?_getD, List.getElem?_set, if_neg (fun e => hy e.symm), ← List.getD_eq_getElem?_getD]
  have hself : (w.made j t).now.getD j false = true := set_self (by rw [hw.now]; exact hj)
  unfold brF
  rw [hr, List.countP_append, List.countP_append, List.countP_cons, List.countP_cons]
  have e1 : (List.range j).countP (fun y => branches f y && !(w.made j t).now.getD y false) = (List.range j).countP (fun y => branches f y && !w.now.getD y false) :=
    List.countP_congr (fun y hy => by rw [hget y (by have := List.mem_range.1 hy; omega)])
  have e2 : (List.range' (j + 1) (f.length - j - 1)).countP (fun y => branches f y && !(w.made j t).now.getD y false) = (List.range' (j + 1) (f.length - j - 1)).countP (fun y => branches f y && !w.now.getD y false) :=
    List.countP_congr (fun y hy => by rw [hget y (by have := (List.mem_range'_1.1 hy).1; omega)])
  rw [e1, e2, hself, hj0]
  simp
  omega
theorem split_len (f : List Nd) (j : Nat) (w : Way) : (splitW f j w).length ≤ (if branches f j = true then 2 else 1) := by
  have fin : ∀ u : Way, (finW u).length ≤ 1 := fun u => by unfold finW; split <;> simp
  unfold splitW branches
  by_cases e1 : opAt f j = 1
  · rw [if_pos e1]; split <;> simp
  rw [if_neg e1]
  by_cases e3 : opAt f j = 3
  · rw [if_pos e3]; have := fin { w with need := w.need ||| 2 ^ nAt f j }; split <;> omega
  rw [if_neg e3]
  by_cases e4 : opAt f j = 4
  · rw [if_pos e4]; have := fin { w with ban := w.ban ||| 2 ^ nAt f (j - 1) }; split <;> omega
  rw [if_neg e4]
  by_cases e5 : opAt f j = 5
  · rw [if_pos e5]; split <;> simp
  rw [if_neg e5]
  by_cases e6 : opAt f j = 6
  · rw [if_pos e6, if_pos (by simp [e6])]; simp
  rw [if_neg e6]
  by_cases e8 : opAt f j = 8
  · rw [if_pos e8]; split <;> simp
  rw [if_neg e8]
  by_cases e9 : opAt f j = 9
  · rw [if_pos e9, if_pos (by simp [e9])]; simp
  rw [if_neg e9]
  by_cases e10 : opAt f j = 10
  · rw [if_pos e10, if_pos (by simp [e10])]; simp
  rw [if_neg e10]; split <;> simp
theorem leaves_len {f : List Nd} (hk : KidsOk f) : ∀ (n : Nat) (w : Way), WOk f w → (leaves f n w).length ≤ 2 ^ brF f w.now := by
  intro n
  induction n with
  | zero => intro w _; simp [leaves]
  | succ n ih =>
    intro w hw
    unfold leaves
    cases hs : skipL w.now w.todo with
    | nil => simp; exact Nat.one_le_two_pow
    | cons j t =>
      obtain ⟨hm, _, hj⟩ := made_ok hw hs
      have hb := brF_made hw hs
      have hl := split_len f j (w.made j t)
      have hall : ∀ x ∈ splitW f j (w.made j t), (leaves f n x).length ≤ 2 ^ brF f (w.made j t).now := fun x hx => by
        obtain ⟨h1, h2⟩ := split_ok hk hj hm x hx
        have := ih x h1
        rw [h2] at this
        exact this
      have hsum : ∀ L : List Way, (∀ x ∈ L, (leaves f n x).length ≤ 2 ^ brF f (w.made j t).now) → (L.flatMap (leaves f n)).length ≤ L.length * 2 ^ brF f (w.made j t).now := by
        intro L
        induction L with
        | nil => intro _; simp
        | cons x r ihr =>
          intro h
          have a := h x (by simp)
          have b := ihr (fun y hy => h y (by simp [hy]))
          rw [List.flatMap_cons, List.length_append, List.length_cons, Nat.succ_mul]
          omega
      have h1 := hsum _ hall
      show ((splitW f j (w.made j t)).flatMap (leaves f n)).length ≤ _
      by_cases hbr : branches f j = true
      · rw [if_pos hbr] at hb hl
        have h2 : (splitW f j (w.made j t)).length * 2 ^ brF f (w.made j t).now ≤ 2 * 2 ^ brF f (w.made j t).now := Nat.mul_le_mul_right _ hl
        have h3 : 2 * 2 ^ brF f (w.made j t).now = 2 ^ (brF f (w.made j t).now + 1) := by rw [Nat.pow_succ]; omega
        have h4 : 2 ^ (brF f (w.made j t).now + 1) ≤ 2 ^ brF f w.now := Nat.pow_le_pow_right (by omega) hb
        omega
      · rw [if_neg hbr] at hb hl
        have h2 : (splitW f j (w.made j t)).length * 2 ^ brF f (w.made j t).now ≤ 1 * 2 ^ brF f (w.made j t).now := Nat.mul_le_mul_right _ hl
        have h4 : 2 ^ brF f (w.made j t).now ≤ 2 ^ brF f w.now := Nat.pow_le_pow_right (by omega) (by omega)
        omega

/-- The numbers that are on, rising. -/
def onL (l : List Bool) : List Nat := (List.range l.length).filter (fun i => l.getD i false)
theorem onL_mem {l : List Bool} {i : Nat} : i ∈ onL l ↔ l.getD i false = true := by
  unfold onL
  rw [List.mem_filter, List.mem_range]
  refine ⟨fun h => h.2, fun h => ⟨?_, h⟩⟩
  by_cases hl : i < l.length
  · exact hl
  · rw [List.getD_eq_getElem?_getD, List.getElem?_eq_none (by omega)] at h; cases h
theorem onL_rise (l : List Bool) : (onL l).Pairwise (· < ·) := List.Pairwise.filter _ List.pairwise_lt_range
theorem onL_len (l : List Bool) : (onL l).length ≤ l.length := by
  have := List.length_filter_le (fun i => l.getD i false) (List.range l.length)
  simpa [onL] using this
theorem rise_eq : ∀ {l m : List Nat}, l.Pairwise (· < ·) → m.Pairwise (· < ·) → (∀ x, x ∈ l ↔ x ∈ m) → l = m
  | [], [], _, _, _ => rfl
  | [], y :: m, _, _, h => by have := (h y).2 (by simp); cases this
  | x :: l, [], _, _, h => by have := (h x).1 (by simp); cases this
  | x :: l, y :: m, hl, hm, h => by
    obtain ⟨l1, l2⟩ := List.pairwise_cons.1 hl
    obtain ⟨m1, m2⟩ := List.pairwise_cons.1 hm
    have e : x = y := by
      have a := (h x).1 (by simp)
      have b := (h y).2 (by simp)
      rcases List.mem_cons.1 a with a | a
      · exact a
      · rcases List.mem_cons.1 b with b | b
        · exact b.symm
        · have := m1 x a; have := l1 y b; omega
    subst e
    rw [rise_eq l2 m2 (fun z => ?_)]
    constructor
    · intro hz
      have := (h z).1 (by simp [hz])
      rcases List.mem_cons.1 this with rfl | h'
      · have := l1 z hz; omega
      · exact h'
    · intro hz
      have := (h z).2 (by simp [hz])
      rcases List.mem_cons.1 this with rfl | h'
      · have := m1 z hz; omega
      · exact h'
/-- A number into a rising list, once: as the reference goes. -/
def cstep (n : Nat) (s : List Nat × Bool) (x : Nat) : List Nat × Bool := if s.2 = false ∧ n < x then (s.1 ++ [n, x], true) else (s.1 ++ [x], s.2)
def cfold (n : Nat) (l : List Nat) (s : List Nat × Bool) : List Nat × Bool := l.foldl (cstep n) s
def putF (l : List Nat) (n : Nat) : List Nat := if (cfold n l ([], decide (n ∈ l))).2 = true then (cfold n l ([], decide (n ∈ l))).1 else (cfold n l ([], decide (n ∈ l))).1 ++ [n]
def insF (n : Nat) : List Nat → List Nat
  | [] => [n]
  | x :: r => if n < x then n :: x :: r else x :: insF n r
theorem cfold_true (n : Nat) : ∀ (l acc : List Nat), cfold n l (acc, true) = (acc ++ l, true)
  | [], acc => by simp [cfold]
  | x :: l, acc => by
    show cfold n l (cstep n (acc, true) x) = _
    have : cstep n (acc, true) x = (acc ++ [x], true) := by simp [cstep]
    rw [this, cfold_true n l]; simp
theorem cfold_false (n : Nat) : ∀ (l acc : List Nat), (if (cfold n l (acc, false)).2 = true then (cfold n l (acc, false)).1 else (cfold n l (acc, false)).1 ++ [n]) = acc ++ insF n l
  | [], acc => by simp [cfold, insF]
  | x :: l, acc => by
    have e : cfold n (x :: l) (acc, false) = cfold n l (cstep n (acc, false) x) := rfl
    rw [e]
    by_cases h : n < x
    · have : cstep n (acc, false) x = (acc ++ [n, x], true) := by simp [cstep, h]
      rw [this, cfold_true]; simp [insF, h]
    · have : cstep n (acc, false) x = (acc ++ [x], false) := by simp [cstep, h]
      rw [this, cfold_false n l]; simp [insF, h]
theorem insF_mem (n : Nat) : ∀ (l : List Nat) (x : Nat), x ∈ insF n l ↔ x = n ∨ x ∈ l
  | [], x => by simp [insF]
  | y :: l, x => by
    unfold insF
    split
    · simp
    · rw [List.mem_cons, insF_mem n l, List.mem_cons, or_left_comm]
theorem insF_rise {n : Nat} : ∀ {l : List Nat}, l.Pairwise (· < ·) → n ∉ l → (insF n l).Pairwise (· < ·)
  | [], _, _ => by simp [insF]
  | y :: l, h, hn => by
    obtain ⟨h1, h2⟩ := List.pairwise_cons.1 h
    unfold insF
    split
    · rename_i hlt
      exact List.pairwise_cons.2 ⟨fun z hz => by rcases List.mem_cons.1 hz with rfl | hz; exact hlt; have := h1 z hz; omega, h⟩
    · rename_i hlt
      refine List.pairwise_cons.2 ⟨fun z hz => ?_, insF_rise h2 (fun e => hn (by simp [e]))⟩
      rcases (insF_mem n l z).1 hz with rfl | hz
      · have : z ≠ y := fun e => hn (by simp [e]); omega
      · exact h1 z hz
theorem putF_on {l : List Bool} {i : Nat} (hi : i < l.length) : putF (onL l) i = onL (l.set i true) := by
  have key : ∀ x, (l.set i true).getD x false = true ↔ x = i ∨ l.getD x false = true := by
    intro x
    constructor
    · exact set_getD
    · rintro (rfl | h)
      · exact set_self hi
      · by_cases e : i = x
        · subst e; exact set_self hi
        · rw [List.getD_eq_getElem?_getD, List.getElem?_set, if_neg e, ← List.getD_eq_getElem?_getD]; exact h
  unfold putF
  by_cases h : i ∈ onL l
  · rw [decide_eq_true h, cfold_true, if_pos rfl, List.nil_append]
    refine rise_eq (onL_rise _) (onL_rise _) (fun x => ?_)
    rw [onL_mem, onL_mem, key]
    constructor
    · exact .inr
    · rintro (rfl | h')
      · exact onL_mem.1 h
      · exact h'
  · rw [decide_eq_false h, cfold_false, List.nil_append]
    refine rise_eq (insF_rise (onL_rise _) h) (onL_rise _) (fun x => ?_)
    rw [insF_mem, onL_mem, onL_mem, key]
end Go.Proofs.Ytedohmcnjlhdnaa
