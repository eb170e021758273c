/- Negation normal form, on trees and on lists. Plain. -/
import Derived.Test.YtedohmcnjlhdnaaTr
namespace Go.Proofs.Ytedohmcnjlhdnaa

/-- The positive form (y), or the negative one. -/
def nn : Tr → Bool → Tr
  | .leaf x, y => if x.op = 3 then (if y then .leaf x else .un ⟨4, 0⟩ (.leaf x)) else .leaf ⟨if (x.op == 1) = y then 1 else 2, 0⟩
  | .un x a, y =>
    if x.op = 4 then nn a (!y) else if x.op = 8 then .un ⟨8, 0⟩ (nn a y)
    else if (x.op == 11) = y then .bin ⟨9, 0⟩ (.leaf ⟨1, 0⟩) (nn a y) else .bin ⟨10, 0⟩ (.leaf ⟨2, 0⟩) (nn a y)
  | .bin x a b, y =>
    if x.op = 7 then .bin ⟨if y then 6 else 5, 0⟩ (nn a (!y)) (nn b y)
    else .bin ⟨if x.op = 5 then (if y then 5 else 6) else if x.op = 6 then (if y then 6 else 5) else if x.op = 9 then (if y then 9 else 10) else (if y then 10 else 9), 0⟩ (nn a y) (nn b y)

theorem takes_zero {x : Int} (h : takes x = 0) : x = 1 ∨ x = 2 ∨ x = 3 := by unfold takes at h; (repeat' split at h) <;> omega
theorem takes_one {x : Int} (h : takes x = 1) : x = 4 ∨ x = 8 ∨ x = 11 ∨ x = 12 := by unfold takes at h; (repeat' split at h) <;> omega
theorem takes_two {x : Int} (h : takes x = 2) : x = 5 ∨ x = 6 ∨ x = 7 ∨ x = 9 ∨ x = 10 := by unfold takes at h; (repeat' split at h) <;> omega

/-- In negation normal form. -/
def Tr.nnf : Tr → Prop
  | .leaf _ => True
  | .un x a => (x.op = 8 ∧ a.nnf) ∨ (x.op = 4 ∧ ∃ p, a = .leaf p ∧ p.op = 3)
  | .bin x a b => (x.op = 5 ∨ x.op = 6 ∨ x.op = 9 ∨ x.op = 10) ∧ a.nnf ∧ b.nnf
/-- N of all nodes but propositions is 0. -/
def Tr.clean : Tr → Prop
  | .leaf x => x.op = 3 ∨ x.n = 0
  | .un x a => x.n = 0 ∧ a.clean
  | .bin x a b => x.n = 0 ∧ a.clean ∧ b.clean

theorem nn_ok : ∀ (t : Tr) (y : Bool), t.ok → (nn t y).ok ∧ (nn t y).nnf ∧ (nn t y).clean
  | .leaf x, y, ⟨h, h3⟩ => by
    unfold nn
    split
    · rename_i e
      cases y
      · exact ⟨⟨rfl, h, h3⟩, .inr ⟨rfl, x, rfl, e⟩, rfl, .inl e⟩
      · exact ⟨⟨h, h3⟩, trivial, .inl e⟩
    · split
      · exact ⟨⟨rfl, fun h => by simp at h⟩, trivial, .inr rfl⟩
      · exact ⟨⟨rfl, fun h => by simp at h⟩, trivial, .inr rfl⟩
  | .un x a, y, ⟨h, ha⟩ => by
    unfold nn
    split
    · exact nn_ok a (!y) ha
    · split
      · have := nn_ok a y ha
        exact ⟨⟨rfl, this.1⟩, .inl ⟨rfl, this.2.1⟩, rfl, this.2.2⟩
      · have := nn_ok a y ha
        split
        · exact ⟨⟨rfl, ⟨rfl, fun h => by simp at h⟩, this.1⟩, ⟨.inr (.inr (.inl rfl)), trivial, this.2.1⟩, rfl, .inr rfl, this.2.2⟩
        · exact ⟨⟨rfl, ⟨rfl, fun h => by simp at h⟩, this.1⟩, ⟨.inr (.inr (.inr rfl)), trivial, this.2.1⟩, rfl, .inr rfl, this.2.2⟩
  | .bin x a b, y, ⟨h, ha, hb⟩ => by
    have hb' := nn_ok b y hb
    unfold nn
    split
    · have ha' := nn_ok a (!y) ha
      cases y
      · exact ⟨⟨rfl, ha'.1, hb'.1⟩, ⟨.inl rfl, ha'.2.1, hb'.2.1⟩, rfl, ha'.2.2, hb'.2.2⟩
      · exact ⟨⟨rfl, ha'.1, hb'.1⟩, ⟨.inr (.inl rfl), ha'.2.1, hb'.2.1⟩, rfl, ha'.2.2, hb'.2.2⟩
    · have ha' := nn_ok a y ha
      rename_i h7
      rcases takes_two h with e | e | e | e | e
      all_goals first
        | exact absurd e h7
        | (rw [e]
           cases y
           all_goals
             refine ⟨⟨rfl, ha'.1, hb'.1⟩, ⟨?_, ha'.2.1, hb'.2.1⟩, rfl, ha'.2.2, hb'.2.2⟩
             decide)

/-- The form of a form is that form; its negative form is the other one. -/
theorem nn_nnf : ∀ (t : Tr), t.ok → t.nnf → t.clean → nn t true = t
  | .leaf x, ⟨h, _⟩, _, hc => by
    unfold nn
    split
    · rfl
    · rename_i h3
      rcases hc with hc | hc
      · exact absurd hc h3
      · obtain ⟨op, n⟩ := x
        dsimp only at *
        subst hc
        rcases takes_zero h with rfl | rfl | rfl
        · rfl
        · rfl
        · simp at h3
  | .un x a, ⟨h, ha⟩, hn, ⟨hc, hca⟩ => by
    obtain ⟨op, n⟩ := x
    dsimp only at *
    subst hc
    rcases hn with ⟨e, hna⟩ | ⟨e, p, rfl, hp⟩
    · dsimp only at e; subst e
      show nn (.un ⟨8, 0⟩ a) true = _
      unfold nn
      rw [if_neg (by decide), if_pos rfl, nn_nnf a ha hna hca]
    · dsimp only at e; subst e
      show nn (.un ⟨4, 0⟩ (.leaf p)) true = _
      simp [nn, hp]
  | .bin x a b, ⟨h, ha, hb⟩, ⟨hn, hna, hnb⟩, ⟨hc, hca, hcb⟩ => by
    obtain ⟨op, n⟩ := x
    dsimp only at *
    subst hc
    have h1 := nn_nnf a ha hna hca
    have h2 := nn_nnf b hb hnb hcb
    rcases hn with rfl | rfl | rfl | rfl <;> simp [nn, h1, h2]
theorem nn_nn : ∀ (t : Tr) (y z : Bool), t.ok → nn (nn t y) z = nn t (y == z)
  | .leaf x, y, z, ⟨h, _⟩ => by
    obtain ⟨op, n⟩ := x
    rcases takes_zero h with e | e | e
    all_goals
      dsimp only at e; subst e
      cases y <;> cases z <;> simp [nn]
  | .un x a, y, z, ⟨h, ha⟩ => by
    obtain ⟨op, n⟩ := x
    rcases takes_one h with e | e | e | e
    all_goals dsimp only at e; subst e
    · have := nn_nn a (!y) z ha
      cases y <;> cases z <;> simpa [nn] using this
    · have := nn_nn a y z ha
      cases y <;> cases z <;> simpa [nn] using this
    · have := nn_nn a y z ha
      cases y <;> cases z <;> simpa [nn] using this
    · have := nn_nn a y z ha
      cases y <;> cases z <;> simpa [nn] using this
  | .bin x a b, y, z, ⟨h, ha, hb⟩ => by
    obtain ⟨op, n⟩ := x
    have h1 := nn_nn a y z ha
    have h1' := nn_nn a (!y) z ha
    have h2 := nn_nn b y z hb
    rcases takes_two h with e | e | e | e | e
    all_goals
      dsimp only at e; subst e
      cases y <;> cases z <;> simp [nn] at * <;> exact ⟨by assumption, by assumption⟩
theorem nn_size : ∀ (t : Tr) (y : Bool), (nn t y).size ≤ 2 * t.size
  | .leaf x, y => by unfold nn; split <;> (try split) <;> simp [Tr.size]
  | .un x a, y => by
    have h1 := nn_size a y
    have h2 := nn_size a (!y)
    unfold nn
    split
    · simp only [Tr.size]; omega
    · split
      · simp only [Tr.size]; omega
      · split <;> simp only [Tr.size] <;> omega
  | .bin x a b, y => by
    have h1 := nn_size a y
    have h2 := nn_size a (!y)
    have h3 := nn_size b y
    unfold nn
    split <;> simp only [Tr.size] <;> omega

/-- What may stand behind a node of operation p. -/
def okN (p : Int) (x : Nd) : Bool := if x.op = 4 then p == 3 else !(x.op == 7 || x.op == 11 || x.op == 12)
def isNl : Int → List Nd → Bool
  | _, [] => true
  | p, x :: r => okN p x && isNl x.op r
def lastOp (p : Int) (l : List Nd) : Int := (l.getLast?.map (·.op)).getD p
theorem isNl_append : ∀ (l r : List Nd) (p : Int), isNl p (l ++ r) = (isNl p l && isNl (lastOp p l) r)
  | [], r, p => by simp [isNl, lastOp]
  | [x], r, p => by simp [isNl, lastOp]
  | x :: y :: l, r, p => by
    have := isNl_append (y :: l) r x.op
    simp only [List.cons_append, isNl] at this ⊢
    rw [this]
    have e : lastOp x.op (y :: l) = lastOp p (x :: y :: l) := by
      simp [lastOp, List.getLast?_cons]
    rw [e]
    simp [Bool.and_assoc]
/-- P25.2. -/
def isN (f : List Nd) : Bool := wrong f == 0 && isNl 0 f

theorem Tr.lastOp_flat (t : Tr) (p : Int) : lastOp p t.flat = t.root.op := by
  cases t <;> simp [Tr.flat, Tr.root, lastOp]
theorem isNl_flat : ∀ (t : Tr) (p : Int), t.ok → (isNl p t.flat = true ↔ t.nnf)
  | .leaf x, p, ⟨h, _⟩ => by
    rcases takes_zero h with e | e | e <;> simp [Tr.flat, isNl, okN, e, Tr.nnf]
  | .un x a, p, ⟨h, ha⟩ => by
    rw [Tr.flat, isNl_append, Tr.lastOp_flat]
    have ih := isNl_flat a p ha
    have ih0 := isNl_flat a p ha
    rcases takes_one h with e | e | e | e
    · simp only [isNl, okN, e, if_true, Bool.and_true, Bool.and_eq_true, ih, Tr.nnf, beq_iff_eq]
      constructor
      · rintro ⟨hn, hr⟩
        refine .inr ⟨trivial, ?_⟩
        cases a with
        | leaf y => exact ⟨y, rfl, hr⟩
        | un y c => exact absurd ha.1 (by rw [show y.op = 3 from hr]; decide)
        | bin y c d => exact absurd ha.1 (by rw [show y.op = 3 from hr]; decide)
      · rintro (⟨h8, _⟩ | ⟨_, y, rfl, hy⟩)
        · omega
        · exact ⟨trivial, hy⟩
    · simp [isNl, okN, e, ih, Tr.nnf]
    · simp [isNl, okN, e, Tr.nnf]
    · simp [isNl, okN, e, Tr.nnf]
  | .bin x a b, p, ⟨h, ha, hb⟩ => by
    rw [Tr.flat, isNl_append, isNl_append, Tr.lastOp_flat]
    have h1 := isNl_flat a p ha
    have h2 := isNl_flat b a.root.op hb
    rcases takes_two h with e | e | e | e | e <;> simp [isNl, okN, e, h1, h2, Tr.nnf]
theorem isN_flat {t : Tr} (h : t.ok) : isN t.flat = true ↔ t.nnf := by
  simp [isN, Tr.wrong_flat h, isNl_flat t 0 h]

theorem isNl_ok {f : List Nd} {k : Nat} (hk : k < f.length) (h : isNl 0 (f.take k) = true) (ho : okN (lastOp 0 (f.take k)) f[k] = true) : isNl 0 (f.take (k + 1)) = true := by
  rw [take_snoc f k hk, isNl_append, h]; simp [isNl, ho]
theorem isNl_no {f : List Nd} {k : Nat} (hk : k < f.length) (ho : okN (lastOp 0 (f.take k)) f[k] = false) : isN f = false := by
  have : f = f.take k ++ (f[k] :: f.drop (k + 1)) := by rw [← List.drop_eq_getElem_cons hk, List.take_append_drop]
  rw [isN]
  conv => lhs; rhs; rw [this, isNl_append]
  simp [isNl, ho]
theorem lastOp_take {f : List Nd} {k : Nat} (hk : k < f.length) (h1 : 1 ≤ k) : lastOp 0 (f.take k) = (f[k - 1]'(by omega)).op := by
  obtain ⟨j, rfl⟩ : ∃ j, k = j + 1 := ⟨k - 1, by omega⟩
  unfold lastOp
  rw [take_snoc f j (by omega), List.getLast?_concat]
  rfl
theorem isN_end {f : List Nd} (hw : wrong f = 0) (h : isNl 0 (f.take f.length) = true) : isN f = true := by
  rw [List.take_of_length_le (Nat.le_refl _)] at h
  simp [isN, hw, h]
theorem isN_wrong {f : List Nd} (hw : wrong f ≠ 0) : isN f = false := by simp [isN, hw]
theorem isN_good {f : List Nd} (h : isN f = true) : wrong f = 0 := by simp [isN] at h; exact h.1
/-- A negation in a formula has a node ahead of it. -/
theorem not_first {f : List Nd} (hw : wrong f = 0) {k : Nat} (hk : k < f.length) (h : 1 ≤ takes f[k].op) : 1 ≤ k := by
  have := (good_takes (good_at hw hk).2).2.1
  have h2 := runs1_le (f.take k)
  rw [List.length_take, Nat.min_eq_left (Nat.le_of_lt hk)] at h2
  omega

/-- P25.1. -/
def formL (f : List Nd) (y : Bool) : List Nd := if wrong f = 0 then (nn (treeOf f) y).flat else []
theorem formL_nil (f : List Nd) (y : Bool) : formL f y = [] ↔ wrong f ≠ 0 := by
  unfold formL
  split
  · rename_i h
    simp only [h, ne_eq, not_true_eq_false, iff_false]
    intro e
    have h1 := (nn (treeOf f) y).flat_len
    have h2 := (nn (treeOf f) y).size_pos
    rw [e] at h1
    simp at h1; omega
  · rename_i h; simp [h]
theorem formL_flat {t : Tr} (h : t.ok) (y : Bool) : formL t.flat y = (nn t y).flat := by rw [formL, if_pos (Tr.wrong_flat h), treeOf_flat h]
theorem formL_len (f : List Nd) (y : Bool) : (formL f y).length ≤ 2 * f.length := by
  unfold formL
  split
  · rename_i h
    obtain ⟨hok, hfl⟩ := treeOf_ok h
    have := nn_size (treeOf f) y
    have h2 := (treeOf f).flat_len
    rw [hfl] at h2
    rw [Tr.flat_len]; omega
  · simp

theorem formL_good {f : List Nd} (h : wrong f = 0) (y : Bool) : wrong (formL f y) = 0 ∧ isN (formL f y) = true := by
  obtain ⟨hok, hfl⟩ := treeOf_ok h
  rw [formL, if_pos h]
  have hn := nn_ok (treeOf f) y hok
  exact ⟨Tr.wrong_flat hn.1, (isN_flat hn.1).2 hn.2.1⟩
theorem formL_formL {f : List Nd} (h : wrong f = 0) (y z : Bool) : formL (formL f y) z = formL f (y == z) := by
  obtain ⟨hok, hfl⟩ := treeOf_ok h
  have hn := nn_ok (treeOf f) y hok
  rw [show formL f y = (nn (treeOf f) y).flat by rw [formL, if_pos h], formL_flat hn.1, nn_nn _ _ _ hok, formL, if_pos h]
theorem formL_neg {f : List Nd} (h : wrong f = 0) (y : Bool) : formL (f ++ [⟨4, 0⟩]) y = formL f (!y) := by
  obtain ⟨hok, hfl⟩ := treeOf_ok h
  have e : f ++ [⟨4, 0⟩] = (Tr.un ⟨4, 0⟩ (treeOf f)).flat := by rw [Tr.flat, hfl]
  rw [e, formL_flat (t := .un ⟨4, 0⟩ (treeOf f)) ⟨rfl, hok⟩, formL, if_pos h]
  rfl
theorem formL_pos {f : List Nd} (h : wrong f = 0) (y : Bool) : 0 < (formL f y).length := by
  rw [List.length_pos_iff]
  intro e
  exact (formL_nil f y).1 e h
end Go.Proofs.Ytedohmcnjlhdnaa
