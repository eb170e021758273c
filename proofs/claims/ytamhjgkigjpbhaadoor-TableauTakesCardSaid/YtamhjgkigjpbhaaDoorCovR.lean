/- The ways to make parts of a formula true: at each place of a word all parts hold just if some cover fits; plain. -/
import Derived.Test.YtamhjgkigjpbhaaDoorZae
namespace Go.Proofs.YtamhjgkigjpbhaaDoor

theorem at_of {f : List Nd} {j : Nat} (hj : j < f.length) : f[j]? = some (f.getD j ⟨0, 0⟩) := by simp [List.getD, hj]
theorem mem_finW {u : Way} (h : u.need &&& u.ban = 0) : u ∈ finW u := by unfold finW; rw [if_pos h]; exact List.mem_singleton.2 rfl
theorem kidsOk_of {f : List Nd} (hN : isN f = true) : KidsOk f := by
  intro j hj
  obtain ⟨l, r, h⟩ := node_eq (bits := fun _ _ => false) (n := 1) (lp := 0) hN (by omega) (at_of hj)
  refine ⟨fun e => ?_, fun e => ?_⟩
  · obtain ⟨a, b, c, _⟩ := h.kid2 e
    unfold leftOf rightOf
    rw [a]; simp; omega
  · obtain ⟨a, b, _⟩ := h.kid1 (.inr e)
    unfold leftOf
    rw [a]; simp; omega

section
variable {bits : Int → Nat → Bool} {n lp : Nat} {f : List Nd}
/-- What node j asks, in the words of the ways. -/
structure AskEq (bits : Int → Nat → Bool) (n lp : Nat) (f : List Nd) (j i : Nat) : Prop where
  op : opAt f j = 1 ∨ opAt f j = 2 ∨ opAt f j = 3 ∨ opAt f j = 4 ∨ opAt f j = 5 ∨ opAt f j = 6 ∨ opAt f j = 8 ∨ opAt f j = 9 ∨ opAt f j = 10
  tru : opAt f j = 1 → holdsAt bits n lp f j i = true
  fls : opAt f j = 2 → holdsAt bits n lp f j i = false
  prop : opAt f j = 3 → holdsAt bits n lp f j i = bits (nAt f j) i
  not_ : opAt f j = 4 → holdsAt bits n lp f j i = !bits (nAt f (j - 1)) i
  and_ : opAt f j = 5 → holdsAt bits n lp f j i = (holdsAt bits n lp f (leftOf f j) i && holdsAt bits n lp f (rightOf f j) i)
  or_ : opAt f j = 6 → holdsAt bits n lp f j i = (holdsAt bits n lp f (leftOf f j) i || holdsAt bits n lp f (rightOf f j) i)
  next : opAt f j = 8 → holdsAt bits n lp f j i = holdsAt bits n lp f (leftOf f j) (nx lp n i)
  until_ : opAt f j = 9 → holdsAt bits n lp f j i = (holdsAt bits n lp f (rightOf f j) i || (holdsAt bits n lp f (leftOf f j) i && holdsAt bits n lp f j (nx lp n i)))
  rel : opAt f j = 10 → holdsAt bits n lp f j i = (holdsAt bits n lp f (rightOf f j) i && (holdsAt bits n lp f (leftOf f j) i || holdsAt bits n lp f j (nx lp n i)))
theorem ask_eq (hN : isN f = true) (hlp : lp < n) {j i : Nat} (hj : j < f.length) (hi : i < n) : AskEq bits n lp f j i := by
  obtain ⟨l, r, h⟩ := node_eq (bits := bits) (n := n) hN hlp (at_of hj)
  have e1 : opAt f j = 4 ∨ opAt f j = 8 → leftOf f j = l ∧ l + 1 = j := fun e => by
    obtain ⟨a, b, c⟩ := h.kid1 e
    unfold leftOf; rw [a]; exact ⟨by simp, c⟩
  have e2 : opAt f j = 5 ∨ opAt f j = 6 ∨ opAt f j = 9 ∨ opAt f j = 10 → leftOf f j = l ∧ rightOf f j = r := fun e => by
    obtain ⟨a, b, c, _⟩ := h.kid2 e
    unfold leftOf rightOf; rw [a]; simp
  refine ⟨h.op, fun e => h.tru e i hi, fun e => h.fls e i hi, fun e => ?_, fun e => ?_, fun e => ?_, fun e => ?_, fun e => ?_, fun e => ?_, fun e => ?_⟩
  · have := h.rng e
    rw [h.prop e i hi]
    unfold nAt
    congr 1; omega
  · obtain ⟨y, hy, hy3, hy0, _⟩ := h.lit e
    obtain ⟨_, el⟩ := e1 (.inl e)
    rw [h.not_ e i hi y hy]
    have : f.getD (j - 1) ⟨0, 0⟩ = y := by rw [show j - 1 = l by omega, List.getD_eq_getElem?_getD, hy]; rfl
    unfold nAt
    rw [this]
    congr 2; omega
  · obtain ⟨a, b⟩ := e2 (.inl e); rw [a, b]; exact h.and_ e i hi
  · obtain ⟨a, b⟩ := e2 (.inr (.inl e)); rw [a, b]; exact h.or_ e i hi
  · obtain ⟨a, _⟩ := e1 (.inr e); rw [a]; exact h.next e i hi
  · obtain ⟨a, b⟩ := e2 (.inr (.inr (.inl e))); rw [a, b]; exact h.until_ e i hi
  · obtain ⟨a, b⟩ := e2 (.inr (.inr (.inr e))); rw [a, b]; exact h.rel e i hi
/-- What is needed is read, what is banned is not. -/
def Reads (bits : Int → Nat → Bool) (need ban i : Nat) : Prop := (∀ p : Nat, need.testBit p = true → bits p i = true) ∧ ∀ p : Nat, ban.testBit p = true → bits p i = false
theorem reads_apart {need ban i : Nat} (h : Reads bits need ban i) : need &&& ban = 0 := by
  apply Nat.eq_of_testBit_eq
  intro p
  rw [Nat.testBit_and, Nat.zero_testBit]
  cases h1 : need.testBit p
  · rfl
  · cases h2 : ban.testBit p
    · rfl
    · have := h.1 p h1; rw [h.2 p h2] at this; cases this
/-- A way fits at a place. -/
def Fits (bits : Int → Nat → Bool) (n lp : Nat) (f : List Nd) (i : Nat) (w : Way) : Prop :=
  Reads bits w.need w.ban i ∧ (∀ j, w.next.getD j false = true → holdsAt bits n lp f j (nx lp n i) = true) ∧ ∀ j ∈ w.todo, holdsAt bits n lp f j i = true
theorem set_getD {l : List Bool} {i p : Nat} (h : (l.set i true).getD p false = true) : p = i ∨ l.getD p false = true := by
  rw [List.getD_eq_getElem?_getD, List.getElem?_set] at h
  by_cases e : i = p
  · exact .inl e.symm
  · rw [if_neg e, ← List.getD_eq_getElem?_getD] at h; exact .inr h
/-- What a part that is made true leaves behind: in N, or in need, ban, next. -/
def Obl (f : List Nd) (need ban : Nat) (next : List Bool) (N : Nat → Prop) (j : Nat) : Prop :=
  opAt f j = 1 ∨ (opAt f j = 3 ∧ need.testBit (nAt f j) = true) ∨ (opAt f j = 4 ∧ ban.testBit (nAt f (j - 1)) = true) ∨ (opAt f j = 5 ∧ N (leftOf f j) ∧ N (rightOf f j)) ∨ (opAt f j = 6 ∧ (N (leftOf f j) ∨ N (rightOf f j))) ∨
    (opAt f j = 8 ∧ next.getD (leftOf f j) false = true) ∨ (opAt f j = 9 ∧ (N (rightOf f j) ∨ (N (leftOf f j) ∧ next.getD j false = true))) ∨ (opAt f j = 10 ∧ ((N (leftOf f j) ∧ N (rightOf f j)) ∨ (N (rightOf f j) ∧ next.getD j false = true)))
theorem Obl.mono {need ban need' ban' : Nat} {next next' : List Bool} {N N' : Nat → Prop} {j : Nat} (h : Obl f need ban next N j) (h1 : ∀ p, need.testBit p = true → need'.testBit p = true) (h2 : ∀ p, ban.testBit p = true → ban'.testBit p = true)
    (h3 : ∀ p, next.getD p false = true → next'.getD p false = true) (h4 : ∀ p, N p → N' p) : Obl f need' ban' next' N' j := by
  rcases h with e | ⟨e, h⟩ | ⟨e, h⟩ | ⟨e, h, k⟩ | ⟨e, h⟩ | ⟨e, h⟩ | ⟨e, h⟩ | ⟨e, h⟩
  · exact .inl e
  · exact .inr (.inl ⟨e, h1 _ h⟩)
  · exact .inr (.inr (.inl ⟨e, h2 _ h⟩))
  · exact .inr (.inr (.inr (.inl ⟨e, h4 _ h, h4 _ k⟩)))
  · exact .inr (.inr (.inr (.inr (.inl ⟨e, h.imp (h4 _) (h4 _)⟩))))
  · exact .inr (.inr (.inr (.inr (.inr (.inl ⟨e, h3 _ h⟩)))))
  · exact .inr (.inr (.inr (.inr (.inr (.inr (.inl ⟨e, h.imp (h4 _) (fun h => ⟨h4 _ h.1, h3 _ h.2⟩)⟩))))))
  · exact .inr (.inr (.inr (.inr (.inr (.inr (.inr ⟨e, h.imp (fun h => ⟨h4 _ h.1, h4 _ h.2⟩) (fun h => ⟨h4 _ h.1, h3 _ h.2⟩)⟩))))))
/-- All that is true has left what it asks. -/
def Closed (f : List Nd) (w : Way) : Prop := ∀ j, w.now.getD j false = true → Obl f w.need w.ban w.next (fun p => w.now.getD p false = true ∨ p ∈ w.todo) j
theorem set_self {l : List Bool} {i : Nat} (h : i < l.length) : (l.set i true).getD i false = true := by simp [List.getD, h]
theorem split_obl (hk : KidsOk f) {j : Nat} (hj : j < f.length) {w : Way} (hw : WOk f w) : ∀ v ∈ splitW f j w, Obl f v.need v.ban v.next (fun p => v.now.getD p false = true ∨ p ∈ v.todo) j := by
  intro v hv
  have fin : ∀ u : Way, v ∈ finW u → v = u := by
    intro u hu
    unfold finW at hu
    split at hu
    · exact List.mem_singleton.1 hu
    · cases hu
  unfold splitW at hv
  split at hv
  · exact .inl (by assumption)
  split at hv
  · obtain rfl := fin _ hv
    exact .inr (.inl ⟨by assumption, by simp [Nat.testBit_or]⟩)
  split at hv
  · obtain rfl := fin _ hv
    exact .inr (.inr (.inl ⟨by assumption, by simp [Nat.testBit_or]⟩))
  split at hv
  · rw [List.mem_singleton] at hv; subst hv
    exact .inr (.inr (.inr (.inl ⟨by assumption, .inr (by simp [Way.with_]), .inr (by simp [Way.with_])⟩)))
  split at hv
  · simp only [List.mem_cons, List.not_mem_nil, or_false] at hv
    rcases hv with rfl | rfl
    · exact .inr (.inr (.inr (.inr (.inl ⟨by assumption, .inl (.inr (by simp [Way.with_]))⟩))))
    · exact .inr (.inr (.inr (.inr (.inl ⟨by assumption, .inr (.inr (by simp [Way.with_]))⟩))))
  split at hv
  · rename_i e
    rw [List.mem_singleton] at hv; subst hv
    have := (hk j hj).2 e
    exact .inr (.inr (.inr (.inr (.inr (.inl ⟨e, set_self (by rw [hw.next]; omega)⟩)))))
  split at hv
  · rename_i e
    simp only [List.mem_cons, List.not_mem_nil, or_false] at hv
    rcases hv with rfl | rfl
    · exact .inr (.inr (.inr (.inr (.inr (.inr (.inl ⟨e, .inl (.inr (by simp [Way.with_]))⟩))))))
    · exact .inr (.inr (.inr (.inr (.inr (.inr (.inl ⟨e, .inr ⟨.inr (by simp [Way.with_, Way.owing]), set_self (by simp [Way.with_, hw.next]; omega)⟩⟩))))))
  split at hv
  · rename_i e
    simp only [List.mem_cons, List.not_mem_nil, or_false] at hv
    rcases hv with rfl | rfl
    · exact .inr (.inr (.inr (.inr (.inr (.inr (.inr ⟨e, .inl ⟨.inr (by simp [Way.with_]), .inr (by simp [Way.with_])⟩⟩))))))
    · exact .inr (.inr (.inr (.inr (.inr (.inr (.inr ⟨e, .inr ⟨.inr (by simp [Way.with_, Way.owing]), set_self (by simp [Way.with_, hw.next]; omega)⟩⟩))))))
  · cases hv
theorem leaf_closed (hk : KidsOk f) (k : Nat) (w : Way) (hw : WOk f w) : ∀ y ∈ leaves f k w, Closed f w → ∀ j, y.now.getD j false = true → Obl f y.need y.ban y.next (fun p => y.now.getD p false = true) j := by
  refine way_ind hk (fun w y => Closed f w → ∀ j, y.now.getD j false = true → Obl f y.need y.ban y.next (fun p => y.now.getD p false = true) j) (fun w hw hs hc j hj => ?_) (fun w j t x y hw hs hx _ h hc => h ?_) k w hw
  · exact (hc j hj).mono (fun _ h => h) (fun _ h => h) (fun _ h => h) (fun p hp => hp.elim id (skip_nil hs p))
  · obtain ⟨hm, _, hj⟩ := made_ok hw hs
    obtain ⟨k1, k2, k3, k4, k5, _⟩ := split_keeps x hx
    have hl : j < w.now.length := by rw [hw.now]; exact hj
    intro i hi
    rw [k1] at hi
    rcases set_getD (l := w.now) hi with rfl | hi
    · exact split_obl hk hj hm x hx
    · refine (hc i hi).mono k3 k4 k5 (fun p hp => ?_)
      rw [k1]
      have hnow : ∀ y, w.now.getD y false = true → (w.made j t).now.getD y false = true := by
        intro y hy
        simp only [Way.made]
        rw [List.getD_eq_getElem?_getD, List.getElem?_set]
        by_cases e' : j = y
        · subst e'; simp [hl]
        · rw [if_neg e', ← List.getD_eq_getElem?_getD]; exact hy
      rcases hp with hp | hp
      · exact .inl (hnow p hp)
      · rcases skip_mem hs p hp with h | rfl | h
        · exact .inl (hnow p h)
        · exact .inl (set_self hl)
        · exact .inr (k2 p h)
/-- What is true at the end of a way that fits holds. -/
theorem sound (hN : isN f = true) (hlp : lp < n) {i : Nat} (hi : i < n) {need ban : Nat} {next now : List Bool} (hr : Reads bits need ban i) (hx : ∀ j, next.getD j false = true → holdsAt bits n lp f j (nx lp n i) = true) (hl : now.length = f.length)
    (hc : ∀ j, now.getD j false = true → Obl f need ban next (fun p => now.getD p false = true) j) : ∀ j, now.getD j false = true → holdsAt bits n lp f j i = true := by
  have hk := kidsOk_of hN
  intro j
  induction j using Nat.strongRecOn with
  | _ j ih =>
    intro hj
    have hjl : j < f.length := by
      rw [← hl]
      rw [List.getD_eq_getElem?_getD] at hj
      by_cases h : j < now.length
      · exact h
      · rw [List.getElem?_eq_none (by omega)] at hj; cases hj
    have hA := ask_eq (bits := bits) hN hlp hjl hi
    obtain ⟨q2, q1⟩ := hk j hjl
    rcases hc j hj with e | ⟨e, h⟩ | ⟨e, h⟩ | ⟨e, h, k⟩ | ⟨e, h⟩ | ⟨e, h⟩ | ⟨e, h⟩ | ⟨e, h⟩
    · exact hA.tru e
    · rw [hA.prop e]; exact hr.1 _ h
    · rw [hA.not_ e, hr.2 _ h]; rfl
    · obtain ⟨a, b⟩ := q2 (.inl e); rw [hA.and_ e, ih _ a h, ih _ b k]; rfl
    · obtain ⟨a, b⟩ := q2 (.inr (.inl e))
      rw [hA.or_ e]
      rcases h with h | h
      · rw [ih _ a h]; rfl
      · rw [ih _ b h, Bool.or_true]
    · rw [hA.next e]; exact hx _ h
    · obtain ⟨a, b⟩ := q2 (.inr (.inr (.inl e)))
      rw [hA.until_ e]
      rcases h with h | ⟨h, k⟩
      · rw [ih _ b h]; rfl
      · rw [ih _ a h, hx _ k]; simp
    · obtain ⟨a, b⟩ := q2 (.inr (.inr (.inr e)))
      rw [hA.rel e]
      rcases h with ⟨h, k⟩ | ⟨h, k⟩
      · rw [ih _ a h, ih _ b k]; rfl
      · rw [ih _ b h, hx _ k]; simp
/-- A cover fits. -/
def FitsC (bits : Int → Nat → Bool) (n lp : Nat) (f : List Nd) (i : Nat) (c : Cov) : Prop :=
  Reads bits c.1 c.2.1 i ∧ ∀ j, c.2.2.1.getD j false = true → holdsAt bits n lp f j (nx lp n i) = true
theorem covers_sound (hN : isN f = true) (hlp : lp < n) {i : Nat} (hi : i < n) {parts : List Nat} (hp : ∀ x ∈ parts, x < f.length) {c : Cov} (hc : c ∈ coversL f parts) (hf : FitsC bits n lp f i c) :
    (∀ j, c.2.2.2.getD j false = true → holdsAt bits n lp f j i = true) ∧ ∀ x ∈ parts, holdsAt bits n lp f x i = true := by
  have hk := kidsOk_of hN
  have hc2 := (coversL_rises hk hp).2 c hc
  rcases (onceC_mem _ _ _).1 hc with hc | hc
  · cases hc
  · obtain ⟨y, hy, rfl⟩ := List.mem_map.1 hc
    have hcl : Closed f (startW f.length parts) := fun j hj => by
      simp only [startW, List.getD_eq_getElem?_getD, List.getElem?_replicate] at hj
      split at hj <;> cases hj
    have hob := leaf_closed hk _ _ (startW_ok hp) y hy hcl
    have hs := sound hN hlp hi hf.1 hf.2 hc2.2.2.2 hob
    exact ⟨hs, fun x hx => hs x (hc2.2.1 x hx)⟩
end
end Go.Proofs.YtamhjgkigjpbhaaDoor
