/- The ways to make parts of a formula true (layer 28), as lists of bools; plain. -/
import Derived.Test.YtedohmcnjlhdnaaMa
namespace Go.Proofs.Ytedohmcnjlhdnaa

/-- A way under way. -/
structure Way where
  need : Nat
  ban : Nat
  now : List Bool
  next : List Bool
  todo : List Nat
/-- What a way says at its end: need, ban, next, now. -/
abbrev Cov := Nat × Nat × List Bool × List Bool
def Way.cov (w : Way) : Cov := (w.need, w.ban, w.next, w.now)
def Way.with_ (w : Way) (l : List Nat) : Way := { w with todo := l ++ w.todo }
def Way.owing (w : Way) (j : Nat) : Way := { w with next := w.next.set j true }
def Way.made (w : Way) (j : Nat) (t : List Nat) : Way := { w with now := w.now.set j true, todo := t }
def finW (w : Way) : List Way := if w.need &&& w.ban = 0 then [w] else []
def opAt (f : List Nd) (j : Nat) : Int := (f.getD j ⟨0, 0⟩).op
def nAt (f : List Nd) (j : Nat) : Nat := (f.getD j ⟨0, 0⟩).n.toNat
def leftOf (f : List Nd) (j : Nat) : Nat := (kids f j).1.toNat
def rightOf (f : List Nd) (j : Nat) : Nat := (kids f j).2.toNat
/-- The ways that a part's making true leads to. -/
def splitW (f : List Nd) (j : Nat) (w : Way) : List Way :=
  if opAt f j = 1 then [w]
  else if opAt f j = 3 then finW { w with need := w.need ||| 2 ^ nAt f j }
  else if opAt f j = 4 then finW { w with ban := w.ban ||| 2 ^ nAt f (j - 1) }
  else if opAt f j = 5 then [w.with_ [leftOf f j, rightOf f j]]
  else if opAt f j = 6 then [w.with_ [leftOf f j], w.with_ [rightOf f j]]
  else if opAt f j = 8 then [w.owing (leftOf f j)]
  else if opAt f j = 9 then [w.with_ [rightOf f j], (w.with_ [leftOf f j]).owing j]
  else if opAt f j = 10 then [w.with_ [leftOf f j, rightOf f j], (w.with_ [rightOf f j]).owing j]
  else []
def skipL (now : List Bool) (l : List Nat) : List Nat := l.dropWhile (fun j => now.getD j false)
/-- The ends of all ways, in order; n: how many parts may be taken yet, and one. -/
def leaves (f : List Nd) : Nat → Way → List Way
  | 0, _ => []
  | n + 1, w =>
    match skipL w.now w.todo with
    | [] => [w]
    | j :: t => (splitW f j (w.made j t)).flatMap (leaves f n)
def addC (out : List Cov) (c : Cov) : List Cov := if c ∈ out then out else out ++ [c]
def onceC (l : List Cov) (out : List Cov) : List Cov := l.foldl addC out
def startW (n : Nat) (parts : List Nat) : Way := ⟨0, 0, List.replicate n false, List.replicate n false, parts⟩
def coversL (f : List Nd) (parts : List Nat) : List Cov := onceC ((leaves f (f.length + 1) (startW f.length parts)).map Way.cov) []
/-- How many are not true yet. -/
def cntF (l : List Bool) : Nat := l.countP (! ·)
theorem cntF_set {l : List Bool} {j : Nat} (hj : j < l.length) (h : l.getD j false = false) : cntF (l.set j true) + 1 = cntF l := by
  unfold cntF
  have e : l[j] = false := by simpa [List.getD, hj] using h
  rw [List.countP_set hj]
  have hp : 0 < l.countP (! ·) := List.countP_pos_iff.2 ⟨l[j], List.getElem_mem hj, by rw [e]; rfl⟩
  rw [e]
  simp
  omega
theorem skip_head {now : List Bool} {l : List Nat} {j : Nat} {t : List Nat} (h : skipL now l = j :: t) : now.getD j false = false ∧ j ∈ l ∧ ∀ x ∈ t, x ∈ l := by
  have hs : ∀ x ∈ skipL now l, x ∈ l := fun x hx => (List.dropWhile_suffix _).subset hx
  refine ⟨?_, hs j (by rw [h]; simp), fun x hx => hs x (by rw [h]; simp [hx])⟩
  have := List.head?_dropWhile_not (fun j => now.getD j false) l
  unfold skipL at h
  rw [h] at this
  simpa using this
theorem skip_nil {now : List Bool} {l : List Nat} (h : skipL now l = []) : ∀ x ∈ l, now.getD x false = true := by
  induction l with
  | nil => intro x hx; cases hx
  | cons y r ih =>
    unfold skipL at h ih
    rw [List.dropWhile_cons] at h
    split at h
    · rename_i e
      intro x hx
      rcases List.mem_cons.1 hx with rfl | hx
      · exact e
      · exact ih h x hx
    · cases h
theorem skip_nil_of {now : List Bool} {l : List Nat} (h : ∀ x ∈ l, now.getD x false = true) : skipL now l = [] := by
  induction l with
  | nil => rfl
  | cons y r ih =>
    unfold skipL at ih ⊢
    rw [List.dropWhile_cons, if_pos (h y (by simp))]
    exact ih (fun x hx => h x (by simp [hx]))
/-- What a way's parts are. -/
structure WOk (f : List Nd) (w : Way) : Prop where
  now : w.now.length = f.length
  next : w.next.length = f.length
  todo : ∀ j ∈ w.todo, j < f.length
/-- The kids of a formula lie ahead. -/
def KidsOk (f : List Nd) : Prop := ∀ j, j < f.length → (opAt f j = 5 ∨ opAt f j = 6 ∨ opAt f j = 9 ∨ opAt f j = 10 → leftOf f j < j ∧ rightOf f j < j) ∧ (opAt f j = 8 → leftOf f j < j)
theorem split_ok {f : List Nd} (hk : KidsOk f) {j : Nat} (hj : j < f.length) {w : Way} (h : WOk f w) : ∀ x ∈ splitW f j w, WOk f x ∧ x.now = w.now := by
  obtain ⟨k2, k1⟩ := hk j hj
  intro x hx
  have fin : ∀ v : Way, WOk f v → v.now = w.now → x ∈ finW v → WOk f x ∧ x.now = w.now := by
    intro v hv hn hx
    unfold finW at hx
    split at hx
    · rw [List.mem_singleton] at hx; subst hx; exact ⟨hv, hn⟩
    · cases hx
  have wi : ∀ (v : Way) (l : List Nat), WOk f v → (∀ y ∈ l, y < f.length) → WOk f (v.with_ l) := fun v l hv hl =>
    ⟨hv.now, hv.next, fun y hy => by rcases List.mem_append.1 hy with hy | hy; exact hl y hy; exact hv.todo y hy⟩
  have ow : ∀ (v : Way) (i : Nat), WOk f v → WOk f (v.owing i) := fun v i hv => ⟨hv.now, by simp [Way.owing, hv.next], hv.todo⟩
  unfold splitW at hx
  split at hx
  · rw [List.mem_singleton] at hx; subst hx; exact ⟨h, rfl⟩
  split at hx
  · exact fin { w with need := w.need ||| 2 ^ nAt f j } ⟨h.now, h.next, h.todo⟩ rfl hx
  split at hx
  · exact fin { w with ban := w.ban ||| 2 ^ nAt f (j - 1) } ⟨h.now, h.next, h.todo⟩ rfl hx
  split at hx
  · rename_i e
    have := k2 (.inl e)
    rw [List.mem_singleton] at hx; subst hx
    exact ⟨wi _ _ h (fun y hy => by simp at hy; omega), rfl⟩
  split at hx
  · rename_i e
    have := k2 (.inr (.inl e))
    simp only [List.mem_cons, List.not_mem_nil, or_false] at hx
    rcases hx with rfl | rfl
    · exact ⟨wi _ _ h (fun y hy => by simp at hy; omega), rfl⟩
    · exact ⟨wi _ _ h (fun y hy => by simp at hy; omega), rfl⟩
  split at hx
  · rename_i e
    rw [List.mem_singleton] at hx; subst hx
    exact ⟨ow _ _ h, rfl⟩
  split at hx
  · rename_i e
    have := k2 (.inr (.inr (.inl e)))
    simp only [List.mem_cons, List.not_mem_nil, or_false] at hx
    rcases hx with rfl | rfl
    · exact ⟨wi _ _ h (fun y hy => by simp at hy; omega), rfl⟩
    · exact ⟨ow _ _ (wi _ _ h (fun y hy => by simp at hy; omega)), rfl⟩
  split at hx
  · rename_i e
    have := k2 (.inr (.inr (.inr e)))
    simp only [List.mem_cons, List.not_mem_nil, or_false] at hx
    rcases hx with rfl | rfl
    · exact ⟨wi _ _ h (fun y hy => by simp at hy; omega), rfl⟩
    · exact ⟨ow _ _ (wi _ _ h (fun y hy => by simp at hy; omega)), rfl⟩
  · cases hx
theorem made_ok {f : List Nd} {w : Way} (h : WOk f w) {j : Nat} {t : List Nat} (hs : skipL w.now w.todo = j :: t) : WOk f (w.made j t) ∧ cntF (w.made j t).now + 1 = cntF w.now ∧ j < f.length := by
  obtain ⟨h1, h2, h3⟩ := skip_head hs
  have hj := h.todo j h2
  exact ⟨⟨by simp [Way.made, h.now], h.next, fun y hy => h.todo y (h3 y hy)⟩, cntF_set (by rw [h.now]; exact hj) h1, hj⟩
/-- Induction over the ways from one on. -/
theorem way_ind {f : List Nd} (hk : KidsOk f) (P : Way → Way → Prop) (leaf : ∀ w, WOk f w → skipL w.now w.todo = [] → P w w)
    (step : ∀ w j t x y, WOk f w → skipL w.now w.todo = j :: t → x ∈ splitW f j (w.made j t) → WOk f x → P x y → P w y) :
    ∀ n w, WOk f w → ∀ y ∈ leaves f n w, P w y := by
  intro n
  induction n with
  | zero => intro w _ y hy; cases hy
  | succ n ih =>
    intro w hw y hy
    unfold leaves at hy
    cases hs : skipL w.now w.todo with
    | nil => rw [hs] at hy; rw [List.mem_singleton] at hy; subst hy; exact leaf _ hw hs
    | cons j t =>
      rw [hs] at hy
      obtain ⟨x, hx, hy⟩ := List.mem_flatMap.1 hy
      obtain ⟨hm, _, hj⟩ := made_ok hw hs
      have hxo := (split_ok hk hj hm x hx).1
      exact step w j t x y hw hs hx hxo (ih x hxo y hy)
end Go.Proofs.Ytedohmcnjlhdnaa
