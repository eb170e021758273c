/- The ways to make parts of a formula true: what the laws of layer 28 ask; plain. -/
import Derived.Test.YtedohmcnjlhdnaaCovP
import Derived.Test.YtedohmcnjlhdnaaCovT
namespace Go.Proofs.Ytedohmcnjlhdnaa

theorem skip_mem {now : List Bool} {l : List Nat} {j : Nat} {t : List Nat} (h : skipL now l = j :: t) : ∀ x ∈ l, now.getD x false = true ∨ x = j ∨ x ∈ t := by
  induction l with
  | nil => intro x hx; cases hx
  | cons y r ih =>
    unfold skipL at h ih
    rw [List.dropWhile_cons] at h
    split at h
    · rename_i e
      intro x hx
      rcases List.mem_cons.1 hx with rfl | hx
      · exact .inl e
      · exact ih h x hx
    · injection h with h1 h2
      intro x hx
      subst h1; subst h2
      rcases List.mem_cons.1 hx with rfl | hx
      · exact .inr (.inl rfl)
      · exact .inr (.inr hx)
theorem skip_app {now : List Bool} {l e : List Nat} {j : Nat} {t : List Nat} (h : skipL now l = j :: t) : skipL now (l ++ e) = j :: (t ++ e) := by
  induction l with
  | nil => cases h
  | cons y r ih =>
    unfold skipL at h ih ⊢
    rw [List.dropWhile_cons] at h
    rw [List.cons_append, List.dropWhile_cons]
    split at h
    · rename_i hy
      rw [if_pos hy]; exact ih h
    · rename_i hy
      rw [if_neg hy]; injection h with h1 h2; subst h1; subst h2; rfl
/-- What a part's making true keeps. -/
theorem split_keeps {f : List Nd} {j : Nat} {w : Way} : ∀ v ∈ splitW f j w, v.now = w.now ∧ (∀ y ∈ w.todo, y ∈ v.todo) ∧ (∀ p, w.need.testBit p = true → v.need.testBit p = true) ∧ (∀ p, w.ban.testBit p = true → v.ban.testBit p = true) ∧
    (∀ p, w.next.getD p false = true → v.next.getD p false = true) ∧ (w.need &&& w.ban = 0 → v.need &&& v.ban = 0) := by
  have hset : ∀ (l : List Bool) (i p : Nat), l.getD p false = true → (l.set i true).getD p false = true := by
    intro l i p h
    rw [List.getD_eq_getElem?_getD, List.getElem?_set]
    by_cases e : i = p
    · subst e
      have : i < l.length := by
        rw [List.getD_eq_getElem?_getD] at h
        by_cases hl : i < l.length
        · exact hl
        · rw [List.getElem?_eq_none (by omega)] at h; cases h
      simp [this]
    · rw [if_neg e, ← List.getD_eq_getElem?_getD]; exact h
  intro v hv
  have fin : ∀ u : Way, v ∈ finW u → v = u ∧ u.need &&& u.ban = 0 := by
    intro u hu
    unfold finW at hu
    split at hu
    · rename_i e; rw [List.mem_singleton] at hu; exact ⟨hu, e⟩
    · cases hu
  unfold splitW at hv
  split at hv
  · rw [List.mem_singleton] at hv; subst hv; exact ⟨rfl, fun _ h => h, fun _ h => h, fun _ h => h, fun _ h => h, id⟩
  split at hv
  · obtain ⟨rfl, e⟩ := fin _ hv
    exact ⟨rfl, fun _ h => h, fun p h => by simp [Nat.testBit_or, h], fun _ h => h, fun _ h => h, fun _ => e⟩
  split at hv
  · obtain ⟨rfl, e⟩ := fin _ hv
    exact ⟨rfl, fun _ h => h, fun _ h => h, fun p h => by simp [Nat.testBit_or, h], fun _ h => h, fun _ => e⟩
  all_goals (try (split at hv))
  all_goals (try (split at hv))
  all_goals (try (split at hv))
  all_goals (try (split at hv))
  all_goals (try (split at hv))
  all_goals simp only [List.mem_cons, List.not_mem_nil, or_false] at hv
  all_goals (try (rcases hv with rfl | rfl))
  all_goals (try (subst hv))
  all_goals first
    | exact ⟨rfl, fun _ h => by simp [Way.with_, h], fun _ h => h, fun _ h => h, fun _ h => h, id⟩
    | exact ⟨rfl, fun _ h => by simp [Way.owing, Way.with_, h], fun _ h => h, fun _ h => h, fun p h => hset _ _ p h, id⟩
    | exact hv.elim
/-- Parts that are asked for twice. -/
def addT (e : List Nat) (w : Way) : Way := { w with todo := w.todo ++ e }
theorem fin_addT (e : List Nat) (u : Way) : finW (addT e u) = (finW u).map (addT e) := by
  unfold finW
  show (if u.need &&& u.ban = 0 then _ else _) = _
  split <;> rfl
theorem split_addT {f : List Nd} {j : Nat} (e : List Nat) (w : Way) : splitW f j (addT e w) = (splitW f j w).map (addT e) := by
  have t1 := fun w' => fin_addT e w'
  unfold splitW
  simp only [addT] at t1 ⊢
  repeat' split
  all_goals first
    | rfl
    | exact t1 { w with need := w.need ||| 2 ^ nAt f j }
    | exact t1 { w with ban := w.ban ||| 2 ^ nAt f (j - 1) }
    | simp [Way.with_, Way.owing]
theorem leaves_extra {f : List Nd} (hk : KidsOk f) : ∀ (n : Nat) (w : Way) (e : List Nat), WOk f w → (∀ x ∈ e, w.now.getD x false = true ∨ x ∈ w.todo) → (leaves f n (addT e w)).map Way.cov = (leaves f n w).map Way.cov := by
  intro n
  induction n with
  | zero => intros; rfl
  | succ n ih =>
    intro w e hw he
    unfold leaves
    cases hs : skipL w.now w.todo with
    | nil =>
      have h2 : skipL (addT e w).now (addT e w).todo = [] := skip_nil_of (fun x hx => by
        rcases List.mem_append.1 hx with hx | hx
        · exact skip_nil hs x hx
        · rcases he x hx with h | h
          · exact h
          · exact skip_nil hs x h)
      rw [h2]; rfl
    | cons j t =>
      have h2 : skipL (addT e w).now (addT e w).todo = j :: (t ++ e) := skip_app hs
      rw [h2]
      obtain ⟨hmo, _, hj⟩ := made_ok hw hs
      have hm : (addT e w).made j (t ++ e) = addT e (w.made j t) := rfl
      simp only [hm, split_addT, List.map_flatMap, List.flatMap_map]
      have hall : ∀ v ∈ splitW f j (w.made j t), (leaves f n (addT e v)).map Way.cov = (leaves f n v).map Way.cov := fun v hv => by
        refine ih v e (split_ok hk hj hmo v hv).1 (fun x hx => ?_)
        obtain ⟨k1, k2, _⟩ := split_keeps v hv
        rw [k1]
        have hnow : ∀ y, w.now.getD y false = true → (w.made j t).now.getD y false = true := by
          intro y hy
          simp only [Way.made]
          rw [List.getD_eq_getElem?_getD, List.getElem?_set]
          by_cases e' : j = y
          · subst e'
            have := (skip_head hs).1
            rw [this] at hy; cases hy
          · rw [if_neg e', ← List.getD_eq_getElem?_getD]; exact hy
        rcases he x hx with h | h
        · exact .inl (hnow x h)
        · rcases skip_mem hs x h with h | rfl | h
          · exact .inl (hnow x h)
          · left
            have hl : x < w.now.length := by rw [hw.now]; exact hj
            simp [Way.made, List.getD, hl]
          · exact .inr (k2 x h)
      clear he hs h2 hm hmo
      generalize splitW f j (w.made j t) = L at *
      induction L with
      | nil => rfl
      | cons v r ihr => simp only [List.flatMap_cons]; rw [hall v (by simp), ihr (fun u hu => hall u (by simp [hu]))]

/-- Each cover once. -/
theorem addC_mem (out : List Cov) (c d : Cov) : d ∈ addC out c ↔ d ∈ out ∨ d = c := by
  unfold addC
  split
  · rename_i h
    exact ⟨fun h' => .inl h', fun h' => h'.elim id (fun e => e ▸ h)⟩
  · simp
theorem onceC_mem : ∀ (l out : List Cov) (d : Cov), d ∈ onceC l out ↔ d ∈ out ∨ d ∈ l
  | [], out, d => by simp [onceC]
  | c :: l, out, d => by
    show d ∈ onceC l (addC out c) ↔ _
    rw [onceC_mem l, addC_mem, List.mem_cons, or_assoc]
theorem onceC_nodup : ∀ (l out : List Cov), out.Nodup → (onceC l out).Nodup
  | [], _, h => h
  | c :: l, out, h => by
    refine onceC_nodup l _ ?_
    unfold addC
    split
    · exact h
    · rename_i hc
      rw [List.nodup_append]
      exact ⟨h, by simp, fun a ha b hb => by simp at hb; subst hb; exact fun e => hc (e ▸ ha)⟩
theorem addC_len (out : List Cov) (c : Cov) : (addC out c).length ≤ out.length + 1 := by unfold addC; split <;> simp
theorem onceC_len : ∀ (l out : List Cov), (onceC l out).length ≤ out.length + l.length
  | [], out => by simp [onceC]
  | c :: l, out => by
    have := onceC_len l (addC out c)
    have h2 := addC_len out c
    show (onceC l (addC out c)).length ≤ _
    simp only [List.length_cons]; omega
theorem onceC_app (l m out : List Cov) : onceC (l ++ m) out = onceC m (onceC l out) := by simp [onceC, List.foldl_append]

/-- All that a way has, or is to make, true is true at its end; and nothing comes to be needed and banned. -/
theorem leaf_keeps {f : List Nd} (hk : KidsOk f) (n : Nat) (w : Way) (hw : WOk f w) : ∀ y ∈ leaves f n w, WOk f y ∧ (∀ x, w.now.getD x false = true ∨ x ∈ w.todo → y.now.getD x false = true) ∧ (w.need &&& w.ban = 0 → y.need &&& y.ban = 0) := by
  refine way_ind hk (fun w y => WOk f y ∧ (∀ x, w.now.getD x false = true ∨ x ∈ w.todo → y.now.getD x false = true) ∧ (w.need &&& w.ban = 0 → y.need &&& y.ban = 0))
    (fun w hw hs => ⟨hw, fun x hx => hx.elim id (skip_nil hs x), id⟩) (fun w j t x y hw hs hx _ h => ?_) n w hw
  obtain ⟨_, _, hj⟩ := made_ok hw hs
  obtain ⟨k1, k2, _, _, _, k6⟩ := split_keeps x hx
  have hl : j < w.now.length := by rw [hw.now]; exact hj
  refine ⟨h.1, fun z hz => h.2.1 z ?_, fun e => h.2.2 (k6 e)⟩
  rw [k1]
  have hnow : ∀ y, w.now.getD y false = true → (w.made j t).now.getD y false = true := by
    intro y hy
    simp only [Way.made]
    rw [List.getD_eq_getElem?_getD, List.getElem?_set]
    by_cases e' : j = y
    · subst e'; simp [hl]
    · rw [if_neg e', ← List.getD_eq_getElem?_getD]; exact hy
  rcases hz with hz | hz
  · exact .inl (hnow z hz)
  · rcases skip_mem hs z hz with h | rfl | h
    · exact .inl (hnow z h)
    · left; simp [Way.made, List.getD, hl]
    · exact .inr (k2 z h)
theorem startW_ok {f : List Nd} {parts : List Nat} (h : ∀ x ∈ parts, x < f.length) : WOk f (startW f.length parts) := ⟨by simp [startW], by simp [startW], h⟩
theorem startW_cnt (n : Nat) (parts : List Nat) : cntF (startW n parts).now < n + 1 := by
  have := List.countP_le_length (p := fun b : Bool => !b) (l := List.replicate n false)
  simp only [startW, cntF]
  rw [List.length_replicate] at this
  omega
/-- Parts that are named twice change nothing. -/
theorem coversL_twice {f : List Nd} (hk : KidsOk f) {parts : List Nat} (h : ∀ x ∈ parts, x < f.length) : coversL f (parts ++ parts) = coversL f parts := by
  have := leaves_extra hk (f.length + 1) (startW f.length parts) parts (startW_ok h) (fun x hx => .inr hx)
  unfold coversL
  rw [← this]; rfl
/-- Of a cover: nothing is both needed and banned, all parts are in Now, its lists are as long as the formula. -/
theorem coversL_rises {f : List Nd} (hk : KidsOk f) {parts : List Nat} (h : ∀ x ∈ parts, x < f.length) : (coversL f parts).Nodup ∧ ∀ c ∈ coversL f parts, c.1 &&& c.2.1 = 0 ∧ (∀ x ∈ parts, c.2.2.2.getD x false = true) ∧ c.2.2.1.length = f.length ∧ c.2.2.2.length = f.length := by
  refine ⟨onceC_nodup _ _ List.nodup_nil, fun c hc => ?_⟩
  rcases (onceC_mem _ _ _).1 hc with hc | hc
  · cases hc
  · obtain ⟨y, hy, rfl⟩ := List.mem_map.1 hc
    obtain ⟨a, b, d⟩ := leaf_keeps hk _ _ (startW_ok h) y hy
    exact ⟨d (by simp [startW]), fun x hx => b x (.inr hx), a.next, a.now⟩
end Go.Proofs.Ytedohmcnjlhdnaa
