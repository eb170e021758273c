/- Layer 28's reference, ways: what is asked and kept, in plain Lean and in memory. -/
import Derived.Test.YtedohmcnjlhdnaaCr2
import Derived.Test.YtedohmcnjlhdnaaR25c
namespace Go.Proofs.Ytedohmcnjlhdnaa
open Go.RowKit

theorem le_flat {α β : Type} {g : α → List β} : ∀ {l : List α} {y : α}, y ∈ l → (g y).length ≤ (l.flatMap g).length
  | [], _, h => by cases h
  | z :: l, y, h => by
    rw [List.flatMap_cons, List.length_append]
    rcases List.mem_cons.1 h with rfl | h
    · omega
    · have := le_flat (g := g) h; omega
/-- What a call of ways is asked with. -/
structure RC (f : List Nd) (n : Nat) (x : Way) : Prop where
  ok : WOk f x
  need : x.need < 256
  ban : x.ban < 256
  and0 : x.need &&& x.ban = 0
  cnt : cntF x.now < n
  todo : x.todo.length + 2 * n ≤ 1000000
  all : (leaves f n x).length ≤ 1000000
theorem split_and {f : List Nd} {j : Nat} {w : Way} (h : w.need &&& w.ban = 0) : ∀ y ∈ splitW f j w, y.need &&& y.ban = 0 := by
  have fin : ∀ v : Way, ∀ y ∈ finW v, y.need &&& y.ban = 0 := fun v y hy => by
    unfold finW at hy
    split at hy
    · rw [List.mem_singleton] at hy; subst hy; assumption
    · cases hy
  intro y hy
  unfold splitW at hy
  split at hy
  · rw [List.mem_singleton] at hy; subst hy; exact h
  split at hy
  · exact fin _ y hy
  split at hy
  · exact fin _ y hy
  split at hy
  · rw [List.mem_singleton] at hy; subst hy; exact h
  split at hy
  · simp only [List.mem_cons, List.not_mem_nil, or_false] at hy
    rcases hy with rfl | rfl <;> exact h
  split at hy
  · rw [List.mem_singleton] at hy; subst hy; exact h
  split at hy
  · simp only [List.mem_cons, List.not_mem_nil, or_false] at hy
    rcases hy with rfl | rfl <;> exact h
  split at hy
  · simp only [List.mem_cons, List.not_mem_nil, or_false] at hy
    rcases hy with rfl | rfl <;> exact h
  · cases hy
theorem leaves_step {f : List Nd} {n : Nat} {x : Way} {j : Nat} {t : List Nat} (hs : skipL x.now x.todo = j :: t) : leaves f (n + 1) x = (splitW f j (x.made j t)).flatMap (leaves f n) := by
  rw [leaves, hs]
theorem leaves_end {f : List Nd} {n : Nat} {x : Way} (hs : skipL x.now x.todo = []) : leaves f (n + 1) x = [x] := by
  rw [leaves, hs]
theorem skip_len (now : List Bool) (l : List Nat) : (skipL now l).length ≤ l.length := (List.dropWhile_suffix _).length_le
theorem RC.kid {f : List Nd} (hN : isN f = true) {n : Nat} {x : Way} (h : RC f (n + 1) x) {j : Nat} {t : List Nat} (hs : skipL x.now x.todo = j :: t) : ∀ y ∈ splitW f j (x.made j t), RC f n y := by
  intro y hy
  have hk : KidsOk f := kidsOk_of hN
  obtain ⟨h1, h2, h3⟩ := made_ok h.ok hs
  obtain ⟨h4, h5⟩ := split_ok hk h3 h1 y hy
  obtain ⟨h6, h7, h8⟩ := split_small (ndF hN h3) (w := x.made j t) h.need h.ban y hy
  have hl := skip_len x.now x.todo
  rw [hs] at hl
  have ha := h.all
  rw [leaves_step hs] at ha
  have hm := le_flat (g := leaves f n) hy
  refine ⟨h4, h6, h7, split_and (w := x.made j t) h.and0 y hy, by rw [h5]; have := h.cnt; omega, ?_, by omega⟩
  have := h.todo
  change y.todo.length ≤ t.length + 2 at h8
  simp only [List.length_cons] at hl
  omega
/-- A way of the reference, read. -/
structure RR (w : World) (x : Way) (A1 : Option Addr) (c1 : Nat) (A2 : Option Addr) (c2 : Nat) (A3 : Option Addr) (c3 : Nat) : Prop where
  next : TSl w 3 A1 (onL x.next).length c1 (icells (natI (onL x.next)))
  now : TSl w 3 A2 (onL x.now).length c2 (icells (natI (onL x.now)))
  todo : Sl w w.heap.size 1 A3 x.todo.length c3 (icells (natI x.todo))
theorem Sl.tail1 {w : World} {B : Nat} {A : Option Addr} {n c : Nat} {x : Value} {xs : List Value} (h : Sl w B 1 A (n + 1) c (x :: xs)) : Sl w B 1 (if c = 1 then A else A.map (·.add 1)) n (c - 1) xs := by
  have hd := h.drop (k := 1) (by omega)
  simpa using hd
/-- What ways answers. -/
def WaysPost (w : World) (T : List Cov) (en : Ending) (w' : World) : Prop :=
  ∃ v xs, en = .returned v ∧ w'.ownsRow w.heap.size 47 4 v T.length xs ∧ CovsAt w' xs T ∧ Below w.heap.size w w'
theorem ways_none {w w' : World} (hb : Below w.heap.size w w') : WaysPost w [] (.returned (.slice none 0 0)) w' := ⟨_, [], rfl, World.ownsRow_nil _ _ _ _, CovsAt.nil _, hb⟩
theorem CovsAt.one' {w : World} {xs : List Value} {T : List Cov} (h : CovsAt w xs T) (hl : xs.length = T.length * 4) : ∀ u ∈ xs, u.oneCell' = true := by
  intro u hu
  obtain ⟨i, hi, rfl⟩ := List.mem_iff_getElem.1 hu
  have hk : i / 4 < T.length := by omega
  obtain ⟨A1, c1, A2, c2, e0, e1, e2, e3, _⟩ := h (i / 4) T[i / 4] (List.getElem?_eq_getElem hk)
  have hi4 : i = i / 4 * 4 ∨ i = i / 4 * 4 + 1 ∨ i = i / 4 * 4 + 2 ∨ i = i / 4 * 4 + 3 := by omega
  rcases hi4 with e | e | e | e
  · rw [← e, List.getElem?_eq_getElem hi] at e0; injection e0 with e0; rw [e0]; rfl
  · rw [← e, List.getElem?_eq_getElem hi] at e1; injection e1 with e1; rw [e1]; rfl
  · rw [← e, List.getElem?_eq_getElem hi] at e2; injection e2 with e2; rw [e2]; rfl
  · rw [← e, List.getElem?_eq_getElem hi] at e3; injection e3 with e3; rw [e3]; rfl
theorem CovsAt.append {w : World} {xs ys : List Value} {T U : List Cov} (h : CovsAt w xs T) (hl : xs.length = T.length * 4) (h' : CovsAt w ys U) : CovsAt w (xs ++ ys) (T ++ U) := by
  intro k c hk
  by_cases hlt : k < T.length
  · rw [List.getElem?_append_left hlt] at hk
    obtain ⟨A1, c1, A2, c2, e0, e1, e2, e3, t1, t2⟩ := h k c hk
    refine ⟨A1, c1, A2, c2, ?_, ?_, ?_, ?_, t1, t2⟩ <;> (rw [List.getElem?_append_left (by omega)]; assumption)
  · rw [List.getElem?_append_right (by omega)] at hk
    obtain ⟨A1, c1, A2, c2, e0, e1, e2, e3, t1, t2⟩ := h' _ c hk
    have s : ∀ i, k * 4 + i - xs.length = (k - T.length) * 4 + i := fun i => by omega
    have s0 : k * 4 - xs.length = (k - T.length) * 4 := by omega
    refine ⟨A1, c1, A2, c2, ?_, ?_, ?_, ?_, t1, t2⟩
    · rw [List.getElem?_append_right (by omega), s0]; exact e0
    · rw [List.getElem?_append_right (by omega), s]; exact e1
    · rw [List.getElem?_append_right (by omega), s]; exact e2
    · rw [List.getElem?_append_right (by omega), s]; exact e3
theorem sliceCovR : SliceT Try.prog 42 47 4 64 :=
  SliceT.mk (z := .agg #[.int .u64 0, .int .u64 0, .slice none 0 0, .slice none 0 0]) Try.underlying42 (by kernel_rfl) (by decide) (by decide)
/-- Four cells are put into a box. -/
theorem set4 {w : World} {g T : Nat} {a b c d : Value} {cs : Array Value} (h : w.heap[g]? = some (.cells cs T (0, 0))) (hc : cs.size = 4) :
    ((((w.setCell ⟨g, 0, none⟩ a).setCell ⟨g, 1, none⟩ b).setCell ⟨g, 2, none⟩ c).setCell ⟨g, 3, none⟩ d).heap[g]? = some (.cells #[a, b, c, d] T (0, 0)) := by
  have h1 := heap_setCell_same w g 0 _ _ a h
  have h2 := heap_setCell_same _ g 1 _ _ b h1
  have h3 := heap_setCell_same _ g 2 _ _ c h2
  have h4 := heap_setCell_same _ g 3 _ _ d h3
  rw [h4]
  clear h1 h2 h3 h4 h
  obtain ⟨l⟩ := cs
  match l, hc with
  | [p, q, r, s], _ => simp
/-- The box's last cell is turned, and a copy of the box is made. -/
theorem later_world {w w4 : World} {g T : Nat} {a b c d v : Value} {z : Array Value} (h : w4.heap[g]? = some (.cells #[a, b, c, d] T (0, 0))) (hz : z.size = 4) (hb : Below w.heap.size w w4) (hg : w.heap.size ≤ g) {V : World}
    (hV : V = (((((w4.setCell ⟨g, 3, none⟩ v).alloc (.cells z T)).setCell ⟨w4.heap.size, 0, none⟩ a).setCell ⟨w4.heap.size, 1, none⟩ b).setCell ⟨w4.heap.size, 2, none⟩ c).setCell ⟨w4.heap.size, 3, none⟩ v) :
    Below w.heap.size w V ∧ Tch (fun k => k = g) w4 V ∧ V.heap[g]? = some (.cells #[a, b, c, v] T (0, 0)) ∧ V.heap[w4.heap.size]? = some (.cells #[a, b, c, v] T (0, 0)) ∧ V.heap.size = w4.heap.size + 1 := by
  have hgl := heap_lt h
  have hw := hb.size
  have s1 : (w4.setCell ⟨g, 3, none⟩ v).heap.size = w4.heap.size := by simp
  have hn : ((w4.setCell ⟨g, 3, none⟩ v).alloc (.cells z T)).heap[w4.heap.size]? = some (.cells z T (0, 0)) := by
    have := heap_alloc_new (w4.setCell ⟨g, 3, none⟩ v) (.cells z T)
    rwa [s1] at this
  have h4 := set4 (a := a) (b := b) (c := c) (d := v) hn hz
  have e1 := heap_setCell_same w4 g 3 _ _ v h
  have hT : Tch (fun k => k = g) w4 V := by
    rw [hV]
    have t1 := ((Tch.refl (fun k => k = g) w4).setCell (p := ⟨g, 3, none⟩) (fun _ => rfl) v).alloc (.cells z T)
    exact (((t1.setCell (p := ⟨w4.heap.size, 0, none⟩) (fun h => absurd h (by simp)) a).setCell (p := ⟨w4.heap.size, 1, none⟩) (fun h => absurd h (by simp)) b).setCell (p := ⟨w4.heap.size, 2, none⟩) (fun h => absurd h (by simp)) c).setCell (p := ⟨w4.heap.size, 3, none⟩) (fun h => absurd h (by simp)) v
  refine ⟨hb.trans (hT.below hw (fun k hk e => by omega)), hT, ?_, by rw [hV]; exact h4, ?_⟩
  · rw [hV]
    rw [Below.heap_setCell _ _ _ _ (by show g ≠ w4.heap.size; omega), Below.heap_setCell _ _ _ _ (by show g ≠ w4.heap.size; omega), Below.heap_setCell _ _ _ _ (by show g ≠ w4.heap.size; omega), Below.heap_setCell _ _ _ _ (by show g ≠ w4.heap.size; omega), Below.heap_alloc _ _ _ (by rw [s1]; exact hgl), e1]
    simp
  · rw [hV]; simp
theorem parts_kids {f : List Nd} (hN : isN f = true) {k : Nat} (hk : k < f.length) : partsV (spans f) k f[k] = kids f k ∧ (takesV f[k] = 2 → 1 ≤ k ∧ ∃ v : Int, (spans f)[k - 1]? = some v ∧ 0 ≤ v ∧ v ≤ (f.length : Int)) := by
  have hw := isN_good hN
  have ht : takesV f[k] = takes f[k].op := takesV_eq (takesV_bad.1 (good_at hw hk).2).1
  have hsl := spans_len hw
  refine ⟨by rw [kids_at hw hk]; unfold partsV; rw [ht], fun h => ?_⟩
  rw [ht] at h
  have hF := ndF hN hk
  have ho : opAt f k = f[k].op := by simp [opAt, List.getD, hk]
  have h2 : opAt f k = 5 ∨ opAt f k = 6 ∨ opAt f k = 9 ∨ opAt f k = 10 := by
    have := hF.op
    rw [ho] at this ⊢
    rcases this with e | e | e | e | e | e | e | e | e <;> rw [e] at h ⊢ <;> simp [takes] at h ⊢
  obtain ⟨e, hl, hr⟩ := hF.kid2 h2
  rw [kids_at hw hk, if_neg (by omega), if_pos h] at e
  injection e with e1 e2
  have hk1 : k - 1 < (spans f).length := by omega
  rw [List.getElem?_eq_getElem hk1] at e1 ⊢
  refine ⟨by omega, _, rfl, ?_, ?_⟩
  · simp only [Option.getD_some] at e1; omega
  · simp only [Option.getD_some] at e1; omega
end Go.Proofs.Ytedohmcnjlhdnaa
