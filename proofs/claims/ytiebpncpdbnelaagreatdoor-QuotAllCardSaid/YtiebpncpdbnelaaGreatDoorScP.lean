/- Strongly connected parts, by a stack of nodes and the way that led to the last one: what is known at each step. Plain. -/
import Derived.Test.YtiebpncpdbnelaaGreatDoorInf
namespace Go.Proofs.YtiebpncpdbnelaaGreatDoor
structure Sc where
 num : List Nat
 low : List Nat
 nxt : List Nat
 stk : List Nat
 way : List Nat
 inn : List Bool
 prt : List Nat
 cnt : Nat
def Mut (E : List (List Nd)) (x y : Nat) : Prop := Lead (Arc E) x y ∧ Lead (Arc E) y x
def PartIs (E : List (List Nd)) (x m : Nat) : Prop := Mut E x m ∧ ∀ y, Mut E x y → m ≤ y
theorem Mut.refl (E : List (List Nd)) (x : Nat) : Mut E x x := ⟨.refl x, .refl x⟩
theorem Mut.symm {E : List (List Nd)} {x y : Nat} (h : Mut E x y) : Mut E y x := ⟨h.2, h.1⟩
theorem Mut.trans {E : List (List Nd)} {x y z : Nat} (h : Mut E x y) (k : Mut E y z) : Mut E x z := ⟨h.1.trans k.1, k.2.trans h.2⟩
theorem PartIs.uniq {E : List (List Nd)} {x m m' : Nat} (h : PartIs E x m) (k : PartIs E x m') : m = m' := Nat.le_antisymm (h.2 _ k.1) (k.2 _ h.1)
theorem setD {α : Type} {l : List α} {i j : Nat} {v d : α} (hi : i < l.length) : (l.set i v).getD j d = if i = j then v else l.getD j d := by
 by_cases e : i = j
 ·subst e; simp [List.getD, hi]
 ·simp [List.getD, List.getElem?_set_ne e, e]
structure SI (E : List (List Nd)) (s : Sc) : Prop where
 ln : s.num.length = E.length
 ll : s.low.length = E.length
 lx : s.nxt.length = E.length
 li : s.inn.length = E.length
 lp : s.prt.length = E.length
 cn : s.cnt = s.num.countP (fun x => decide (0 < x))
 cnt : ∀ x, s.num.getD x 0 ≤ s.cnt
 stk : ∀ x ∈ s.stk, x < E.length ∧ 0 < s.num.getD x 0
 inn : ∀ x, s.inn.getD x false = true ↔ x ∈ s.stk
 srt : s.stk.Pairwise (fun a b => s.num.getD a 0 < s.num.getD b 0)
 wsrt : s.way.Pairwise (fun a b => s.num.getD a 0 < s.num.getD b 0)
 sub : ∀ w ∈ s.way, w ∈ s.stk
 low : ∀ x ∈ s.stk, s.low.getD x 0 ≤ s.num.getD x 0 ∧ ∃ y ∈ s.stk, s.num.getD y 0 = s.low.getD x 0 ∧ Lead (Arc E) x y
 done : ∀ x ∈ s.stk, x ∉ s.way → s.nxt.getD x 0 = (E.getD x []).length
 seg : ∀ y ∈ s.stk, y ∉ s.way → ∃ w ∈ s.way, s.num.getD w 0 < s.num.getD y 0 ∧ s.low.getD w 0 ≤ s.low.getD y 0 ∧ Lead (Arc E) y w ∧ ∀ w' ∈ s.way, s.num.getD w' 0 < s.num.getD y 0 → s.num.getD w' 0 ≤ s.num.getD w 0
 reach : ∀ w ∈ s.way, ∀ y ∈ s.stk, s.num.getD w 0 ≤ s.num.getD y 0 → Lead (Arc E) w y
 edge : ∀ x ∈ s.stk, ∀ j, j < s.nxt.getD x 0 → ∀ y : Nat, (tgts (E.getD x []))[j]? = some (y : Int) → 0 < s.num.getD y 0 ∧ (y ∈ s.stk → s.low.getD x 0 ≤ s.num.getD y 0)
 clo : ∀ x, 0 < s.num.getD x 0 → x ∉ s.stk → ∀ y, Arc E x y → 0 < s.num.getD y 0 ∧ y ∉ s.stk
 prt : ∀ x, 0 < s.num.getD x 0 → x ∉ s.stk → PartIs E x (s.prt.getD x 0)
 new : ∀ x, s.num.getD x 0 = 0 → s.nxt.getD x 0 = 0
 le : ∀ x, s.nxt.getD x 0 ≤ (E.getD x []).length
section
variable {E : List (List Nd)} {s : Sc}
theorem srt_inj {num : List Nat} : ∀ {l : List Nat}, l.Pairwise (fun a b => num.getD a 0 < num.getD b 0) → ∀ {x y}, x ∈ l → y ∈ l → num.getD x 0 = num.getD y 0 → x = y
 | [], _, x, y, h, _, _ => by cases h
 | a :: l, hp, x, y, hx, hy, he => by
  rw [List.pairwise_cons] at hp
  rcases List.mem_cons.1 hx with rfl | hx'
  ·rcases List.mem_cons.1 hy with rfl | hy'
   ·rfl
   ·have := hp.1 y hy'; omega
  ·rcases List.mem_cons.1 hy with rfl | hy'
   ·have := hp.1 x hx'; omega
   ·exact srt_inj hp.2 hx' hy' he
theorem incr_len {f : Nat → Nat} {hi : Nat} : ∀ {l : List Nat} {lo : Nat}, l.Pairwise (fun a b => f a < f b) → (∀ x ∈ l, lo < f x ∧ f x ≤ hi) → l.length ≤ hi - lo
 | [], _, _, _ => by simp
 | a :: l, lo, hp, h => by
  rw [List.pairwise_cons] at hp
  have h1 := h a (List.mem_cons_self ..)
  have h2 := incr_len (lo := f a) hp.2 (fun x hx => ⟨hp.1 x hx, (h x (List.mem_cons_of_mem _ hx)).2⟩)
  simp only [List.length_cons]
  omega
theorem SI.stk_len (h : SI E s) : s.stk.length ≤ s.cnt := by
 have := incr_len (lo := 0) h.srt (fun x hx => ⟨(h.stk x hx).2, h.cnt x⟩)
 omega
theorem SI.way_len (h : SI E s) : s.way.length ≤ s.cnt := by
 have := incr_len (lo := 0) h.wsrt (fun x hx => ⟨(h.stk x (h.sub x hx)).2, h.cnt x⟩)
 omega
theorem SI.cnt_le (h : SI E s) : s.cnt ≤ E.length := by
 rw [h.cn, ← h.ln]; exact List.countP_le_length
theorem countP_set0 {l : List Nat} {k v : Nat} (hk : k < l.length) (h : l.getD k 0 = 0) (hv : 0 < v) : (l.set k v).countP (fun x => decide (0 < x)) = l.countP (fun x => decide (0 < x)) + 1 := by
 induction l generalizing k with
 | nil => simp at hk
 | cons x l ih =>
  cases k with
  | zero =>
   simp [List.getD] at h
   subst h
   simp [hv]
  | succ k =>
   simp [List.getD] at h hk
   have := ih (k := k) hk (by simpa [List.getD] using h)
   simp only [List.set_cons_succ, List.countP_cons, this]
   omega
def Sc.come (s : Sc) (n : Nat) : Sc := { s with num := s.num.set n (s.cnt + 1), low := s.low.set n (s.cnt + 1), stk := s.stk ++ [n], way := s.way ++ [n], inn := s.inn.set n true, cnt := s.cnt + 1 }
def Sc.adv (s : Sc) (x : Nat) : Sc := { s with nxt := s.nxt.set x (s.nxt.getD x 0 + 1) }
def Sc.lower (s : Sc) (x v : Nat) : Sc := { s with low := s.low.set x (min (s.low.getD x 0) v) }
theorem SI.way_nil (h : SI E s) (hw : s.way = []) : s.stk = [] := by
 cases hs : s.stk with
 | nil => rfl
 | cons y l =>
  obtain ⟨w, h1, _⟩ := h.seg y (by rw [hs]; exact List.mem_cons_self ..) (by rw [hw]; exact List.not_mem_nil)
  rw [hw] at h1; cases h1
theorem SI.come (h : SI E s) {n : Nat} (hn : n < E.length) (h0 : s.num.getD n 0 = 0) (hw : ∀ w ∈ s.way, Lead (Arc E) w n) : SI E (s.come n) := by
 have hnl : n < s.num.length := by rw [h.ln]; exact hn
 have hll : n < s.low.length := by rw [h.ll]; exact hn
 have hil : n < s.inn.length := by rw [h.li]; exact hn
 have hN : ∀ x, (s.come n).num.getD x 0 = if n = x then s.cnt + 1 else s.num.getD x 0 := fun x => setD hnl
 have hL : ∀ x, (s.come n).low.getD x 0 = if n = x then s.cnt + 1 else s.low.getD x 0 := fun x => setD hll
 have hns : n ∉ s.stk := fun hm => by have := (h.stk n hm).2; omega
 have hnw : n ∉ s.way := fun hm => hns (h.sub n hm)
 have hne : ∀ {x}, x ∈ s.stk → n ≠ x := fun hx e => hns (e ▸ hx)
 have hNs : ∀ {x}, x ∈ s.stk → (s.come n).num.getD x 0 = s.num.getD x 0 := fun hx => by rw [hN, if_neg (hne hx)]
 have hLs : ∀ {x}, x ∈ s.stk → (s.come n).low.getD x 0 = s.low.getD x 0 := fun hx => by rw [hL, if_neg (hne hx)]
 have hNn : (s.come n).num.getD n 0 = s.cnt + 1 := by rw [hN, if_pos rfl]
 have hLn : (s.come n).low.getD n 0 = s.cnt + 1 := by rw [hL, if_pos rfl]
 have hms : ∀ {x}, x ∈ (s.come n).stk ↔ x ∈ s.stk ∨ x = n := by intro x; simp [Sc.come]
 have hmw : ∀ {x}, x ∈ (s.come n).way ↔ x ∈ s.way ∨ x = n := by intro x; simp [Sc.come]
 have hpw : ∀ {l : List Nat}, (∀ x ∈ l, x ∈ s.stk) → l.Pairwise (fun a b => s.num.getD a 0 < s.num.getD b 0) → (l ++ [n]).Pairwise (fun a b => (s.come n).num.getD a 0 < (s.come n).num.getD b 0) := by
  intro l hl hp
  rw [List.pairwise_append]
  refine ⟨hp.imp_of_mem (fun ha hb hlt => by rw [hNs (hl _ ha), hNs (hl _ hb)]; exact hlt), List.pairwise_singleton _ _, fun a ha b hb => ?_⟩
  rw [mS] at hb
  subst hb
  rw [hNn, hNs (hl _ ha)]
  have := h.cnt a
  omega
 refine ⟨by simp [Sc.come, h.ln], by simp [Sc.come, h.ll], h.lx, by simp [Sc.come, h.li], h.lp, ?_, fun x => ?_, fun x hx => ?_, fun x => ?_, hpw (fun _ h => h) h.srt, hpw h.sub h.wsrt, fun w hw' => ?_, fun x hx => ?_, fun x hx hxw => ?_, fun y hy hyw => ?_, fun w hw' y hy hle => ?_, fun x hx j hj y hy => ?_, fun x hx hxs y hxy => ?_, fun x hx hxs => ?_, fun x hx => ?_, h.le⟩
 ·show s.cnt + 1 = (s.num.set n (s.cnt + 1)).countP _
  rw [countP_set0 hnl h0 (by omega), ← h.cn]
 ·rw [hN]
  show _ ≤ s.cnt + 1
  have := h.cnt x
  split <;> omega
 ·rcases hms.1 hx with hx | rfl
  ·rw [hNs hx]; exact h.stk x hx
  ·rw [hNn]; exact ⟨hn, by omega⟩
 ·rw [hms]
  show (s.inn.set n true).getD x false = true ↔ _
  rw [setD hil]
  by_cases e : n = x
  ·rw [if_pos e]; simp [e]
  ·rw [if_neg e, h.inn]
   exact ⟨.inl, fun h => h.resolve_right (fun h => e h.symm)⟩
 ·rcases hmw.1 hw' with hx | rfl
  ·exact hms.2 (.inl (h.sub w hx))
  ·exact hms.2 (.inr rfl)
 ·rcases hms.1 hx with hx | rfl
  ·rw [hNs hx, hLs hx]
   obtain ⟨a, y, b, c, d⟩ := h.low x hx
   exact ⟨a, y, hms.2 (.inl b), by rw [hNs b]; exact c, d⟩
  ·rw [hNn, hLn]
   exact ⟨lR, x, hms.2 (.inr rfl), hNn, .refl x⟩
 ·rcases hms.1 hx with hx | rfl
  ·exact h.done x hx (fun hw' => hxw (hmw.2 (.inl hw')))
  ·exact absurd (hmw.2 (.inr rfl)) hxw
 ·rcases hms.1 hy with hy | rfl
  ·obtain ⟨w, a, b, c, d, e⟩ := h.seg y hy (fun hw' => hyw (hmw.2 (.inl hw')))
   have ws := h.sub w a
   refine ⟨w, hmw.2 (.inl a), by rw [hNs ws, hNs hy]; exact b, by rw [hLs ws, hLs hy]; exact c, d, fun w' hw' hlt => ?_⟩
   rw [hNs ws]
   rw [hNs hy] at hlt
   rcases hmw.1 hw' with hw' | rfl
   ·rw [hNs (h.sub w' hw')] at hlt ⊢
    exact e w' hw' hlt
   ·rw [hNn] at hlt
    have := h.cnt y
    omega
  ·exact absurd (hmw.2 (.inr rfl)) hyw
 ·rcases hms.1 hy with hy2 | e2
  ·rcases hmw.1 hw' with hw2 | e3
   ·rw [hNs hy2, hNs (h.sub w hw2)] at hle
    exact h.reach w hw2 y hy2 hle
   ·rw [e3, hNn, hNs hy2] at hle
    have := h.cnt y
    omega
  ·rw [e2]
   rcases hmw.1 hw' with hw2 | e3
   ·exact hw w hw2
   ·rw [e3]; exact .refl _
 ·have hj' : j < s.nxt.getD x 0 := hj
  rcases hms.1 hx with hx | rfl
  ·obtain ⟨a, b⟩ := h.edge x hx j hj' y hy
   have hyn : n ≠ y := fun e => by subst e; omega
   rw [hN, if_neg hyn, hLs hx]
   exact ⟨a, fun hm => b ((hms.1 hm).resolve_right (fun e => hyn e.symm))⟩
  ·have := h.new x h0
   omega
 ·have hxn : n ≠ x := fun e => hxs (hms.2 (.inr e.symm))
  rw [hN, if_neg hxn] at hx
  obtain ⟨a, b⟩ := h.clo x hx (fun hm => hxs (hms.2 (.inl hm))) y hxy
  have hyn : n ≠ y := fun e => by subst e; omega
  rw [hN, if_neg hyn]
  exact ⟨a, fun hm => b ((hms.1 hm).resolve_right (fun e => hyn e.symm))⟩
 ·have hxn : n ≠ x := fun e => hxs (hms.2 (.inr e.symm))
  rw [hN, if_neg hxn] at hx
  exact h.prt x hx (fun hm => hxs (hms.2 (.inl hm)))
 ·rw [hN] at hx
  split at hx
  ·omega
  ·exact h.new x hx
theorem SI.adv (h : SI E s) {x y : Nat} (hx : x ∈ s.way) (ht : (tgts (E.getD x []))[s.nxt.getD x 0]? = some (y : Int)) (h1 : 0 < s.num.getD y 0) (h2 : y ∈ s.stk → s.low.getD x 0 ≤ s.num.getD y 0) : SI E (s.adv x) := by
 have hxs := h.sub x hx
 have hxl : x < s.nxt.length := by rw [h.lx]; exact (h.stk x hxs).1
 have hX : ∀ k, (s.adv x).nxt.getD k 0 = if x = k then s.nxt.getD x 0 + 1 else s.nxt.getD k 0 := fun k => setD hxl
 refine ⟨h.ln, h.ll, by simp [Sc.adv, h.lx], h.li, h.lp, h.cn, h.cnt, h.stk, h.inn, h.srt, h.wsrt, h.sub, h.low, fun k hk hkw => ?_, h.seg, h.reach, fun k hk j hj z hz => ?_, h.clo, h.prt, fun k hk => ?_, fun k => ?_⟩
 ·have e : x ≠ k := fun e => hkw (e ▸ hx)
  rw [hX, if_neg e]
  exact h.done k hk hkw
 ·rw [hX] at hj
  split at hj
  ·next e =>
   subst e
   by_cases e2 : j = s.nxt.getD x 0
   ·subst e2
    rw [ht] at hz
    have : y = z := by injection hz with hz; omega
    subst this
    exact ⟨h1, h2⟩
   ·exact h.edge x hk j (by omega) z hz
  ·exact h.edge k hk j hj z hz
 ·rw [hX]
  split
  ·next e =>
   subst e
   have := (h.stk x hxs).2
   have hk' : s.num.getD x 0 = 0 := hk
   omega
  ·exact h.new k hk
 ·rw [hX]
  split
  ·next e =>
   subst e
   have := (gB.1 ht).1
   simp only [tgts, List.length_map] at this
   omega
  ·exact h.le k
theorem SI.lower (h : SI E s) {pre : List Nat} {x y : Nat} (hx : s.way = pre ++ [x]) (hy : y ∈ s.stk) (hl : Lead (Arc E) x y) : SI E (s.lower x (s.num.getD y 0)) := by
 have hxw : x ∈ s.way := by rw [hx]; simp
 have hxs := h.sub x hxw
 have hxl : x < s.low.length := by rw [h.ll]; exact (h.stk x hxs).1
 have hX : ∀ k, (s.lower x (s.num.getD y 0)).low.getD k 0 = if x = k then min (s.low.getD x 0) (s.num.getD y 0) else s.low.getD k 0 := fun k => setD hxl
 have hle : ∀ k, (s.lower x (s.num.getD y 0)).low.getD k 0 ≤ s.low.getD k 0 := fun k => by
  rw [hX]; split
  ·next e => subst e; exact Nat.min_le_left _ _
  ·exact lR
 refine ⟨h.ln, by simp [Sc.lower, h.ll], h.lx, h.li, h.lp, h.cn, h.cnt, h.stk, h.inn, h.srt, h.wsrt, h.sub, fun k hk => ?_, h.done, fun k hk hkw => ?_, h.reach, fun k hk j hj z hz => ?_, h.clo, h.prt, h.new, h.le⟩
 ·obtain ⟨a, y', b, c, d⟩ := h.low k hk
  refine ⟨Nat.le_trans (hle k) a, ?_⟩
  rw [hX]
  split
  ·next e =>
   subst e
   by_cases e2 : s.low.getD x 0 ≤ s.num.getD y 0
   ·exact ⟨y', b, by rw [Nat.min_eq_left e2]; exact c, d⟩
   ·exact ⟨y, hy, by rw [Nat.min_eq_right (by omega)]; rfl, hl⟩
  ·exact ⟨y', b, c, d⟩
 ·obtain ⟨w, a, b, c, d, e⟩ := h.seg k hk hkw
  refine ⟨w, a, b, ?_, d, e⟩
  have hkx : x ≠ k := fun e => hkw (e ▸ hxw)
  have := hle w
  rw [hX k, if_neg hkx]
  exact Nat.le_trans this c
 ·obtain ⟨a, b⟩ := h.edge k hk j hj z hz
  exact ⟨a, fun hm => Nat.le_trans (hle k) (b hm)⟩
theorem SI.top (h : SI E s) {pre : List Nat} {x : Nat} (hx : s.way = pre ++ [x]) : (∀ w ∈ pre, s.num.getD w 0 < s.num.getD x 0) ∧ ∀ w ∈ s.way, s.num.getD w 0 ≤ s.num.getD x 0 := by
 have hp := h.wsrt
 rw [hx, List.pairwise_append] at hp
 have h1 : ∀ w ∈ pre, s.num.getD w 0 < s.num.getD x 0 := fun w hw => hp.2.2 w hw x (mS.2 rfl)
 refine ⟨h1, fun w hw => ?_⟩
 rw [hx] at hw
 rcases List.mem_append.1 hw with hw | hw
 ·exact Nat.le_of_lt (h1 w hw)
 ·rw [mS] at hw
  subst hw; exact lR
theorem arc_tgt (hE : ∀ r ∈ E, ∀ e ∈ r, isNd E.length e.op = true) {x j y : Nat} (hx : x < E.length) (ht : (tgts (E.getD x []))[j]? = some (y : Int)) : Arc E x y := by
 have hm := List.mem_of_getElem? ht
 refine ⟨hx, ?_, hm⟩
 simp only [tgts, List.mem_map] at hm
 obtain ⟨e, he, h1⟩ := hm
 have := hE (E.getD x []) (by simp only [List.getD, gE hx, Option.getD_some]; exact mM hx) e he
 have h2 := isNd_iff.1 this
 omega
theorem SI.tree (h : SI E s) {pre : List Nat} {x y : Nat} (hE : ∀ r ∈ E, ∀ e ∈ r, isNd E.length e.op = true) (hx : s.way = pre ++ [x]) (ht : (tgts (E.getD x []))[s.nxt.getD x 0]? = some (y : Int)) (h0 : s.num.getD y 0 = 0) : SI E ((s.adv x).come y) := by
 have hxw : x ∈ s.way := by rw [hx]; simp
 have hxs := h.sub x hxw
 have ha := arc_tgt hE (h.stk x hxs).1 ht
 have h1 : SI E (s.come y) := h.come ha.2.1 h0 (fun w hw => (h.reach w hw x hxs ((h.top hx).2 w hw)).snoc ha)
 have hyl : y < s.num.length := by rw [h.ln]; exact ha.2.1
 have hll : y < s.low.length := by rw [h.ll]; exact ha.2.1
 have hyx : y ≠ x := fun e => by have := (h.stk x hxs).2; subst e; omega
 have e1 : (s.come y).num.getD y 0 = s.cnt + 1 := by
  show (s.num.set y (s.cnt + 1)).getD y 0 = _
  rw [setD hyl, if_pos rfl]
 have e2 : (s.come y).low.getD x 0 = s.low.getD x 0 := by
  show (s.low.set y (s.cnt + 1)).getD x 0 = _
  rw [setD hll, if_neg hyx]
 exact h1.adv (x := x) (y := y) (by show x ∈ s.way ++ [y]; exact List.mem_append_left _ hxw) ht (by rw [e1]; omega) (fun _ => by
  rw [e1, e2]
  have := (h.low x hxs).1
  have := h.cnt x
  omega)
theorem SI.back (h : SI E s) {pre : List Nat} {x y : Nat} (hE : ∀ r ∈ E, ∀ e ∈ r, isNd E.length e.op = true) (hx : s.way = pre ++ [x]) (ht : (tgts (E.getD x []))[s.nxt.getD x 0]? = some (y : Int)) (hy : y ∈ s.stk) : SI E ((s.adv x).lower x (s.num.getD y 0)) := by
 have hxw : x ∈ s.way := by rw [hx]; simp
 have hxs := h.sub x hxw
 have ha := arc_tgt hE (h.stk x hxs).1 ht
 have h1 := h.lower hx hy (.step ha (.refl _))
 have hxl : x < s.low.length := by rw [h.ll]; exact (h.stk x hxs).1
 exact h1.adv (x := x) (y := y) hxw ht (h.stk y hy).2 (fun _ => by
  show (s.low.set x (min (s.low.getD x 0) (s.num.getD y 0))).getD x 0 ≤ s.num.getD y 0
  rw [setD hxl, if_pos rfl]; exact Nat.min_le_right _ _)
theorem SI.skip (h : SI E s) {x y : Nat} (hx : x ∈ s.way) (ht : (tgts (E.getD x []))[s.nxt.getD x 0]? = some (y : Int)) (h1 : 0 < s.num.getD y 0) (hy : y ∉ s.stk) : SI E (s.adv x) := h.adv hx ht h1 (fun hm => absurd hm hy)
theorem SI.stay (h : SI E s) {pre : List Nat} {x : Nat} (hx : s.way = pre ++ [x]) (hd : s.nxt.getD x 0 = (E.getD x []).length) (hlow : s.low.getD x 0 ≠ s.num.getD x 0) :
  ∃ pr p, pre = pr ++ [p] ∧ SI E ({ s with way := pre }.lower p (s.low.getD x 0)) := by
 have hxw : x ∈ s.way := by rw [hx]; simp
 have hxs := h.sub x hxw
 obtain ⟨htop, htop2⟩ := h.top hx
 obtain ⟨hl, y, hy, hny, hxy⟩ := h.low x hxs
 have hmw : ∀ {w}, w ∈ s.way ↔ w ∈ pre ∨ w = x := by intro w; rw [hx]; simp
 obtain ⟨w0, hw0, hyw0, hw0n⟩ : ∃ w ∈ pre, Lead (Arc E) y w ∧ s.num.getD w 0 < s.num.getD x 0 := by
  by_cases hyw : y ∈ s.way
  ·rcases hmw.1 hyw with hyw | rfl
   ·exact ⟨y, hyw, .refl y, htop y hyw⟩
   ·omega
  ·obtain ⟨w, a, b, _, d, _⟩ := h.seg y hy hyw
   rcases hmw.1 a with a | rfl
   ·exact ⟨w, a, d, htop w a⟩
   ·omega
 obtain ⟨pr, p, hp⟩ : ∃ pr p, pre = pr ++ [p] := by
  rcases List.eq_nil_or_concat pre with e | ⟨pr, p, e⟩
  ·subst e; cases hw0
  ·exact ⟨pr, p, by simpa using e⟩
 have hpp : p ∈ pre := by rw [hp]; simp
 have hpw : p ∈ s.way := hmw.2 (.inl hpp)
 have hps := h.sub p hpw
 have hpx := htop p hpp
 have hwp : ∀ w ∈ pre, s.num.getD w 0 ≤ s.num.getD p 0 := by
  have hq := h.wsrt
  rw [hx, hp, List.pairwise_append, List.pairwise_append] at hq
  intro w hw
  rw [hp] at hw
  rcases List.mem_append.1 hw with hw | hw
  ·exact Nat.le_of_lt (hq.1.2.2 w hw p (mS.2 rfl))
  ·rw [mS] at hw; subst hw; exact lR
 have hxp : Lead (Arc E) x p := (hxy.trans hyw0).trans (h.reach w0 (hmw.2 (.inl hw0)) p hps (hwp w0 hw0))
 have hpl : p < s.low.length := by rw [h.ll]; exact (h.stk p hps).1
 have hX : ∀ k, ({ s with way := pre }.lower p (s.low.getD x 0)).low.getD k 0 = if p = k then min (s.low.getD p 0) (s.low.getD x 0) else s.low.getD k 0 := fun k => setD hpl
 have hle : ∀ k, ({ s with way := pre }.lower p (s.low.getD x 0)).low.getD k 0 ≤ s.low.getD k 0 := fun k => by
  rw [hX]; split
  ·next e => subst e; exact Nat.min_le_left _ _
  ·exact lR
 have hlp : ({ s with way := pre }.lower p (s.low.getD x 0)).low.getD p 0 ≤ s.low.getD x 0 := by rw [hX, if_pos rfl]; exact Nat.min_le_right _ _
 have hpnx : p ≠ x := fun e => by subst e; omega
 refine ⟨pr, p, hp, h.ln, by simp [Sc.lower, h.ll], h.lx, h.li, h.lp, h.cn, h.cnt, h.stk, h.inn, h.srt, ?_, fun w hw => h.sub w (hmw.2 (.inl hw)), fun k hk => ?_, fun k hk hkw => ?_, fun k hk hkw => ?_, fun w hw => h.reach w (hmw.2 (.inl hw)), fun k hk j hj z hz => ?_, h.clo, h.prt, h.new, h.le⟩
 ·have hq := h.wsrt
  rw [hx, List.pairwise_append] at hq
  exact hq.1
 ·obtain ⟨a, y', b, c, d⟩ := h.low k hk
  refine ⟨Nat.le_trans (hle k) a, ?_⟩
  rw [hX]
  split
  ·next e =>
   subst e
   by_cases e2 : s.low.getD p 0 ≤ s.low.getD x 0
   ·exact ⟨y', b, by rw [Nat.min_eq_left e2]; exact c, d⟩
   ·exact ⟨y, hy, by rw [Nat.min_eq_right (by omega)]; exact hny, (h.reach p hpw x hxs (by omega)).trans hxy⟩
  ·exact ⟨y', b, c, d⟩
 ·by_cases e : k = x
  ·subst e; exact hd
  ·exact h.done k hk (fun hw => (hmw.1 hw).elim hkw e)
 ·by_cases e : k = x
  ·subst e
   refine ⟨p, hpp, hpx, ?_, hxp, fun w' hw' _ => hwp w' hw'⟩
   rw [hX k, if_neg hpnx]
   exact hlp
  ·obtain ⟨w, a, b, c, d, f⟩ := h.seg k hk (fun hw => (hmw.1 hw).elim hkw e)
   have hpk : p ≠ k := fun e => hkw (e ▸ hpp)
   rcases hmw.1 a with a | rfl
   ·refine ⟨w, a, b, ?_, d, fun w' hw' => f w' (hmw.2 (.inl hw'))⟩
    rw [hX k, if_neg hpk]
    exact Nat.le_trans (hle w) c
   ·refine ⟨p, hpp, Nat.lt_trans hpx b, ?_, d.trans hxp, fun w' hw' _ => hwp w' hw'⟩
    rw [hX k, if_neg hpk]
    exact Nat.le_trans hlp c
 ·obtain ⟨a, b⟩ := h.edge k hk j hj z hz
  exact ⟨a, fun hm => Nat.le_trans (hle k) (b hm)⟩
def putAll {α : Type} (l : List Nat) (v : α) (r : List α) : List α := l.foldl (fun r x => r.set x v) r
theorem putAll_len {α : Type} {v : α} : ∀ {l : List Nat} {r : List α}, (putAll l v r).length = r.length
 | [], _ => rfl
 | x :: l, r => by
  show (putAll l v (r.set x v)).length = _
  rw [putAll_len]; simp
theorem putAll_at {α : Type} {v d : α} : ∀ {l : List Nat} {r : List α}, (∀ x ∈ l, x < r.length) → ∀ k, (putAll l v r).getD k d = if k ∈ l then v else r.getD k d
 | [], r, _, k => by simp [putAll]
 | x :: l, r, h, k => by
  show (putAll l v (r.set x v)).getD k d = _
  rw [putAll_at (fun y hy => by simpa using h y (List.mem_cons_of_mem _ hy)), setD (h x (List.mem_cons_self ..))]
  by_cases e : k ∈ l
  ·rw [if_pos e, if_pos (List.mem_cons_of_mem _ e)]
  ·rw [if_neg e]
   by_cases e2 : x = k
   ·rw [if_pos e2, if_pos (by rw [e2]; exact List.mem_cons_self ..)]
   ·rw [if_neg e2, if_neg (fun h => (List.mem_cons.1 h).elim (fun h => e2 h.symm) e)]
theorem putAll_snoc {α : Type} {v : α} {l : List Nat} {x : Nat} {r : List α} : putAll (l ++ [x]) v r = (putAll l v r).set x v := by simp [putAll, List.foldl_append]
def Sc.cut (s : Sc) (a b : List Nat) (m : Nat) : Sc := { s with stk := a, prt := putAll b m s.prt, inn := putAll b false s.inn }
theorem SI.part (h : SI E s) {pre a b : List Nat} {x m : Nat} (hx : s.way = pre ++ [x]) (hd : s.nxt.getD x 0 = (E.getD x []).length) (hlow : s.low.getD x 0 = s.num.getD x 0) (hs : s.stk = a ++ x :: b) (hm : m ∈ x :: b) (hmin : ∀ y ∈ x :: b, m ≤ y) :
  SI E ({ s with way := pre }.cut a (x :: b) m) ∧ ∀ p ∈ pre, s.low.getD p 0 ≤ s.low.getD x 0 := by
 have hxw : x ∈ s.way := by rw [hx]; simp
 have hxs := h.sub x hxw
 obtain ⟨htop, htop2⟩ := h.top hx
 have hmw : ∀ {w}, w ∈ s.way ↔ w ∈ pre ∨ w = x := by intro w; rw [hx]; simp
 have hms : ∀ {y}, y ∈ s.stk ↔ y ∈ a ∨ y ∈ x :: b := by intro y; rw [hs]; simp
 have hsr := h.srt
 rw [hs, List.pairwise_append, List.pairwise_cons] at hsr
 obtain ⟨hsa, ⟨hsx, hsb⟩, hsab⟩ := hsr
 have ha : ∀ y ∈ a, s.num.getD y 0 < s.num.getD x 0 := fun y hy => hsab y hy x (List.mem_cons_self ..)
 have hS : ∀ y ∈ x :: b, s.num.getD x 0 ≤ s.num.getD y 0 := fun y hy => by
  rcases List.mem_cons.1 hy with rfl | hy
  ·exact lR
  ·exact Nat.le_of_lt (hsx y hy)
 have hSa : ∀ y ∈ x :: b, y ∉ a := fun y hy hya => by have := hS y hy; have := ha y hya; omega
 have hSs : ∀ y ∈ x :: b, y ∈ s.stk := fun y hy => hms.2 (.inr hy)
 have hbk : ∀ y ∈ x :: b, Lead (Arc E) y x ∧ s.low.getD x 0 ≤ s.low.getD y 0 ∧ s.nxt.getD y 0 = (E.getD y []).length := by
  intro y hy
  rcases List.mem_cons.1 hy with rfl | hyb
  ·exact ⟨.refl _, lR, hd⟩
  ·have hyn := hsx y hyb
   have hyw : y ∉ s.way := fun hw => by have := htop2 y hw; omega
   obtain ⟨w, c1, c2, c3, c4, c5⟩ := h.seg y (hSs y hy) hyw
   have c6 := c5 x hxw hyn
   have c7 := htop2 w c1
   have : w = x := srt_inj h.srt (h.sub w c1) hxs (by omega)
   subst this
   exact ⟨c4, c3, h.done y (hSs y hy) hyw⟩
 have hmut : ∀ y ∈ x :: b, Mut E x y := fun y hy => ⟨h.reach x hxw y (hSs y hy) (hS y hy), (hbk y hy).1⟩
 have hout : ∀ y ∈ x :: b, ∀ z, Arc E y z → z ∈ x :: b ∨ (0 < s.num.getD z 0 ∧ z ∉ s.stk) := by
  intro y hy z hyz
  obtain ⟨j, hj⟩ := List.getElem?_of_mem hyz.2.2
  have hjl := (gB.1 hj).1
  simp only [tgts, List.length_map] at hjl
  obtain ⟨_, h2, h3⟩ := hbk y hy
  obtain ⟨e1, e2⟩ := h.edge y (hSs y hy) j (by omega) z hj
  by_cases hz : z ∈ s.stk
  ·rcases hms.1 hz with hz' | hz'
   ·have := ha z hz'
    have := e2 hz
    omega
   ·exact .inl hz'
  ·exact .inr ⟨e1, hz⟩
 have hclo : ∀ {y z}, Lead (Arc E) y z → 0 < s.num.getD y 0 → y ∉ s.stk → 0 < s.num.getD z 0 ∧ z ∉ s.stk := by
  intro y z hl
  induction hl with
  | refl a => exact fun h1 h2 => ⟨h1, h2⟩
  | step r _ ih =>
   intro h1 h2
   obtain ⟨c1, c2⟩ := h.clo _ h1 h2 _ r
   exact ih c1 c2
 have hgo : ∀ {y z}, Lead (Arc E) y z → y ∈ x :: b → z ∈ x :: b ∨ (0 < s.num.getD z 0 ∧ z ∉ s.stk) := by
  intro y z hl
  induction hl with
  | refl a => exact fun h1 => .inl h1
  | step r hl ih =>
   intro h1
   rcases hout _ h1 _ r with h2 | ⟨h2, h3⟩
   ·exact ih h2
   ·exact .inr (hclo hl h2 h3)
 have hpart : ∀ y ∈ x :: b, PartIs E y m := by
  intro y hy
  refine ⟨(hmut y hy).symm.trans (hmut m hm), fun z hz => ?_⟩
  rcases hgo hz.1 hy with h1 | ⟨h1, h2⟩
  ·exact hmin z h1
  ·exact absurd (hSs y hy) (hclo hz.2 h1 h2).2
 have hin : ∀ k ∈ x :: b, k < s.inn.length := fun k hk => by rw [h.li]; exact (h.stk k (hSs k hk)).1
 have hpr : ∀ k ∈ x :: b, k < s.prt.length := fun k hk => by rw [h.lp]; exact (h.stk k (hSs k hk)).1
 have hpa : ∀ w ∈ pre, w ∈ a := fun w hw => by
  have h1 := htop w hw
  rcases hms.1 (h.sub w (hmw.2 (.inl hw))) with h2 | h2
  ·exact h2
  ·have := hS w h2; omega
 have has : ∀ y ∈ a, y ∈ s.stk := fun y hy => hms.2 (.inl hy)
 refine ⟨⟨h.ln, h.ll, h.lx, by show (putAll _ _ _).length = _; rw [putAll_len, h.li], by show (putAll _ _ _).length = _; rw [putAll_len, h.lp], h.cn, h.cnt, fun y hy => h.stk y (has y hy), fun k => ?_, hsa, ?_, hpa, fun y hy => ?_, fun y hy hyw => ?_, fun y hy hyw => ?_, fun w hw y hy => h.reach w (hmw.2 (.inl hw)) y (has y hy), fun y hy j hj z hz => ?_, fun y hy hya z hyz => ?_, fun y hy hya => ?_, h.new, h.le⟩, fun p hp => ?_⟩
 ·show (putAll (x :: b) false s.inn).getD k false = true ↔ k ∈ a
  rw [putAll_at hin]
  split
  ·next e => exact ⟨fun h' => by simp at h', fun h' => absurd h' (hSa k e)⟩
  ·next e => rw [h.inn, hms]; exact ⟨fun h' => h'.resolve_right e, .inl⟩
 ·have hq := h.wsrt
  rw [hx, List.pairwise_append] at hq
  exact hq.1
 ·obtain ⟨c1, y', c2, c3, c4⟩ := h.low y (has y hy)
  refine ⟨c1, y', ?_, c3, c4⟩
  rcases hms.1 c2 with c2 | c2
  ·exact c2
  ·have := hS y' c2
   have := ha y hy
   omega
 ·refine h.done y (has y hy) (fun hw => ?_)
  rcases hmw.1 hw with hw | rfl
  ·exact hyw hw
  ·have := ha y hy; omega
 ·obtain ⟨w, c1, c2, c3, c4, c5⟩ := h.seg y (has y hy) (fun hw => by
   rcases hmw.1 hw with hw | rfl
   ·exact hyw hw
   ·have := ha y hy; omega)
  have := ha y hy
  rcases hmw.1 c1 with c1 | rfl
  ·exact ⟨w, c1, c2, c3, c4, fun w' hw' => c5 w' (hmw.2 (.inl hw'))⟩
  ·omega
 ·obtain ⟨c1, c2⟩ := h.edge y (has y hy) j hj z hz
  exact ⟨c1, fun hm => c2 (has z hm)⟩
 ·by_cases hys : y ∈ s.stk
  ·have hyS := (hms.1 hys).resolve_left hya
   rcases hout y hyS z hyz with h1 | ⟨h1, h2⟩
   ·exact ⟨(h.stk z (hSs z h1)).2, hSa z h1⟩
   ·exact ⟨h1, fun h3 => h2 (has z h3)⟩
  ·obtain ⟨c1, c2⟩ := h.clo y hy hys z hyz
   exact ⟨c1, fun h3 => c2 (has z h3)⟩
 ·show PartIs E y ((putAll (x :: b) m s.prt).getD y 0)
  rw [putAll_at hpr]
  split
  ·next e => exact hpart y e
  ·next e => exact h.prt y hy (fun hys => ((hms.1 hys).resolve_left hya |> e))
 ·have h1 := (h.low p (h.sub p (hmw.2 (.inl hp)))).1
  have := htop p hp
  omega
def Sc.start (n : Nat) : Sc := ⟨List.replicate n 0, List.replicate n 0, List.replicate n 0, [], [], List.replicate n false, List.replicate n 0, 0⟩
theorem rep_getD {α : Type} (n k : Nat) (d : α) : (List.replicate n d).getD k d = d := by
 simp only [List.getD, List.getElem?_replicate]
 split <;> rfl
theorem SI.start (E : List (List Nd)) : SI E (Sc.start E.length) := by
 have hz : ∀ k, (List.replicate E.length 0).getD k 0 = 0 := fun k => rep_getD _ _ _
 refine ⟨by simp [Sc.start], by simp [Sc.start], by simp [Sc.start], by simp [Sc.start], by simp [Sc.start], ?_, fun x => ?_, fun x hx => (by cases hx), fun x => ?_, List.Pairwise.nil, List.Pairwise.nil, fun w hw => (by cases hw), fun x hx => (by cases hx), fun x hx => (by cases hx), fun x hx => (by cases hx), fun w hw => (by cases hw), fun x hx => (by cases hx), fun x hx => ?_, fun x hx => ?_, fun x _ => hz x, fun x => ?_⟩
 ·show 0 = (List.replicate E.length 0).countP _
  rw [List.countP_replicate]; simp
 ·show (List.replicate E.length 0).getD x 0 ≤ 0
  rw [hz]; exact lR
 ·show (List.replicate E.length false).getD x false = true ↔ x ∈ []
  rw [rep_getD]; simp
 ·have hx' : 0 < (List.replicate E.length 0).getD x 0 := hx
  rw [hz] at hx'; omega
 ·have hx' : 0 < (List.replicate E.length 0).getD x 0 := hx
  rw [hz] at hx'; omega
 ·show (List.replicate E.length 0).getD x 0 ≤ _
  rw [hz]; omega
theorem SI.all (h : SI E s) (hw : s.way = []) (hv : ∀ x, x < E.length → 0 < s.num.getD x 0) : ∀ x, x < E.length → PartIs E x (s.prt.getD x 0) := fun x hx =>
 h.prt x (hv x hx) (by rw [h.way_nil hw]; exact List.not_mem_nil)
def edgesLeft (E : List (List Nd)) (nxt : List Nat) : Nat := ((List.range E.length).map (fun x => (E.getD x []).length - nxt.getD x 0)).sum
theorem edgesLeft_adv {nxt : List Nat} (hl : nxt.length = E.length) {x : Nat} (hx : x < E.length) (hn : nxt.getD x 0 < (E.getD x []).length) : edgesLeft E (nxt.set x (nxt.getD x 0 + 1)) + 1 = edgesLeft E nxt := by
 have key : ∀ n, n ≤ E.length → ((List.range n).map (fun k => (E.getD k []).length - (nxt.set x (nxt.getD x 0 + 1)).getD k 0)).sum + (if x < n then 1 else 0) = ((List.range n).map (fun k => (E.getD k []).length - nxt.getD k 0)).sum := by
  intro n
  induction n with
  | zero => intro _; simp
  | succ n ih =>
   intro hn'
   have := ih (by omega)
   rw [List.range_succ, List.map_append, List.map_append, List.sum_append, List.sum_append]
   simp only [List.map_cons, List.map_nil, List.sum_cons, List.sum_nil, Nat.add_zero]
   rw [setD (by omega)]
   by_cases e : x = n
   ·subst e
    rw [if_pos rfl, if_pos (by omega)]
    rw [if_neg (by omega)] at this
    omega
   ·rw [if_neg e]
    by_cases e2 : x < n
    ·rw [if_pos e2] at this
     rw [if_pos (by omega)]
     omega
    ·rw [if_neg e2] at this
     rw [if_neg (by omega)]
     omega
 have := key E.length lR
 rw [if_pos hx] at this
 exact this
end
end Go.Proofs.YtiebpncpdbnelaaGreatDoor
