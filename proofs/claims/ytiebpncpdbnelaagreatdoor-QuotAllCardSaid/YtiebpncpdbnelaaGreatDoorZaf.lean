/- Texts that stand one behind the other, in one file. -/
import Derived.ProofKit
import Derived.Deep.Slices
import Derived.Deep.Fields
import Derived.SizedLaws
import Derived.Lib.SmallJoins
import Derived.Test.YtiebpncpdbnelaaGreatDoorZac
import Derived.Deep.RegionHeld3
set_option maxHeartbeats 1000000
namespace Go.Proofs.YtiebpncpdbnelaaGreatDoor
def keepE (z : List Bool) (a : Nat) (e : Nd) : Bool := z.getD a false && hasB z e.op
def withinR (E : List (List Nd)) (z : List Bool) (a : Nat) : List (List Nd) := (List.range E.length).map fun i => if i < a then (E.getD i []).filter (keepE z i) else []
theorem withinR_len (E : List (List Nd)) (z : List Bool) (a : Nat) : (withinR E z a).length = E.length := by simp [withinR]
theorem withinR_zero (E : List (List Nd)) (z : List Bool) : withinR E z 0 = List.replicate E.length [] := by
 refine List.ext_getElem (by simp [withinR]) (fun i h1 h2 => by simp [withinR])
theorem withinR_succ {E : List (List Nd)} {z : List Bool} {a : Nat} (ha : a < E.length) : withinR E z (a + 1) = (withinR E z a).set a (E[a].filter (keepE z a)) := by
 refine List.ext_getElem (by simp [withinR]) (fun i h1 h2 => ?_)
 rw [List.getElem_set]
 simp only [withinR, List.getElem_map, List.getElem_range]
 by_cases e : a = i
 ·subst e; simp [List.getD, ha]
 ·rw [if_neg e]
  by_cases e2 : i < a
  ·rw [if_pos e2, if_pos (by omega)]
  ·rw [if_neg e2, if_neg (by omega)]
theorem withinR_at {E : List (List Nd)} {z : List Bool} {a : Nat} (_ha : a < E.length) : withinR E z a = (withinR E z a).set a [] := by
 refine List.ext_getElem (by simp) (fun i h1 h2 => ?_)
 rw [List.getElem_set]
 split
 ·rename_i e; subst e; simp [withinR]
 ·rfl
theorem withinR_full (E : List (List Nd)) (z : List Bool) : withinR E z E.length = withinE E z := by
 refine List.ext_getElem (by simp [withinR, withinE]) (fun i h1 h2 => ?_)
 have hi : i < E.length := by simpa [withinR] using h1
 simp only [withinR, withinE, List.getElem_map, List.getElem_range, if_pos hi]
 cases hz : z.getD i false
 ·rw [if_neg (by decide)]
  rw [List.filter_eq_nil_iff]
  intro e _
  rw [keepE, hz, Bool.false_and]; decide
 ·rw [if_pos rfl]
  refine List.filter_congr (fun e _ => ?_)
  rw [keepE, hz, Bool.true_and]
theorem filter_snoc {l : List Nd} {m : Nat} (p : Nd → Bool) (hm : m < l.length) : (l.take (m + 1)).filter p = (l.take m).filter p ++ if p l[m] = true then [l[m]] else [] := by
 rw [take_snoc l m hm, List.filter_append]
 congr 1
 rw [List.filter_cons, List.filter_nil]
end Go.Proofs.YtiebpncpdbnelaaGreatDoor
namespace Go.Proofs.YtiebpncpdbnelaaGreatDoor
open Go.ChangeShapes Go.WideShapes Go.RowKit Go.Deep
section
variable {H : Type} {enc : TypeId × Value → H} {P : Program} {w : World} {base : Nat} {spare : Nat → Bool} {held : Bool}
theorem rd_of_cells {a : Addr} {xs : List Value} (h : ∀ j u, xs[j]? = some u → w.cell? (a.add j) = some u) : Rd w w.1.size (some a) xs := by
 rcases xs with _ | ⟨x, r⟩
 ·exact .inl rfl
 ·have h0 := h 0 x rfl
  have hs := World.cell?_spot h0
  have hb := World.block_lt_of_cell? w _ h0
  obtain ⟨b, off, spot⟩ := a
  have hspot : spot = none := by simpa [Addr.add] using hs
  subst hspot
  refine .inr ⟨b, off, rfl, by simpa [Addr.add] using hb, fun j u hj => ?_⟩
  have hadd : (⟨b, off, none⟩ : Addr).add j = ⟨b, off + j, none⟩ := by
   unfold Addr.add
   split
   ·rename_i h; subst h; rfl
   ·rfl
  rw [← hadd]
  exact h j u hj
end
end Go.Proofs.YtiebpncpdbnelaaGreatDoor
namespace Go.Proofs.YtiebpncpdbnelaaGreatDoor
open Go.ChangeShapes Go.WideShapes Go.RowKit Go.Deep
def Small {H : Type} (P : Program) (t : TypeId) (d : DataW H) : Prop := ∀ n ∈ d.weights P t, n ≤ reachBytes
section
variable {H : Type} {enc : TypeId × Value → H} {P : Program} {w : World} {base : Nat} {spare : Nat → Bool} {held : Bool}
theorem small_arg {ts : List TypeId} {ds : List (DataW H)} (h : (DataW.weightsEach P ts ds).all (· ≤ reachBytes) = true) {j : Nat} {t : TypeId} {d : DataW H} (ht : ts[j]? = some t) (hd : ds[j]? = some d) : Small P t d :=
 fun n hn => of_decide_eq_true (List.all_eq_true.1 h n (DataW.weights_mem_each ht hd n hn))
theorem small_agg {t : TypeId} {fs : Array Field} {parts : List (DataW H)} (hs : P.underlying t = some (.struct fs)) (h : Small P t (.agg parts)) {i : Nat} {f : Field} {d : DataW H} (hf : fs[i]? = some f) (hd : parts[i]? = some d) : Small P f.type d :=
 fun n hn => h n (by
  simp only [DataW.weights, hs]
  exact DataW.weights_mem_each (j := i) (t := f.type) (by rw [List.getElem?_map, Array.getElem?_toList, hf]; rfl) hd n hn)
theorem weightsAll_mem {e : TypeId} {d : DataW H} : ∀ {E : List (DataW H)}, d ∈ E → ∀ n ∈ d.weights P e, n ∈ DataW.weightsAll P e E
 | x :: E, hd, n, hn => by
  simp only [DataW.weightsAll, List.mem_append]
  rcases List.mem_cons.1 hd with rfl | h
  ·exact .inl hn
  ·exact .inr (weightsAll_mem h n hn)
theorem small_slice {t e : TypeId} {E S : List (DataW H)} (ht : P.underlying t = some (.slice e)) (h : Small P t (.slice E S)) : E.length * P.bytesOf e ≤ reachBytes ∧ ∀ d ∈ E, Small P e d := by
 constructor
 ·have := h ((E.length + S.length) * P.bytesOf e) (by simp [DataW.weights, ht])
  exact Nat.le_trans (Nat.mul_le_mul_right _ (Nat.le_add_right _ _)) this
 ·intro d hd n hn
  refine h n ?_
  simp only [DataW.weights, ht, List.mem_cons, List.mem_append]
  exact .inr (.inl (weightsAll_mem hd n hn))
theorem choose_map {β : Type} (f : β → Value) (G : β → Prop) : ∀ {xs : List Value}, (∀ v ∈ xs, ∃ b, v = f b ∧ G b) → ∃ l : List β, xs = l.map f ∧ ∀ b ∈ l, G b
 | [], _ => ⟨[], rfl, by simp⟩
 | v :: r, h => by
  obtain ⟨b, hb, hg⟩ := h v (by simp)
  obtain ⟨l, hl, hgl⟩ := choose_map f G (xs := r) (fun v hv => h v (by simp [hv]))
  exact ⟨b :: l, by rw [hb, hl]; rfl, by simpa using ⟨hg, hgl⟩⟩
theorem open_row1 {t e : TypeId} {fuel : Nat} {cs : List Value} {x : DataW H × List MemPlace} (ht : P.underlying t = some (.slice e)) (hc : P.cellsOf e = 1) (h : DataW.trod enc P w base spare held fuel t cs = some x) (hs : Small P t x.1) :
  ∃ (A : Option Addr) (c : Nat) (xs : List Value), cs = [.slice A xs.length c] ∧ Sl w w.1.size 1 A xs.length c xs ∧ xs.length * P.bytesOf e ≤ reachBytes ∧
   ∀ v ∈ xs, ∃ n d p, DataW.trod enc P w base spare held n e [v] = some (d, p) ∧ Small P e d := by
 rcases open_slice1 ht hc h with ⟨hcs, _⟩ | ⟨a, len, cap, m, n, V, D, Pl, hcs, hb, hl, hm, hmm, hx, hi⟩
 ·exact ⟨none, 0, [], hcs, Sl.none_ _ _ _, by simp, by simp⟩
 ·have hlm : len ≤ m := by rw [hmm]; split <;> omega
  rw [hx] at hs
  obtain ⟨hs1, hs2⟩ := small_slice ht hs
  refine ⟨some a, cap, (List.range len).map V, by simp [hcs], ⟨by simp, by simpa using hl, hm, (fun h => by cases h), rd_of_cells fun j u hj => ?_⟩, by simpa using hs1, fun v hv => ?_⟩
  ·simp only [List.getElem?_map] at hj
   by_cases hlt : j < len
   ·rw [List.getElem?_range hlt] at hj
    simp at hj
    rw [← hj]; exact (hi j (by omega)).1
   ·rw [List.getElem?_eq_none (by simp; omega)] at hj; cases hj
  ·obtain ⟨i, hi', rfl⟩ := List.mem_map.1 hv
   have hil := List.mem_range.1 hi'
   exact ⟨n, D i, Pl i, (hi i (by omega)).2, hs2 _ (List.mem_map.2 ⟨i, hi', rfl⟩)⟩
theorem open_nums {t e : TypeId} {k : IntKind} {fuel : Nat} {cs : List Value} {x : DataW H × List MemPlace} (ht : P.underlying t = some (.slice e)) (hc : P.cellsOf e = 1) (he : P.underlying e = some (.int k)) (h : DataW.trod enc P w base spare held fuel t cs = some x) (hs : Small P t x.1) :
  ∃ (A : Option Addr) (c : Nat) (l : List Int), cs = [.slice A l.length c] ∧ Sl w w.1.size 1 A l.length c (l.map (.int k)) ∧ l.length * P.bytesOf e ≤ reachBytes ∧ ∀ n ∈ l, (Lit.int k n).wf = true := by
 obtain ⟨A, c, xs, h1, h2, h3, h4⟩ := open_row1 ht hc h hs
 obtain ⟨l, rfl, hl⟩ := choose_map (Value.int k) (fun n => (Lit.int k n).wf = true) (xs := xs) (fun v hv => by
  obtain ⟨n, d, p, hd, _⟩ := h4 v hv
  obtain ⟨q, hq, _, wq⟩ := DataW.trod_int he hd
  simp at hq
  exact ⟨q, hq, wq⟩)
 simp only [List.length_map] at h1 h2 h3
 exact ⟨A, c, l, h1, h2, h3, hl⟩
end
end Go.Proofs.YtiebpncpdbnelaaGreatDoor
namespace Go.Proofs.YtiebpncpdbnelaaGreatDoor
open Go.RowKit
def Sl2 (w : World) (B size : Nat) (A : Option Addr) (n c : Nat) (L : List (List Value)) : Prop :=
 ∃ vs : List Value, Sl w B 1 A n c vs ∧ vs.length = L.length ∧ ∀ (j : Nat) ys, L[j]? = some ys → ∃ A' n' c', vs[j]? = some (.slice A' n' c') ∧ Sl w B size A' n' c' ys
section
variable {w w' w1 : World} {B B' size n c : Nat} {A : Option Addr} {L : List (List Value)}
theorem Sl2.below (h : Sl2 w B size A n c L) (hb : Below B' w w') (hB : B ≤ B') : Sl2 w' B size A n c L := by
 obtain ⟨vs, h1, h2, h3⟩ := h
 refine ⟨vs, h1.below hb hB, h2, fun j ys hj => ?_⟩
 obtain ⟨A', n', c', a, b⟩ := h3 j ys hj
 exact ⟨A', n', c', a, b.below hb hB⟩
theorem Sl2.up (h : Sl2 w B size A n c L) (hB : B ≤ B') : Sl2 w B' size A n c L := by
 obtain ⟨vs, h1, h2, h3⟩ := h
 refine ⟨vs, h1.up hB, h2, fun j ys hj => ?_⟩
 obtain ⟨A', n', c', a, b⟩ := h3 j ys hj
 exact ⟨A', n', c', a, b.up hB⟩
theorem Sl2.len (h : Sl2 w B size A n c L) : n = L.length := by
 obtain ⟨vs, h1, h2, _⟩ := h
 have := h1.len
 omega
theorem Sl2.cap (h : Sl2 w B size A n c L) : n ≤ c := h.choose_spec.1.cap
theorem Sl2.max (h : Sl2 w B size A n c L) : c ≤ maxLen := h.choose_spec.1.max
theorem Sl2.at_ (h : Sl2 w B size A n c L) {j : Nat} {ys : List Value} (hj : L[j]? = some ys) : ∃ b o A' n' c', A = some ⟨b, o, none⟩ ∧ b < B ∧ w.cell? ⟨b, o + j, none⟩ = some (.slice A' n' c') ∧ Sl w B size A' n' c' ys := by
 obtain ⟨vs, h1, h2, h3⟩ := h
 obtain ⟨A', n', c', a, b⟩ := h3 j ys hj
 obtain ⟨bb, o, hA, hb, hc⟩ := h1.rd.at_ a
 exact ⟨bb, o, A', n', c', hA, hb, hc, b⟩
end
structure Own2 (w : World) (base te tr size : Nat) (v : Value) (L : List (List Value)) (vs : List Value) : Prop where
 main : w.ownsRow base tr 1 v L.length vs
 len : vs.length = L.length
 row : ∀ (j : Nat) ys, L[j]? = some ys → ∃ u n, vs[j]? = some u ∧ w.ownsRow base te size u n ys
 dis : ∀ (i j : Nat) u u' g, i ≠ j → vs[i]? = some u → vs[j]? = some u' → u.ownBlock = some g → u'.ownBlock ≠ some g
section
variable {w w' w1 w2 : World} {base te tr size g m cap : Nat} {v : Value} {L : List (List Value)} {vs : List Value} {S : Nat → Prop}
theorem Own2.tch (h : Own2 w base te tr size v L vs) (ht : Tch S w w') (hm : ∀ g, v.ownBlock = some g → ¬ S g) (hr : ∀ (j : Nat) u g, vs[j]? = some u → u.ownBlock = some g → ¬ S g) : Own2 w' base te tr size v L vs :=
 ⟨own_tch h.main ht hm, h.len, fun j ys hj => by
  obtain ⟨u, n, hu, ho⟩ := h.row j ys hj
  exact ⟨u, n, hu, own_tch ho ht (fun g hg => hr j u g hu hg)⟩, h.dis⟩
theorem Own2.rowlt (h : Own2 w base te tr size v L vs) {j : Nat} {u : Value} (hu : vs[j]? = some u) : ∀ g, u.ownBlock = some g → base ≤ g ∧ g < w.1.size := by
 have hj : j < L.length := by rw [← h.len]; exact (gB.1 hu).1
 obtain ⟨u', n, hu', ho⟩ := h.row j L[j] (by simp [hj])
 rw [hu] at hu'
 cases hu'
 exact ho.lt
theorem Own2.below (h : Own2 w base te tr size v L vs) (hb : Below w.1.size w w') : Own2 w' base te tr size v L vs :=
 h.tch (Tch.of_below hb) (fun g hg => by have := (h.main.lt g hg).2; omega) (fun j u g hu hg => by have := (h.rowlt hu g hg).2; omega)
theorem Own2.rebase (h : Own2 w base te tr size v L vs) {base' : Nat} (hb : base' ≤ base) : Own2 w base' te tr size v L vs :=
 ⟨own_base h.main hb, h.len, fun j ys hj => by obtain ⟨u, n, hu, ho⟩ := h.row j ys hj; exact ⟨u, n, hu, own_base ho hb⟩, h.dis⟩
theorem Own2.sl2 (h : Own2 w base te tr size v L vs) : ∃ A c, v = .slice A L.length c ∧ Sl2 w w.1.size size A L.length c L := by
 obtain ⟨A, c, rfl, hs⟩ := own_sl h.main
 refine ⟨A, c, rfl, vs, hs, h.len, fun j ys hj => ?_⟩
 obtain ⟨u, n, hu, ho⟩ := h.row j ys hj
 obtain ⟨A', c', rfl, hs'⟩ := own_sl ho
 exact ⟨A', _, c', hu, hs'⟩
theorem Own2.form (h : Own2 w base te tr size v L vs) (hn : 0 < L.length) : ∃ g cap, v = .slice (some ⟨g, 0, none⟩) L.length cap ∧ base ≤ g ∧ g < w.1.size := by
 obtain ⟨g, cap, hv, h1, h2, _⟩ := own_form h.main hn
 exact ⟨g, cap, hv, h1, h2⟩
theorem Own2.cell (h : Own2 w base te tr size (.slice (some ⟨g, 0, none⟩) m cap) L vs) {j : Nat} {u : Value} (hu : vs[j]? = some u) : w.cell? ⟨g, j, none⟩ = some u := by
 have hj : j < L.length := by rw [← h.len]; exact (gB.1 hu).1
 have hm := h.main
 obtain ⟨A, c, hv, _⟩ := own_sl hm
 cases hv
 rw [hm.cellAt j (by omega)]; exact hu
theorem Own2.put (h : Own2 w base te tr size (.slice (some ⟨g, 0, none⟩) m cap) L vs) (hne : te ≠ tr) {j n' : Nat} {u u' : Value} {ys' : List Value} (hu : vs[j]? = some u) (_hb : base ≤ w.1.size)
  (hown : w1.ownsRow base te size u' n' ys') (ht : Tch (fun k => u.ownBlock = some k) w w1) (hat : ∀ g', u'.ownBlock = some g' → u.ownBlock = some g' ∨ w.1.size ≤ g') :
  Own2 (w1.setCell ⟨g, j, none⟩ u') base te tr size (.slice (some ⟨g, 0, none⟩) m cap) (L.set j ys') (vs.set j u') ∧ Tch (fun k => k = g ∨ u.ownBlock = some k) w (w1.setCell ⟨g, j, none⟩ u') := by
 have hjv : j < vs.length := (gB.1 hu).1
 have hj : j < L.length := by rw [← h.len]; exact hjv
 have hm0 := h.main
 obtain ⟨A, c, hv, _⟩ := own_sl hm0
 cases hv
 obtain ⟨u0, n0, hu0, ho0⟩ := h.row j L[j] (by simp [hj])
 rw [hu] at hu0; cases hu0
 have hglt := (hm0.lt g rfl).2
 have hm1 : w1.ownsRow base tr 1 (.slice (some ⟨g, 0, none⟩) L.length cap) L.length vs :=
  own_tch hm0 ht (fun k hk hk' => own_ne ho0 hm0 hne k hk' hk)
 have hst := hm1.stored j u'
 have hu'g : ∀ k, u'.ownBlock = some k → k ≠ g := by
  intro k hk e
  subst e
  rcases hat k hk with h1 | h1
  ·exact own_ne ho0 hm0 hne k h1 rfl
  ·omega
 have hset : Tch (fun k => k = g) w1 (w1.setCell ⟨g, j, none⟩ u') := (Tch.refl (fun k => k = g) w1).setCell (p := ⟨g, j, none⟩) (fun _ => rfl) u'
 refine ⟨⟨by simpa using hst.1, by simp [h.len], fun i ys hi => ?_, fun i k a b q hik ha hb hq => ?_⟩, ?_⟩
 ·by_cases e : j = i
  ·subst e
   rw [List.getElem?_set_self hj] at hi
   cases hi
   exact ⟨u', n', List.getElem?_set_self hjv, own_tch hown hset (fun k hk => hu'g k hk)⟩
  ·rw [List.getElem?_set_ne e] at hi
   obtain ⟨a, na, ha, hoa⟩ := h.row i ys hi
   refine ⟨a, na, by rw [List.getElem?_set_ne e]; exact ha, ?_⟩
   have h1 := own_tch hoa ht (fun k hk hk' => h.dis i j a u k (fun h => e h.symm) ha hu hk hk')
   exact own_tch h1 hset (fun k hk e' => own_ne hoa hm0 hne k hk (by rw [e']; rfl))
 ·by_cases ei : j = i
  ·subst ei
   rw [List.getElem?_set_self hjv] at ha
   cases ha
   rw [List.getElem?_set_ne hik] at hb
   rcases hat q hq with h1 | h1
   ·exact h.dis j k u b q hik hu hb h1
   ·intro hb'; have := (h.rowlt hb q hb').2; omega
  ·rw [List.getElem?_set_ne ei] at ha
   by_cases ek : j = k
   ·subst ek
    rw [List.getElem?_set_self hjv] at hb
    cases hb
    intro hb'
    rcases hat q hb' with h1 | h1
    ·exact h.dis i j a u q hik ha hu hq h1
    ·have := (h.rowlt ha q hq).2; omega
   ·rw [List.getElem?_set_ne ek] at hb
    exact h.dis i k a b q hik ha hb hq
 ·exact Tch.trans (ht.mono (fun _ _ h => .inr h)) hset (fun _ _ h => .inl h)
theorem Own2.nil (w : World) (base te tr size : Nat) : Own2 w base te tr size (.slice none 0 0) [] [] := ⟨World.ownsRow_nil w _ _ _, rfl, by simp, by simp⟩
theorem Own2.fresh {n : Nat} (h : w.ownsRow base tr 1 v n (List.replicate n (.slice none 0 0))) : Own2 w base te tr size v (List.replicate n []) (List.replicate n (.slice none 0 0)) :=
 ⟨by simpa using h, by simp, fun j ys hj => by
  have hjn : j < n := by
   have := (gB.1 hj).1
   simpa using this
  simp [hjn] at hj
  subst hj
  exact ⟨_, 0, by simp [hjn], World.ownsRow_nil w _ _ _⟩, fun i j a b g _ ha _ hg => by
  have := List.mem_of_getElem? ha
  rw [List.mem_replicate] at this
  rw [this.2] at hg
  simp [Value.ownBlock] at hg⟩
end
end Go.Proofs.YtiebpncpdbnelaaGreatDoor
namespace Go.Proofs.YtiebpncpdbnelaaGreatDoor
open Go.ChangeShapes Go.WideShapes Go.RowKit Go.Deep
structure GrRd (w : World) (B : Nat) (ai : Option Addr) (ni ci : Nat) (ae : Option Addr) (ne ce : Nat) (al : Option Addr) (nl cl : Nat) (G : Gph) : Prop where
 hi : Sl w B 1 ai ni ci (icells G.init)
 he : Sl2 w B 2 ae ne ce (G.edges.map ncells)
 hl : Sl w B 1 al nl cl (G.labels.map (.int .u64))
theorem GrRd.below {w w' : World} {B B' ni ci ne ce nl cl : Nat} {ai ae al : Option Addr} {G : Gph} (h : GrRd w B ai ni ci ae ne ce al nl cl G) (hb : Below B' w w') (hB : B ≤ B') : GrRd w' B ai ni ci ae ne ce al nl cl G :=
 ⟨h.hi.below hb hB, h.he.below hb hB, h.hl.below hb hB⟩
theorem GrRd.up {w : World} {B B' ni ci ne ce nl cl : Nat} {ai ae al : Option Addr} {G : Gph} (h : GrRd w B ai ni ci ae ne ce al nl cl G) (hB : B ≤ B') : GrRd w B' ai ni ci ae ne ce al nl cl G :=
 ⟨h.hi.up hB, h.he.up hB, h.hl.up hB⟩
theorem GrRd.lens {w : World} {B ni ci ne ce nl cl : Nat} {ai ae al : Option Addr} {G : Gph} (h : GrRd w B ai ni ci ae ne ce al nl cl G) : ni = G.init.length ∧ ne = G.edges.length ∧ nl = G.labels.length := by
 have h1 := h.hi.len
 have h2 := h.he.len
 have h3 := h.hl.len
 simp [icells] at h1 h2 h3
 exact ⟨by omega, by omega, by omega⟩
section
variable {H : Type} {enc : TypeId × Value → H} {P : Program} {w : World} {base : Nat} {spare : Nat → Bool} {held : Bool}
end
end Go.Proofs.YtiebpncpdbnelaaGreatDoor
namespace Go.Proofs.YtiebpncpdbnelaaGreatDoor
open Go.RowKit
section
variable (ai ae al : Option Addr) (ni ci ne ce nl cl : Nat)
theorem nodeR_any (i : Int) (w : World) : Calls Tryz.prog 77 #[.agg #[.slice ai ni ci, .slice ae ne ce, .slice al nl cl], .int .i64 i] w (Tru w (isNd ne i)) := by
 have hb := fun o => (Below.refl w.1.size w).alloc lR o
 by_cases h0 : 0 ≤ i
 ·have h0' : decide (0 ≤ i) = true := by simpa using h0
  by_cases h1 : i < (ne : Int)
  ·have h1' : decide (i < (ne : Int)) = true := by simpa using h1
   have hr : isNd ne i = true := isNd_iff.2 ⟨h0, h1⟩
   go_enter Tryz.func77, Tryz.ntmps77
   go_wp2
   go_ret
   exact ⟨ret_bool (by simp [hr]), hb _⟩
  ·have h1' : decide (i < (ne : Int)) = false := by simpa using h1
   have hr : isNd ne i = false := by simp [isNd, h1]
   have HR := dh hr
   clear hr
   go_enter Tryz.func77, Tryz.ntmps77
   go_wp2
   go_ret
   exact ⟨ret_bool (by simp [HR.out]), hb _⟩
 ·have h0' : decide (0 ≤ i) = false := by simpa using h0
  have hr : isNd ne i = false := by simp [isNd, h0]
  have HR := dh hr
  clear hr
  go_enter Tryz.func77, Tryz.ntmps77
  go_wp2
  go_ret
  exact ⟨ret_bool (by simp [HR.out]), hb _⟩
theorem node_any (i : Int) (w : World) : Calls Tryz.prog 88 #[.agg #[.slice ai ni ci, .slice ae ne ce, .slice al nl cl], .int .i64 i] w (Tru w (isNd ne i)) := by
 have hb := fun o => (Below.refl w.1.size w).alloc lR o
 by_cases h0 : 0 ≤ i
 ·have h0' : decide (0 ≤ i) = true := by simpa using h0
  by_cases h1 : i < (ne : Int)
  ·have h1' : decide (i < (ne : Int)) = true := by simpa using h1
   have hr : isNd ne i = true := isNd_iff.2 ⟨h0, h1⟩
   go_enter Tryz.func88, Tryz.ntmps88
   go_wp2
   go_ret
   exact ⟨ret_bool (by simp [hr]), hb _⟩
  ·have h1' : decide (i < (ne : Int)) = false := by simpa using h1
   have hr : isNd ne i = false := by simp [isNd, h1]
   have HR := dh hr
   clear hr
   go_enter Tryz.func88, Tryz.ntmps88
   go_wp2
   go_ret
   exact ⟨ret_bool (by simp [HR.out]), hb _⟩
 ·have h0' : decide (0 ≤ i) = false := by simpa using h0
  have hr : isNd ne i = false := by simp [isNd, h0]
  have HR := dh hr
  clear hr
  go_enter Tryz.func88, Tryz.ntmps88
  go_wp2
  go_ret
  exact ⟨ret_bool (by simp [HR.out]), hb _⟩
end
theorem bcells'_at {l : List Bool} {i : Nat} (h : i < l.length) : (l.map Value.bool)[i]? = some (.bool (l.getD i false)) := by simp [List.getD, h]
def goalsTo (goal : List Bool) (k : Nat) : List Int := ((List.range k).filter (fun i => goal.getD i false)).map (fun (i : Nat) => (i : Int))
theorem goalsTo_succ (goal : List Bool) (k : Nat) : goalsTo goal (k + 1) = goalsTo goal k ++ if goal.getD k false = true then [(k : Int)] else [] := by
 rw [goalsTo, goalsTo, List.range_succ, List.filter_append, List.map_append]
 congr 1
 rw [List.filter_cons, List.filter_nil]
 split
 ·rfl
 ·rfl
theorem goalsTo_len (goal : List Bool) (k : Nat) : (goalsTo goal k).length ≤ k := by
 rw [goalsTo, List.length_map]
 exact Nat.le_trans (List.length_filter_le _ _) (by simp)
theorem boxed3 (w : World) (x0 x1 x2 : Value) (t : Nat) : ∃ w0, w0 = w.alloc (.cells #[x0, x1, x2] t) ∧ Below w.1.size w w0 ∧ w0.1.size = w.1.size + 1 ∧
  w0.cell? ⟨w.1.size, 0, none⟩ = some x0 ∧ w0.cell? ⟨w.1.size, 1, none⟩ = some x1 ∧ w0.cell? ⟨w.1.size, 2, none⟩ = some x2 :=
 ⟨_, rfl, bR.alloc lR _, by simp, by rw [cell_of_row _ _ _ _ _ _ (heap_alloc_new w _)]; rfl, by rw [cell_of_row _ _ _ _ _ _ (heap_alloc_new w _)]; rfl, by rw [cell_of_row _ _ _ _ _ _ (heap_alloc_new w _)]; rfl⟩
section
variable (ai ae al : Option Addr) (ni ci ne ce nl cl : Nat)
theorem goalsR_any (A : Option Addr) (n c : Nat) (goal : List Bool) (w : World) (B : Nat) (hn : n = goal.length) (hs : Sl w B 1 A n c (goal.map .bool)) (hB : B ≤ w.1.size) (hl : n ≤ 1000000000) (hne : ne ≤ 1000000000) :
  Calls Tryz.prog 97 #[.agg #[.slice ai ni ci, .slice ae ne ce, .slice al nl cl], .slice A n c] w (NewRow w 3 1 (goalsG ne goal).length (icells (goalsG ne goal)) (goalsG ne goal = [])) := by
 subst hn
 obtain ⟨w0, hw0, hb0, hz0, _, hx1, _⟩ := boxed3 w (.slice ai ni ci) (.slice ae ne ce) (.slice al nl cl) 55
 have HW0 := dh hw0
 clear hw0
 have hend : goalsG ne goal = goalsTo goal (min goal.length ne) := rfl
 have HE := dh hend
 clear hend
 go_enter Tryz.func97, Tryz.ntmps97
 go_wp2
 rw [← HW0.out]
 clear HW0
 have hs0 := hs.below hb0 hB
 have hr0 : w0.ownsRow w0.1.size 3 1 (.slice none 0 0) (goalsTo goal 0).length (icells (goalsTo goal 0)) := World.ownsRow_nil _ _ _ _
 go_loopw [5, 6] (fun v i wr => ∃ k : Nat, k ≤ min goal.length ne ∧ i = .int .i64 k ∧ wr.ownsRow w0.1.size 3 1 v (goalsTo goal k).length (icells (goalsTo goal k)) ∧ Below w0.1.size w0 wr ∧ (v = .slice none 0 0 ↔ goalsTo goal k = [])) (fun _ i _ => min goal.length ne - (intOf i).toNat)
 case atStart => exact ⟨0, by omega, rfl, hr0, bR, by simp [goalsTo]⟩
 case round =>
  obtain ⟨k, hk, rfl, hown, hbel, hnil⟩ := hrel
  have hz := hbel.size
  have hx1r := bC hbel (by omega) hx1
  have HN := dh hnil
  clear hr0 hx1 hnil
  have hlk := goalsTo_len goal k
  by_cases hlt : k < min goal.length ne
  ·have hlt1 : k < goal.length := by omega
   have hlt2 : k < ne := by omega
   have d1 : decide ((k : Int) < (ne : Int)) = true := by simp; omega
   have d2 : decide ((k : Int) < (goal.length : Int)) = true := by simp; omega
   obtain ⟨b, o, rfl, _, hc⟩ := (hs0.rd.below hbel (by omega)).at_ (bcells'_at hlt1)
   have hsn := goalsTo_succ goal k
   generalize goal.getD k false = x at *
   have HS := dh hsn
   clear hsn
   cases x
   ·go_wp2
    go_roundw
    case rel => exact ⟨k + 1, by omega, by go_num, by rw [HS.out]; simpa using hown, hbel, by rw [HS.out]; simpa using HN.out⟩
    case measure => simp [intOf]; omega
   ·go_wp2_with (at_builtin; refine wpList_push rfl (.tmp 24) (.tmp 26) 22 rfl w0.1.size 3 1 8 sliceInt _ _ _ (hown.alloc _) rfl wr.1.size #[.int .i64 k] rfl (heap_alloc_new wr _) rfl (by simp [Value.oneCell']) (by omega) (by omega) (by simp; omega) ?_; intro v3 w3 hown3 ht3 hat3 hne3)
    go_roundw
    case rel =>
     refine ⟨k + 1, by omega, by go_num, ?_, ?_, by rw [HS.out]; simp [hne3]⟩
     ·rw [HS.out, icells_append, lA]; exact hown3
     ·exact (hbel.alloc hz _).trans (ht3.below (by simp; omega) (fun g hg h => by have := (hown.lt g h).1; omega))
    case measure => simp [intOf]; omega
  ·have hkl : k = min goal.length ne := by omega
   go_wp2
   all_goals
    go_ret
    exact ⟨_, rfl, by rw [HE.out, ← hkl]; exact own_base hown (by omega), hb0.trans (hbel.mono (by omega)), by rw [HE.out, ← hkl]; exact HN.out⟩
theorem goals_any (A : Option Addr) (n c mn : Nat) (hmn : mn = min n ne) (goal : List Bool) (w : World) (B : Nat) (hn : n = goal.length) (hs : Sl w B 1 A n c (goal.map .bool)) (hB : B ≤ w.1.size) (hl : n ≤ 1000000000) (hne : ne ≤ 1000000000) :
  Calls Tryz.prog 73 #[.agg #[.slice ai ni ci, .slice ae ne ce, .slice al nl cl], .slice A n c] w (NewRow w 3 1 (goalsG ne goal).length (icells (goalsG ne goal)) (goalsG ne goal = [])) := by
 subst hn
 obtain ⟨w0, hw0, hb0, hz0, _, hx1, _⟩ := boxed3 w (.slice ai ni ci) (.slice ae ne ce) (.slice al nl cl) 55
 have HW0 := dh hw0
 clear hw0
 have hend : goalsG ne goal = goalsTo goal mn := by rw [hmn]; rfl
 have hm1 : mn ≤ goal.length := by omega
 have hm2 : mn ≤ ne := by omega
 have hm3 : (if ((goal.length : Nat) : Int) ≤ (ne : Int) then ((goal.length : Nat) : Int) else (ne : Int)) = (mn : Int) := by split <;> omega
 have HE := dh hend
 have HM3 := dh hm3
 clear hend hm3
 go_enter Tryz.func73, Tryz.ntmps73
 rcases (show (ne < goal.length ∧ mn = ne) ∨ (goal.length ≤ ne ∧ mn = goal.length) by omega) with ⟨hc, he⟩ | ⟨hc, he⟩
 all_goals
  have HQ := dh he
  clear he hmn
  go_wp2
  rw [← HW0.out]
  clear HW0
  have hs0 := hs.below hb0 hB
  have hr0 : w0.ownsRow w0.1.size 3 1 (.slice none 0 0) (goalsTo goal 0).length (icells (goalsTo goal 0)) := World.ownsRow_nil _ _ _ _
  go_loopw [5, 13] (fun v i wr => ∃ k : Nat, k ≤ mn ∧ i = .int .i64 k ∧ wr.ownsRow w0.1.size 3 1 v (goalsTo goal k).length (icells (goalsTo goal k)) ∧ Below w0.1.size w0 wr ∧ (v = .slice none 0 0 ↔ goalsTo goal k = [])) (fun _ i _ => mn - (intOf i).toNat)
  case atStart => exact ⟨0, by omega, rfl, hr0, bR, by simp [goalsTo]⟩
  case round =>
   obtain ⟨k, hk, rfl, hown, hbel, hnil⟩ := hrel
   have hz := hbel.size
   have hx1r := bC hbel (by omega) hx1
   have HN := dh hnil
   clear hr0 hx1 hnil
   have hlk := goalsTo_len goal k
   by_cases hlt : k < mn
   ·have hlt1 : k < goal.length := by omega
    have hlt2 : k < ne := by omega
    have d1 : decide ((k : Int) < (ne : Int)) = true := by simp; omega
    have d2 : decide ((k : Int) < (goal.length : Int)) = true := by simp; omega
    obtain ⟨b, o, rfl, _, hc⟩ := (hs0.rd.below hbel (by omega)).at_ (bcells'_at hlt1)
    have hsn := goalsTo_succ goal k
    generalize goal.getD k false = x at *
    have HS := dh hsn
    clear hsn
    cases x
    ·go_wp2
     go_roundw
     case rel => exact ⟨k + 1, by omega, by go_num, by rw [HS.out]; simpa using hown, hbel, by rw [HS.out]; simpa using HN.out⟩
     case measure => simp [intOf]; omega
    ·go_wp2_with (at_builtin; refine wpList_push rfl (.tmp 20) (.tmp 22) 22 rfl w0.1.size 3 1 8 sliceInt _ _ _ (hown.alloc _) rfl wr.1.size #[.int .i64 k] rfl (heap_alloc_new wr _) rfl (by simp [Value.oneCell']) (by omega) (by omega) (by simp; omega) ?_; intro v3 w3 hown3 ht3 hat3 hne3)
     go_roundw
     case rel =>
      refine ⟨k + 1, by omega, by go_num, ?_, ?_, by rw [HS.out]; simp [hne3]⟩
      ·rw [HS.out, icells_append, lA]; exact hown3
      ·exact (hbel.alloc hz _).trans (ht3.below (by simp; omega) (fun g hg h => by have := (hown.lt g h).1; omega))
     case measure => simp [intOf]; omega
   ·have hkl : k = mn := by omega
    have HKL := dh hkl
    first
     | have d3 : decide (k < ne) = false := (by have := HQ.out; simp; omega)
     | have d3 : decide (k < goal.length) = false := (by have := HQ.out; simp; omega)
    clear hkl
    go_wp2
    all_goals
     go_ret
     exact ⟨_, rfl, by rw [HE.out, ← HKL.out]; exact own_base hown (by omega), hb0.trans (hbel.mono (by omega)), by rw [HE.out, ← HKL.out]; exact HN.out⟩
end
end Go.Proofs.YtiebpncpdbnelaaGreatDoor
namespace Go.Proofs.YtiebpncpdbnelaaGreatDoor
open Go.RowKit
section
variable (ai ae al : Option Addr) (ni ci ne ce nl cl : Nat)
theorem ed_take {E : List (List Nd)} {k : Nat} (hk : k < E.length) : (E.map ncells)[k]? = some (ncells E[k]) := by simp [hk]
end
end Go.Proofs.YtiebpncpdbnelaaGreatDoor
