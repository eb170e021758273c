/- The graph of an automaton's nodes at a word's places, as layer 30's reference makes it: row by row. -/
import Derived.Test.YtiebpncpdbnelaaDoorZbi
namespace Go.Proofs.YtiebpncpdbnelaaDoor
open Go.RowKit
def upT {α : Type} (n : Nat) (f : Nat → α) (d : α) (m : Nat) : List α := (List.range n).map fun i => if i < m then f i else d
section
variable {α : Type} {n m : Nat} {f : Nat → α} {d : α}
theorem upT_len : (upT n f d m).length = n := by simp [upT]
theorem upT_zero : upT n f d 0 = List.replicate n d := by
 refine List.ext_getElem (by simp [upT]) (fun i h1 h2 => by simp [upT])
theorem upT_set : (upT n f d m).set m (f m) = upT n f d (m + 1) := by
 refine List.ext_getElem (by simp [upT]) (fun i h1 h2 => ?_)
 rw [List.getElem_set]
 simp only [upT, List.getElem_map, List.getElem_range]
 by_cases e : m = i
 ·subst e; simp
 ·rw [if_neg e]
  by_cases e2 : i < m
  ·rw [if_pos e2, if_pos (by omega)]
  ·rw [if_neg e2, if_neg (by omega)]
theorem upT_at : (upT n f d m).set m d = upT n f d m := by
 refine List.ext_getElem (by simp) (fun i h1 h2 => ?_)
 rw [List.getElem_set]
 split
 ·rename_i e; subst e; simp [upT]
 ·rfl
theorem upT_full : upT n f d n = (List.range n).map f := by
 refine List.map_congr_left (fun i hi => ?_)
 rw [if_pos (List.mem_range.1 hi)]
end
section
variable {a : Aut} {W : List Nat} {lp : Nat}
def prodF (a : Aut) (W : List Nat) (lp m : Nat) : List Nd := prodR a W lp (m / W.length) (m % W.length)
theorem prodE_up (a : Aut) (W : List Nat) (lp : Nat) : upT (a.nodes.length * W.length) (prodF a W lp) [] (a.nodes.length * W.length) = prodE a W lp := upT_full
theorem prodF_at {q k : Nat} (hk : k < W.length) : prodF a W lp (q * W.length + k) = prodR a W lp q k := by
 obtain ⟨h1, h2⟩ := idx_div (q := q) hk
 rw [prodF, h1, h2]
def prodI (a : Aut) (W : List Nat) (nxt : Nat) (l : List Int) : List Nd := (l.filter (fun t => rdsB (a.at t.toNat) (W.getD nxt 0))).map (fun t => ⟨t * (W.length : Int) + (nxt : Int), 0⟩)
theorem prodI_snoc {nxt i : Nat} {l : List Int} (hi : i < l.length) : prodI a W nxt (l.take (i + 1)) = prodI a W nxt (l.take i) ++ (if rdsB (a.at l[i].toNat) (W.getD nxt 0) = true then [⟨l[i] * (W.length : Int) + (nxt : Int), 0⟩] else []) := by
 unfold prodI
 rw [take_snoc l i hi, List.filter_append, List.map_append]
 congr 1
 rw [List.filter_cons, List.filter_nil]
 split <;> simp
theorem prodI_le {nxt : Nat} {l : List Int} : (prodI a W nxt l).length ≤ l.length := by
 unfold prodI
 rw [List.length_map]; exact List.length_filter_le _ _
theorem prodR_yes {q k : Nat} (h : rdsB (a.at q) (W.getD k 0) = true) : prodR a W lp q k = prodI a W (nx lp W.length k) (a.at q).to := if_pos h
theorem prodR_no {q k : Nat} (h : rdsB (a.at q) (W.getD k 0) = false) : prodR a W lp q k = [] := if_neg (by rw [h]; decide)
theorem aut_mem {q : Nat} (hq : q < a.nodes.length) : a.at q ∈ a.nodes := by
 unfold Aut.at; rw [gD, gE hq]; exact mM hq
theorem prod_idx {m : Nat} (hm : m < a.nodes.length * W.length) : m / W.length < a.nodes.length := by
 rcases Nat.eq_zero_or_pos W.length with h0 | h0
 ·rw [h0] at hm; omega
 ·exact (Nat.div_lt_iff_lt_mul h0).2 hm
theorem prodE_in (hA : a.Ok) (hlp : lp < W.length) : ∀ r ∈ prodE a W lp, ∀ e ∈ r, isNd (a.nodes.length * W.length) e.op = true := by
 intro r hr e he
 obtain ⟨m, hm, rfl⟩ := List.mem_map.1 hr
 have hq := prod_idx (List.mem_range.1 hm)
 unfold prodR at he
 split at he
 ·obtain ⟨t, ht, rfl⟩ := List.mem_map.1 he
  obtain ⟨q', rfl, hq'⟩ := isNd_nat (hA.2 _ (aut_mem hq) t (List.mem_filter.1 ht).1)
  have := idx_lt hq' (nx_lt (i := m % W.length) hlp)
  rw [isNd_iff]
  dsimp only
  have e : (q' : Int) * (W.length : Int) + ((nx lp W.length (m % W.length) : Nat) : Int) = ((q' * W.length + nx lp W.length (m % W.length) : Nat) : Int) := by simp
  rw [e]; omega
 ·cases he
theorem prodE_row {KB : Nat} (hr : ∀ x ∈ a.nodes, x.to.length ≤ KB) : ∀ r ∈ prodE a W lp, r.length ≤ KB := by
 intro r hr'
 obtain ⟨m, hm, rfl⟩ := List.mem_map.1 hr'
 have hq := prod_idx (List.mem_range.1 hm)
 unfold prodR
 split
 ·rw [List.length_map]
  exact Nat.le_trans (List.length_filter_le _ _) (hr _ (aut_mem hq))
 ·simp
def ofN (N n : Nat) : List Nat := (List.range (N * n)).map (· / n)
theorem ofN_up (N n : Nat) : upT (N * n) (fun m => ((m / n : Nat) : Int)) 0 (N * n) = natI (ofN N n) := by rw [upT_full]; simp [natI, ofN]
theorem ofN_lt {N n : Nat} : ∀ x ∈ ofN N n, x < N := by
 intro x hx
 obtain ⟨m, hm, rfl⟩ := List.mem_map.1 hx
 rw [List.mem_range] at hm
 rcases Nat.eq_zero_or_pos n with h0 | h0
 ·rw [h0] at hm; omega
 ·exact (Nat.div_lt_iff_lt_mul h0).2 hm
theorem gfp_asks {z : List Bool} (h : Gfp (prodE a W lp) (asksL a (ofN a.nodes.length W.length)) z) : Gfp (prodE a W lp) (asksA a W.length) z := by
 refine gfp_congr (by simp [asksL, asksA]) (fun j p q hp hq k hk => ?_) h
 rw [prodE_len] at hk
 have hof : (ofN a.nodes.length W.length).getD k 0 = k / W.length := by simp [ofN, List.getD, hk]
 obtain ⟨hj, rfl⟩ := gB.1 hp
 obtain ⟨hj', rfl⟩ := gB.1 hq
 have e1 : (asksL a (ofN a.nodes.length W.length))[j] = askL a (ofN a.nodes.length W.length) ((j : Int) - 1) := by simp [asksL]
 rw [e1]
 unfold askL
 rw [hof]
 cases j with
 | zero => rfl
 | succ j =>
  have h1 : decide (((j + 1 : Nat) : Int) - 1 < 0) = false := decide_eq_false (by omega)
  have h2 : (((j + 1 : Nat) : Int) - 1).toNat = j := by omega
  have e2 : (asksA a W.length)[j + 1] = fun m => (a.at (m / W.length)).inn.testBit j := by simp [asksA]
  rw [h1, h2, Bool.false_or, e2]
def fromT (a : Aut) (W : List Nat) (l : List Int) : List Int := (l.filter (fun q => rdsB (a.at q.toNat) (W.getD 0 0))).map (· * (W.length : Int))
def takesB (a : Aut) (W : List Nat) (z : List Bool) : Bool := (fromT a W a.init).any (fun x => z.getD x.toNat false)
theorem fromT_snoc {i : Nat} {l : List Int} (hi : i < l.length) : fromT a W (l.take (i + 1)) = fromT a W (l.take i) ++ (if rdsB (a.at l[i].toNat) (W.getD 0 0) = true then [l[i] * (W.length : Int)] else []) := by
 unfold fromT
 rw [take_snoc l i hi, List.filter_append, List.map_append]
 congr 1
 rw [List.filter_cons, List.filter_nil]
 split <;> simp
theorem fromT_le {l : List Int} : (fromT a W l).length ≤ l.length := by
 unfold fromT
 rw [List.length_map]; exact List.length_filter_le _ _
theorem fromT_in (hA : a.Ok) (hW : 0 < W.length) : ∀ x ∈ fromT a W a.init, ∃ m : Nat, x = (m : Int) ∧ m < a.nodes.length * W.length := by
 intro x hx
 obtain ⟨q, hq, rfl⟩ := List.mem_map.1 hx
 obtain ⟨q', rfl, hq'⟩ := isNd_nat (hA.1 q (List.mem_filter.1 hq).1)
 exact ⟨q' * W.length, by simp, by have := idx_lt hq' hW; omega⟩
theorem takesB_iff (hA : a.Ok) {z : List Bool} : takesB a W z = true ↔ takesZ a W z := by
 unfold takesB fromT takesZ
 rw [List.any_eq_true]
 constructor
 ·rintro ⟨x, hx, hz⟩
  obtain ⟨q, hq, rfl⟩ := List.mem_map.1 hx
  obtain ⟨h1, h2⟩ := List.mem_filter.1 hq
  obtain ⟨q', rfl, _⟩ := isNd_nat (hA.1 q h1)
  rw [tN] at h2
  refine ⟨q', h1, h2, ?_⟩
  rwa [show ((q' : Int) * (W.length : Int)).toNat = q' * W.length from by rw [← Int.natCast_mul, tN]] at hz
 ·rintro ⟨q, h1, h2, h3⟩
  refine ⟨(q : Int) * (W.length : Int), List.mem_map.2 ⟨(q : Int), List.mem_filter.2 ⟨h1, by rw [tN]; exact h2⟩, rfl⟩, ?_⟩
  rwa [show ((q : Int) * (W.length : Int)).toNat = q * W.length from by rw [← Int.natCast_mul, tN]]
end
theorem chkNds_zero {N : Nat} {s : Int} : ∀ {l : List ANd}, chkNds N s l = 0 → ∀ x ∈ l, chkNd N s x = 0
 | [], _ => fun x hx => by cases hx
 | x :: r, h => by
  unfold chkNds at h
  split at h
  ·next h1 =>
   intro y hy
   rcases List.mem_cons.1 hy with rfl | hy
   ·exact h1
   ·exact chkNds_zero h y hy
  ·next h1 => exact absurd h h1
theorem chkA_of {a : Aut} (h : chkA a = 0) : a.nodes.length ≤ 256 ∧ 0 ≤ a.sets ∧ a.sets ≤ 16 ∧ a.Ok := by
 unfold chkA at h
 split at h
 ·simp at h
 ·split at h
  ·simp at h
  ·split at h
   ·next h1 h2 h3 =>
    refine ⟨by omega, by omega, by omega, fun i hi => List.all_eq_true.1 h3 i hi, fun x hx t ht => ?_⟩
    have := chkNds_zero h x hx
    unfold chkNd at this
    split at this
    ·next h4 => exact List.all_eq_true.1 h4 t ht
    ·simp at this
   ·simp at h
theorem mulI {x y : Nat} (hx : x ≤ 1000000) (hy : y ≤ 1000000) : IntKind.i64.wrap ((x : Int) * (y : Int)) = ((x * y : Nat) : Int) := by
 have h : x * y ≤ 1000000 * 1000000 := Nat.mul_le_mul hx hy
 rw [← Int.natCast_mul]
 generalize x * y = p at *
 rw [wI]; omega
def TW (w0 : World) (r q ne : Nat) (R : List (List Nd)) (F : List Int) (wr : World) : Prop :=
 ∃ vs, Own2 wr w0.1.size 65 63 2 (.slice (some ⟨r, 0, none⟩) ne ne) (R.map ncells) vs ∧ Below w0.1.size w0 wr ∧ wr.ownsRow w0.1.size 3 1 (.slice (some ⟨q, 0, none⟩) ne ne) ne (icells F)
theorem TW.below {w0 w w' : World} {r q ne : Nat} {R : List (List Nd)} {F : List Int} (h : TW w0 r q ne R F w) (hb : Below w.1.size w w') : TW w0 r q ne R F w' := by
 obtain ⟨vs, h2, h5, h6⟩ := h
 exact ⟨vs, h2.below hb, h5.trans (hb.mono h5.size), own_below h6 hb⟩
theorem TW.bel {w0 w : World} {r q ne : Nat} {R : List (List Nd)} {F : List Int} (h : TW w0 r q ne R F w) : Below w0.1.size w0 w := h.choose_spec.2.1
theorem TW.start {w0 : World} {ne : Nat} (hne : ne ≤ 1000000000) : TW w0 w0.1.size (w0.1.size + 1) ne (List.replicate ne []) (List.replicate ne 0) ((w0.alloc (.cells (madeCells #[.slice none 0 0] ne) 63)).alloc (.cells (madeCells #[.int .i64 0] ne) 3)) := by
 obtain ⟨vs, h2, h5⟩ := WRows.start (w0 := w0) hne
 have hb : Below (w0.alloc (.cells (madeCells #[.slice none 0 0] ne) 63)).1.size (w0.alloc (.cells (madeCells #[.slice none 0 0] ne) 63)) ((w0.alloc (.cells (madeCells #[.slice none 0 0] ne) 63)).alloc (.cells (madeCells #[.int .i64 0] ne) 3)) := bR.alloc lR _
 refine ⟨vs, h2.below hb, h5.trans (hb.mono h5.size), ?_⟩
 have := own_made (w := w0.alloc (.cells (madeCells #[.slice none 0 0] ne) 63)) (base := w0.1.size) (e := 3) (n := ne) (v := .int .i64 0) h5.size (by unfold maxLen; omega)
 rw [show (w0.alloc (.cells (madeCells #[.slice none 0 0] ne) 63)).1.size = w0.1.size + 1 by simp] at this
 simpa [icells] using this
theorem TW.put {w0 w : World} {r q ne t : Nat} {x : Int} {R : List (List Nd)} {F : List Int} (h : TW w0 r q ne R F w) (ht : t < ne) :
  (∃ y, w.cell? ⟨q, t, none⟩ = some (.int .i64 y)) ∧ w.frozen? ⟨q, t, none⟩ = false ∧ q < w.1.size ∧ TW w0 r q ne R (F.set t x) (w.setCell ⟨q, t, none⟩ (.int .i64 x)) := by
 obtain ⟨vs, h2, h5, h6⟩ := h
 have hl : F.length = ne := by have := h6.1; simpa [icells] using this
 have s : Tch (fun k => k = q) w (w.setCell ⟨q, t, none⟩ (.int .i64 x)) := Tch.setCell (S := fun k => k = q) (p := ⟨q, t, none⟩) (Tch.refl _ w) (fun _ => rfl) _
 refine ⟨⟨F.getD t 0, ?_⟩, h6.frozenAt t, (h6.lt q rfl).2, vs, h2.tch s (fun g hg e => own_ne h2.main h6 (by decide) g hg (by rw [e]; rfl)) (fun j u g hu hg e => ?_), h5.setCell (p := ⟨q, t, none⟩) (h6.lt q rfl).1 _, ?_⟩
 ·rw [h6.cellAt t (by omega)]
  simp [icells, List.getD, hl, ht]
 ·have hj : j < (R.map ncells).length := by rw [← h2.len]; exact (gB.1 hu).1
  obtain ⟨u', n, hu', ho⟩ := h2.row j (R.map ncells)[j] (gE hj)
  rw [hu] at hu'
  cases hu'
  exact own_ne ho h6 (by decide) g hg (by rw [e]; rfl)
 ·have := (h6.stored t (.int .i64 x)).1
  rw [icells, List.map_set]; exact this
theorem TW.grow {w0 w w1 w2 : World} {r q ne : Nat} {R : List (List Nd)} {F : List Int} {t n n' : Nat} {u u' : Value} {vs ys0 : List Value} {ys : List Nd} {o : Obj}
  (h2 : Own2 w w0.1.size 65 63 2 (.slice (some ⟨r, 0, none⟩) ne ne) (R.map ncells) vs)
  (h5 : Below w0.1.size w0 w) (h6 : w.ownsRow w0.1.size 3 1 (.slice (some ⟨q, 0, none⟩) ne ne) ne (icells F)) (hw : w1 = w.alloc o) (hu : vs[t]? = some u) (huo : w.ownsRow w0.1.size 65 2 u n ys0)
  (hown : w2.ownsRow w0.1.size 65 2 u' n' (ncells ys)) (ht : Tch (fun k => u.ownBlock = some k) w1 w2) (hat : u'.ownBlock = u.ownBlock ∨ u'.ownBlock = some w1.1.size) :
  w2.cell? ⟨r, t, none⟩ = some u ∧ w2.frozen? ⟨r, t, none⟩ = false ∧ (∀ b, b < w.1.size → (∀ g, u.ownBlock = some g → g ≠ b) → ∀ o, w2.cell? ⟨b, o, none⟩ = w.cell? ⟨b, o, none⟩) ∧
   TW w0 r q ne (R.set t ys) F (w2.setCell ⟨r, t, none⟩ u') := by
 obtain ⟨e1, e2, e3, vs', g1, g2⟩ := WRows.grow h2 h5 hw hu huo hown ht hat
 refine ⟨e1, e2, e3, vs', g1, g2, ?_⟩
 subst hw
 have ht' : Tch (fun k => u.ownBlock = some k) w w2 := Tch.trans ((Tch.refl _ w).alloc _) ht (fun _ _ h => h)
 have s : Tch (fun k => k = r ∨ u.ownBlock = some k) w (w2.setCell ⟨r, t, none⟩ u') := Tch.setCell (S := fun k => k = r ∨ u.ownBlock = some k) (p := ⟨r, t, none⟩) (ht'.mono (fun _ _ h => .inr h)) (fun _ => .inl rfl) _
 refine own_tch h6 s (fun k hk hS => ?_)
 rcases hS with e | e
 ·exact own_ne h6 h2.main (by decide) k hk (by rw [e]; rfl)
 ·exact own_ne huo h6 (by decide) k e hk
theorem box2A {w : World} {b t : Nat} {p q : Value} (h : w.1[b]? = some (.cells #[p, q] t (0, 0))) : w.cell? ⟨b, 0, none⟩ = some p ∧ w.cell? ⟨b, 1, none⟩ = some q := by
 refine ⟨?_, ?_⟩ <;> (rw [cell_of_row _ _ _ _ _ (0, 0) h]; rfl)
end Go.Proofs.YtiebpncpdbnelaaDoor
