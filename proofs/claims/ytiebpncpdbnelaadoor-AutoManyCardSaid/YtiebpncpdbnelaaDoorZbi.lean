/- Texts that stand one behind the other, in one file. -/
import Derived.Test.YtiebpncpdbnelaaDoorZbh
import Derived.Test.YtiebpncpdbnelaaDoorZad
import Derived.Test.YtiebpncpdbnelaaDoorZah
import Derived.Test.YtiebpncpdbnelaaDoorZbf
import Derived.Test.YtiebpncpdbnelaaDoorZap
import Derived.Test.YtiebpncpdbnelaaDoorZan
namespace Go.Proofs.YtiebpncpdbnelaaDoor
open Go.RowKit
def upT {α : Type} (n : Nat) (f : Nat → α) (d : α) (m : Nat) : List α := (List.range n).map fun i => if i < m then f i else d
section
variable {α : Type} {n m : Nat} {f : Nat → α} {d : α}
theorem upT_len : (upT n f d m).length = n := by simp [upT]
theorem upT_zero : upT n f d 0 = List.replicate n d := by
 refine List.ext_getElem (by simp [upT]) (fun i h1 h2 => by simp [upT])
theorem upT_set : (upT n f d m).set m (f m) = upT n f d (m + 1) := by
 refine List.ext_getElem (by simp [upT]) (fun i h1 h2 => ?_)
 rw [List.getElem_set]
 simp only [upT, List.getElem_map, List.getElem_range]
 by_cases e : m = i
 ·subst e; simp
 ·rw [if_neg e]
  by_cases e2 : i < m
  ·rw [if_pos e2, if_pos (by omega)]
  ·rw [if_neg e2, if_neg (by omega)]
theorem upT_at : (upT n f d m).set m d = upT n f d m := by
 refine List.ext_getElem (by simp) (fun i h1 h2 => ?_)
 rw [List.getElem_set]
 split
 ·rename_i e; subst e; simp [upT]
 ·rfl
theorem upT_full : upT n f d n = (List.range n).map f := by
 refine List.map_congr_left (fun i hi => ?_)
 rw [if_pos (List.mem_range.1 hi)]
end
section
variable {a : Aut} {W : List Nat} {lp : Nat}
def prodF (a : Aut) (W : List Nat) (lp m : Nat) : List Nd := prodR a W lp (m / W.length) (m % W.length)
theorem prodE_up (a : Aut) (W : List Nat) (lp : Nat) : upT (a.nodes.length * W.length) (prodF a W lp) [] (a.nodes.length * W.length) = prodE a W lp := upT_full
theorem prodF_at {q k : Nat} (hk : k < W.length) : prodF a W lp (q * W.length + k) = prodR a W lp q k := by
 obtain ⟨h1, h2⟩ := idx_div (q := q) hk
 rw [prodF, h1, h2]
def prodI (a : Aut) (W : List Nat) (nxt : Nat) (l : List Int) : List Nd := (l.filter (fun t => rdsB (a.at t.toNat) (W.getD nxt 0))).map (fun t => ⟨t * (W.length : Int) + (nxt : Int), 0⟩)
theorem prodI_snoc {nxt i : Nat} {l : List Int} (hi : i < l.length) : prodI a W nxt (l.take (i + 1)) = prodI a W nxt (l.take i) ++ (if rdsB (a.at l[i].toNat) (W.getD nxt 0) = true then [⟨l[i] * (W.length : Int) + (nxt : Int), 0⟩] else []) := by
 unfold prodI
 rw [take_snoc l i hi, List.filter_append, List.map_append]
 congr 1
 rw [List.filter_cons, List.filter_nil]
 split <;> simp
theorem prodI_le {nxt : Nat} {l : List Int} : (prodI a W nxt l).length ≤ l.length := by
 unfold prodI
 rw [List.length_map]; exact List.length_filter_le _ _
theorem prodR_yes {q k : Nat} (h : rdsB (a.at q) (W.getD k 0) = true) : prodR a W lp q k = prodI a W (nx lp W.length k) (a.at q).to := if_pos h
theorem prodR_no {q k : Nat} (h : rdsB (a.at q) (W.getD k 0) = false) : prodR a W lp q k = [] := if_neg (by rw [h]; decide)
theorem aut_mem {q : Nat} (hq : q < a.nodes.length) : a.at q ∈ a.nodes := by
 unfold Aut.at; rw [List.getD_eq_getElem?_getD, List.getElem?_eq_getElem hq]; exact List.getElem_mem hq
theorem prod_idx {m : Nat} (hm : m < a.nodes.length * W.length) : m / W.length < a.nodes.length := by
 rcases Nat.eq_zero_or_pos W.length with h0 | h0
 ·rw [h0] at hm; omega
 ·exact (Nat.div_lt_iff_lt_mul h0).2 hm
theorem prodE_in (hA : a.Ok) (hlp : lp < W.length) : ∀ r ∈ prodE a W lp, ∀ e ∈ r, isNd (a.nodes.length * W.length) e.op = true := by
 intro r hr e he
 obtain ⟨m, hm, rfl⟩ := List.mem_map.1 hr
 have hq := prod_idx (List.mem_range.1 hm)
 unfold prodR at he
 split at he
 ·obtain ⟨t, ht, rfl⟩ := List.mem_map.1 he
  obtain ⟨q', rfl, hq'⟩ := isNd_nat (hA.2 _ (aut_mem hq) t (List.mem_filter.1 ht).1)
  have := idx_lt hq' (nx_lt (i := m % W.length) hlp)
  rw [isNd_iff]
  dsimp only
  have e : (q' : Int) * (W.length : Int) + ((nx lp W.length (m % W.length) : Nat) : Int) = ((q' * W.length + nx lp W.length (m % W.length) : Nat) : Int) := by simp
  rw [e]; omega
 ·cases he
theorem prodE_row {KB : Nat} (hr : ∀ x ∈ a.nodes, x.to.length ≤ KB) : ∀ r ∈ prodE a W lp, r.length ≤ KB := by
 intro r hr'
 obtain ⟨m, hm, rfl⟩ := List.mem_map.1 hr'
 have hq := prod_idx (List.mem_range.1 hm)
 unfold prodR
 split
 ·rw [List.length_map]
  exact Nat.le_trans (List.length_filter_le _ _) (hr _ (aut_mem hq))
 ·simp
def ofN (N n : Nat) : List Nat := (List.range (N * n)).map (· / n)
theorem ofN_up (N n : Nat) : upT (N * n) (fun m => ((m / n : Nat) : Int)) 0 (N * n) = natI (ofN N n) := by rw [upT_full]; simp [natI, ofN]
theorem ofN_lt {N n : Nat} : ∀ x ∈ ofN N n, x < N := by
 intro x hx
 obtain ⟨m, hm, rfl⟩ := List.mem_map.1 hx
 rw [List.mem_range] at hm
 rcases Nat.eq_zero_or_pos n with h0 | h0
 ·rw [h0] at hm; omega
 ·exact (Nat.div_lt_iff_lt_mul h0).2 hm
theorem gfp_asks {z : List Bool} (h : Gfp (prodE a W lp) (asksL a (ofN a.nodes.length W.length)) z) : Gfp (prodE a W lp) (asksA a W.length) z := by
 refine gfp_congr (by simp [asksL, asksA]) (fun j p q hp hq k hk => ?_) h
 rw [prodE_len] at hk
 have hof : (ofN a.nodes.length W.length).getD k 0 = k / W.length := by simp [ofN, List.getD, hk]
 obtain ⟨hj, rfl⟩ := List.getElem?_eq_some_iff.1 hp
 obtain ⟨hj', rfl⟩ := List.getElem?_eq_some_iff.1 hq
 have e1 : (asksL a (ofN a.nodes.length W.length))[j] = askL a (ofN a.nodes.length W.length) ((j : Int) - 1) := by simp [asksL]
 rw [e1]
 unfold askL
 rw [hof]
 cases j with
 | zero => rfl
 | succ j =>
  have h1 : decide (((j + 1 : Nat) : Int) - 1 < 0) = false := decide_eq_false (by omega)
  have h2 : (((j + 1 : Nat) : Int) - 1).toNat = j := by omega
  have e2 : (asksA a W.length)[j + 1] = fun m => (a.at (m / W.length)).inn.testBit j := by simp [asksA]
  rw [h1, h2, Bool.false_or, e2]
def fromT (a : Aut) (W : List Nat) (l : List Int) : List Int := (l.filter (fun q => rdsB (a.at q.toNat) (W.getD 0 0))).map (· * (W.length : Int))
def takesB (a : Aut) (W : List Nat) (z : List Bool) : Bool := (fromT a W a.init).any (fun x => z.getD x.toNat false)
theorem fromT_snoc {i : Nat} {l : List Int} (hi : i < l.length) : fromT a W (l.take (i + 1)) = fromT a W (l.take i) ++ (if rdsB (a.at l[i].toNat) (W.getD 0 0) = true then [l[i] * (W.length : Int)] else []) := by
 unfold fromT
 rw [take_snoc l i hi, List.filter_append, List.map_append]
 congr 1
 rw [List.filter_cons, List.filter_nil]
 split <;> simp
theorem fromT_le {l : List Int} : (fromT a W l).length ≤ l.length := by
 unfold fromT
 rw [List.length_map]; exact List.length_filter_le _ _
theorem fromT_in (hA : a.Ok) (hW : 0 < W.length) : ∀ x ∈ fromT a W a.init, ∃ m : Nat, x = (m : Int) ∧ m < a.nodes.length * W.length := by
 intro x hx
 obtain ⟨q, hq, rfl⟩ := List.mem_map.1 hx
 obtain ⟨q', rfl, hq'⟩ := isNd_nat (hA.1 q (List.mem_filter.1 hq).1)
 exact ⟨q' * W.length, by simp, by have := idx_lt hq' hW; omega⟩
theorem takesB_iff (hA : a.Ok) {z : List Bool} : takesB a W z = true ↔ takesZ a W z := by
 unfold takesB fromT takesZ
 rw [List.any_eq_true]
 constructor
 ·rintro ⟨x, hx, hz⟩
  obtain ⟨q, hq, rfl⟩ := List.mem_map.1 hx
  obtain ⟨h1, h2⟩ := List.mem_filter.1 hq
  obtain ⟨q', rfl, _⟩ := isNd_nat (hA.1 q h1)
  rw [Int.toNat_natCast] at h2
  refine ⟨q', h1, h2, ?_⟩
  rwa [show ((q' : Int) * (W.length : Int)).toNat = q' * W.length from by rw [← Int.natCast_mul, Int.toNat_natCast]] at hz
 ·rintro ⟨q, h1, h2, h3⟩
  refine ⟨(q : Int) * (W.length : Int), List.mem_map.2 ⟨(q : Int), List.mem_filter.2 ⟨h1, by rw [Int.toNat_natCast]; exact h2⟩, rfl⟩, ?_⟩
  rwa [show ((q : Int) * (W.length : Int)).toNat = q * W.length from by rw [← Int.natCast_mul, Int.toNat_natCast]]
end
theorem chkNds_zero {N : Nat} {s : Int} : ∀ {l : List ANd}, chkNds N s l = 0 → ∀ x ∈ l, chkNd N s x = 0
 | [], _ => fun x hx => by cases hx
 | x :: r, h => by
  unfold chkNds at h
  split at h
  ·next h1 =>
   intro y hy
   rcases List.mem_cons.1 hy with rfl | hy
   ·exact h1
   ·exact chkNds_zero h y hy
  ·next h1 => exact absurd h h1
theorem chkA_of {a : Aut} (h : chkA a = 0) : a.nodes.length ≤ 256 ∧ 0 ≤ a.sets ∧ a.sets ≤ 16 ∧ a.Ok := by
 unfold chkA at h
 split at h
 ·simp at h
 ·split at h
  ·simp at h
  ·split at h
   ·next h1 h2 h3 =>
    refine ⟨by omega, by omega, by omega, fun i hi => List.all_eq_true.1 h3 i hi, fun x hx t ht => ?_⟩
    have := chkNds_zero h x hx
    unfold chkNd at this
    split at this
    ·next h4 => exact List.all_eq_true.1 h4 t ht
    ·simp at this
   ·simp at h
theorem mulI {x y : Nat} (hx : x ≤ 1000000) (hy : y ≤ 1000000) : IntKind.i64.wrap ((x : Int) * (y : Int)) = ((x * y : Nat) : Int) := by
 have h : x * y ≤ 1000000 * 1000000 := Nat.mul_le_mul hx hy
 rw [← Int.natCast_mul]
 generalize x * y = p at *
 rw [IntKind.wrap_i64]; omega
def TW (w0 : World) (r q ne : Nat) (R : List (List Nd)) (F : List Int) (wr : World) : Prop :=
 ∃ vs, Own2 wr w0.heap.size 65 63 2 (.slice (some ⟨r, 0, none⟩) ne ne) (R.map ncells) vs ∧ Below w0.heap.size w0 wr ∧ wr.ownsRow w0.heap.size 3 1 (.slice (some ⟨q, 0, none⟩) ne ne) ne (icells F)
theorem TW.below {w0 w w' : World} {r q ne : Nat} {R : List (List Nd)} {F : List Int} (h : TW w0 r q ne R F w) (hb : Below w.heap.size w w') : TW w0 r q ne R F w' := by
 obtain ⟨vs, h2, h5, h6⟩ := h
 exact ⟨vs, h2.below hb, h5.trans (hb.mono h5.size), own_below h6 hb⟩
theorem TW.bel {w0 w : World} {r q ne : Nat} {R : List (List Nd)} {F : List Int} (h : TW w0 r q ne R F w) : Below w0.heap.size w0 w := h.choose_spec.2.1
theorem TW.start {w0 : World} {ne : Nat} (hne : ne ≤ 1000000000) : TW w0 w0.heap.size (w0.heap.size + 1) ne (List.replicate ne []) (List.replicate ne 0) ((w0.alloc (.cells (madeCells #[.slice none 0 0] ne) 63)).alloc (.cells (madeCells #[.int .i64 0] ne) 3)) := by
 obtain ⟨vs, h2, h5⟩ := WRows.start (w0 := w0) hne
 have hb : Below (w0.alloc (.cells (madeCells #[.slice none 0 0] ne) 63)).heap.size (w0.alloc (.cells (madeCells #[.slice none 0 0] ne) 63)) ((w0.alloc (.cells (madeCells #[.slice none 0 0] ne) 63)).alloc (.cells (madeCells #[.int .i64 0] ne) 3)) := (Below.refl _ _).alloc (Nat.le_refl _) _
 refine ⟨vs, h2.below hb, h5.trans (hb.mono h5.size), ?_⟩
 have := own_made (w := w0.alloc (.cells (madeCells #[.slice none 0 0] ne) 63)) (base := w0.heap.size) (e := 3) (n := ne) (v := .int .i64 0) h5.size (by unfold maxLen; omega)
 rw [show (w0.alloc (.cells (madeCells #[.slice none 0 0] ne) 63)).heap.size = w0.heap.size + 1 by simp] at this
 simpa [icells] using this
theorem TW.put {w0 w : World} {r q ne t : Nat} {x : Int} {R : List (List Nd)} {F : List Int} (h : TW w0 r q ne R F w) (ht : t < ne) :
  (∃ y, w.cell? ⟨q, t, none⟩ = some (.int .i64 y)) ∧ w.frozen? ⟨q, t, none⟩ = false ∧ q < w.heap.size ∧ TW w0 r q ne R (F.set t x) (w.setCell ⟨q, t, none⟩ (.int .i64 x)) := by
 obtain ⟨vs, h2, h5, h6⟩ := h
 have hl : F.length = ne := by have := h6.1; simpa [icells] using this
 have s : Tch (fun k => k = q) w (w.setCell ⟨q, t, none⟩ (.int .i64 x)) := Tch.setCell (S := fun k => k = q) (p := ⟨q, t, none⟩) (Tch.refl _ w) (fun _ => rfl) _
 refine ⟨⟨F.getD t 0, ?_⟩, h6.frozenAt t, (h6.lt q rfl).2, vs, h2.tch s (fun g hg e => own_ne h2.main h6 (by decide) g hg (by rw [e]; rfl)) (fun j u g hu hg e => ?_), h5.setCell (p := ⟨q, t, none⟩) (h6.lt q rfl).1 _, ?_⟩
 ·rw [h6.cellAt t (by omega)]
  simp [icells, List.getD, hl, ht]
 ·have hj : j < (R.map ncells).length := by rw [← h2.len]; exact (List.getElem?_eq_some_iff.1 hu).1
  obtain ⟨u', n, hu', ho⟩ := h2.row j (R.map ncells)[j] (List.getElem?_eq_getElem hj)
  rw [hu] at hu'
  cases hu'
  exact own_ne ho h6 (by decide) g hg (by rw [e]; rfl)
 ·have := (h6.stored t (.int .i64 x)).1
  rw [icells, List.map_set]; exact this
theorem TW.grow {w0 w w1 w2 : World} {r q ne : Nat} {R : List (List Nd)} {F : List Int} {t n n' : Nat} {u u' : Value} {vs ys0 : List Value} {ys : List Nd} {o : Obj}
  (h2 : Own2 w w0.heap.size 65 63 2 (.slice (some ⟨r, 0, none⟩) ne ne) (R.map ncells) vs)
  (h5 : Below w0.heap.size w0 w) (h6 : w.ownsRow w0.heap.size 3 1 (.slice (some ⟨q, 0, none⟩) ne ne) ne (icells F)) (hw : w1 = w.alloc o) (hu : vs[t]? = some u) (huo : w.ownsRow w0.heap.size 65 2 u n ys0)
  (hown : w2.ownsRow w0.heap.size 65 2 u' n' (ncells ys)) (ht : Tch (fun k => u.ownBlock = some k) w1 w2) (hat : u'.ownBlock = u.ownBlock ∨ u'.ownBlock = some w1.heap.size) :
  w2.cell? ⟨r, t, none⟩ = some u ∧ w2.frozen? ⟨r, t, none⟩ = false ∧ (∀ b, b < w.heap.size → (∀ g, u.ownBlock = some g → g ≠ b) → ∀ o, w2.cell? ⟨b, o, none⟩ = w.cell? ⟨b, o, none⟩) ∧
   TW w0 r q ne (R.set t ys) F (w2.setCell ⟨r, t, none⟩ u') := by
 obtain ⟨e1, e2, e3, vs', g1, g2⟩ := WRows.grow h2 h5 hw hu huo hown ht hat
 refine ⟨e1, e2, e3, vs', g1, g2, ?_⟩
 subst hw
 have ht' : Tch (fun k => u.ownBlock = some k) w w2 := Tch.trans ((Tch.refl _ w).alloc _) ht (fun _ _ h => h)
 have s : Tch (fun k => k = r ∨ u.ownBlock = some k) w (w2.setCell ⟨r, t, none⟩ u') := Tch.setCell (S := fun k => k = r ∨ u.ownBlock = some k) (p := ⟨r, t, none⟩) (ht'.mono (fun _ _ h => .inr h)) (fun _ => .inl rfl) _
 refine own_tch h6 s (fun k hk hS => ?_)
 rcases hS with e | e
 ·exact own_ne h6 h2.main (by decide) k hk (by rw [e]; rfl)
 ·exact own_ne huo h6 (by decide) k e hk
theorem box2A {w : World} {b t : Nat} {p q : Value} (h : w.heap[b]? = some (.cells #[p, q] t (0, 0))) : w.cell? ⟨b, 0, none⟩ = some p ∧ w.cell? ⟨b, 1, none⟩ = some q := by
 refine ⟨?_, ?_⟩ <;> (rw [cell_of_row _ _ _ _ _ (0, 0) h]; rfl)
end Go.Proofs.YtiebpncpdbnelaaDoor
namespace Go.Proofs.YtiebpncpdbnelaaDoor
open Go.RowKit Go.Shelf
attribute [local go_sem] Oper.semAt_some
theorem rowS_own {β : Type} (base : Nat) (e : TypeId) (size : Nat) (u : Value) (n : Nat) (f : β → List Value) (B : Nat) : OwnFrom B (fun (s : β) W => W.ownsRow base e size u n (f s)) :=
 fun s X Y row h hg hr => row_own base e size u n (f s) B () X Y row h hg hr
theorem infoB8 : (Tryd.prog.info? 4).map (fun i => (i.zero, i.size, i.bytes)) = some (some (.bool false), 1, 1) := by kernel_rfl
def goalP (n : Nat) (pre : List (List Nat)) : List Bool := (pre.flatten).foldl (fun r x => r.set x true) (List.replicate n false)
theorem goalP_snoc (n : Nat) (pre : List (List Nat)) (x : List Nat) : goalP n (pre ++ [x]) = x.foldl (fun r x => r.set x true) (goalP n pre) := by
 unfold goalP
 rw [List.flatten_append, List.foldl_append]
 simp
theorem goalP_len (n : Nat) (pre : List (List Nat)) : (goalP n pre).length = n := by
 unfold goalP
 have key : ∀ (l : List Nat) (r : List Bool), (l.foldl (fun r x => r.set x true) r).length = r.length := by
  intro l
  induction l with
  | nil => intro r; rfl
  | cons x l ih => intro r; rw [List.foldl_cons, ih, List.length_set]
 rw [key, List.length_replicate]
set_option maxHeartbeats 4000000 in
set_option maxRecDepth 100000 in
theorem lasting_in (m : Nat) (hm : 3 ≤ m) (I : List Int) (E : List (List Nd)) (L ins : List Nat) (s : Nat) (ai : Option Addr) (ni ci : Nat) (ae : Option Addr) (ne ce : Nat) (al : Option Addr) (nl cl : Nat) (ac : Option Addr) (nc cc : Nat) (B : Nat) (w : World)
  (h : PlayRd w B ai ni ci ae ne ce al nl cl ac nc cc I E L ins) (hB : B ≤ w.heap.size) (hEn : ∀ r ∈ E, ∀ e ∈ r, isNd E.length e.op = true) (hN : ne ≤ 65536) (KE : Nat) (hr : ∀ r ∈ E, r.length ≤ KE) (hKE : ne * KE ≤ 1000000000) (hK2 : KE ≤ 1000000) (hil : ins.length = E.length) (h64 : ∀ x, ins.getD x 0 < 2 ^ 64) (hs : s ≤ 16)
  (hi : ni ≤ 1000000000) (hl : nl ≤ 17592186044416) :
  CallsIn Fence.wide m Tryd.prog 60 #[.agg #[.slice ai ni ci, .slice ae ne ce, .slice al nl cl, .slice ac nc cc, .int .u64 (allB s : Int)]] w (NewRow w 4 1 ne (bcells (lastR E ins s)) False) := by
 have h1m : 1 ≤ m := by omega
 have HNE := Lib.hid h.ene
 have HNC := Lib.hid h.enc
 have hcc := h.i.cap
 have hmc := h.i.max
 unfold maxLen at hmc
 have hnce : nc = ne := by rw [HNC.out, HNE.out, hil]
 subst hnce
 have hmk := run_make_row' (P := Tryd.prog) 54 4 (.bool false) 1 Tryd.underlying54 infoB8 rfl .i64 .i64 nc (by omega) (by omega)
 have hmk2 := fun X => playGood_any (.slice ai ni ci) (.slice ae nc ce) (.slice al nl cl) (.slice ac nc cc) (.int .u64 (allB s : Int)) X
 have HG := Lib.hid hmk2
 have HR := Lib.hid h
 have HIL := Lib.hid hil
 clear h hmk2 hil
 refine callsIn_of_wp_marks Tryd.func60 rfl trivial ?_ rfl
 simp only [Tryd.ntmps60, List.size_toArray, List.length_cons, List.length_nil, Nat.reduceAdd, Nat.reduceSub, Array.replicate_succ, Array.replicate_zero, List.push_toArray, List.append_toArray, List.nil_append, List.cons_append]
 gi_wp2_with (refine ⟨trivial, ?_⟩; gi_at_call 67; refine (callsIn_wide.2 (HG.out _)).mono ?_; rintro e w' ⟨rfl, rfl⟩)
 obtain ⟨W0, hW0⟩ : ∃ W0, (((w.alloc (.cells #[.slice ai ni ci, .slice ae nc ce, .slice al nl cl, .slice ac nc cc, .int .u64 (allB s : Int)] 74)).alloc (.cells (madeCells #[.bool false] nc) 4)).alloc (.cells #[.slice (some ⟨w.heap.size + 1, 0, none⟩) nc nc] 54)).alloc (.cells #[.slice ai ni ci, .slice ae nc ce, .slice al nl cl, .slice ac nc cc, .int .u64 (allB s : Int)] 74) = W0 := ⟨_, rfl⟩
 have hz0 : W0.heap.size = w.heap.size + 4 := by rw [← hW0]; simp
 have hb0 : Below w.heap.size w W0 := by rw [← hW0]; exact ((((Below.refl _ w).alloc (Nat.le_refl _) _).alloc (by simp) _).alloc (by simp; omega) _).alloc (by simp; omega) _
 have hrow0 : W0.ownsRow w.heap.size 4 1 (.slice (some ⟨w.heap.size + 1, 0, none⟩) nc nc) nc (bcells (List.replicate nc false)) := by
  have h1 := own_made (w := w.alloc (.cells #[.slice ai ni ci, .slice ae nc ce, .slice al nl cl, .slice ac nc cc, .int .u64 (allB s : Int)] 74)) (base := w.heap.size) (e := 4) (v := .bool false) (n := nc) (by simp) (by unfold maxLen; omega)
  rw [World.size_alloc] at h1
  have h2 := (h1.alloc (.cells #[.slice (some ⟨w.heap.size + 1, 0, none⟩) nc nc] 54)).alloc (.cells #[.slice ai ni ci, .slice ae nc ce, .slice al nl cl, .slice ac nc cc, .int .u64 (allB s : Int)] 74)
  rw [hW0] at h2
  rw [bcells, List.map_replicate]
  exact h2
 have hbx : Boxed W0 (w.heap.size + 1 + 1) 54 (.slice (some ⟨w.heap.size + 1, 0, none⟩) nc nc) := by
  rw [← hW0]
  have := (Boxed.new ((w.alloc (.cells #[.slice ai ni ci, .slice ae nc ce, .slice al nl cl, .slice ac nc cc, .int .u64 (allB s : Int)] 74)).alloc (.cells (madeCells #[.bool false] nc) 4)) 54 (.slice (some ⟨w.heap.size + 1, 0, none⟩) nc nc)).alloc (.cells #[.slice ai ni ci, .slice ae nc ce, .slice al nl cl, .slice ac nc cc, .int .u64 (allB s : Int)] 74)
  simpa only [World.size_alloc] using this
 have hp1 : W0.heap[w.heap.size]? = some (.cells #[.slice ai ni ci, .slice ae nc ce, .slice al nl cl, .slice ac nc cc, .int .u64 (allB s : Int)] 74 (0, 0)) := by
  rw [← hW0]
  rw [Below.heap_alloc _ _ _ (by simp; omega), Below.heap_alloc _ _ _ (by simp; omega), Below.heap_alloc _ _ _ (by simp)]
  exact heap_alloc_new w _
 have hp2 : W0.heap[w.heap.size + 1 + 1 + 1]? = some (.cells #[.slice ai ni ci, .slice ae nc ce, .slice al nl cl, .slice ac nc cc, .int .u64 (allB s : Int)] 74 (0, 0)) := by
  rw [← hW0]
  have := heap_alloc_new (((w.alloc (.cells #[.slice ai ni ci, .slice ae nc ce, .slice al nl cl, .slice ac nc cc, .int .u64 (allB s : Int)] 74)).alloc (.cells (madeCells #[.bool false] nc) 4)).alloc (.cells #[.slice (some ⟨w.heap.size + 1, 0, none⟩) nc nc] 54)) (.cells #[.slice ai ni ci, .slice ae nc ce, .slice al nl cl, .slice ac nc cc, .int .u64 (allB s : Int)] 74)
  simpa only [World.size_alloc] using this
 have HR0 := Lib.hid (HR.out.below hb0 hB)
 have HB0 := Lib.hid hb0
 rw [hW0]
 clear hW0 hmk hb0
 have hM0 : ∀ k, (fun k => k = w.heap.size + 1) k → k < W0.heap.size := fun k e => by have e : k = w.heap.size + 1 := e; omega
 refine wpIn_rangeFunc_R rfl h1m (gf := 96) (lb := #[.pointer (some ⟨w.heap.size + 1 + 1 + 1, 0, none⟩)]) rfl trivial (enters_of Tryd.func96 (by kernel_rfl) rfl)
  (good_T (m - 1) (by omega) E ins s (.slice ai ni ci) (.slice al nl cl) ae nc ce ac nc cc (w.heap.size + 1 + 1 + 1) B (fun k => k = w.heap.size + 1) W0 hM0 (fun k e => by have e : k = w.heap.size + 1 := e; omega) hp2 (fun e => by omega) HR0.out.g.he HR0.out.i (by omega) hEn (by omega) (fun r h => by have := hr r h; omega) HIL.out h64 hs)
  hM0 (fun x N args W hx => by obtain ⟨u, rfl, _⟩ := hx; rfl) (fun x N N' args W hN hx => hx.mono hN)
  (fun (s : List (List Nat) × (Nat → Prop)) V => V.ownsRow w.heap.size 4 1 (.slice (some ⟨w.heap.size + 1, 0, none⟩) nc nc) nc (bcells (goalP nc s.1)) ∧ (Rnd (fun k => k = w.heap.size + 1) W0 s.2 V ∧ s.2 (w.heap.size + 1)))
  (fun c s V => False)
  (OwnFrom.and (rowS_own _ _ _ _ _ (fun s : List (List Nat) × (Nat → Prop) => bcells (goalP nc s.1)) _) (OwnFrom.and (ownFrom_rnd (Nat.le_refl _) (fun s : List (List Nat) × (Nat → Prop) => s.2)) (ownFrom_pure _ _)))
  (fun c _ _ _ _ h _ _ => h)
  ⟨hrow0, Rnd.refl hM0, rfl⟩
  (fun (x : List Nat) a' V => ∃ Au cu, a' = { tmps := #[.agg #[.slice ai ni ci, .slice ae nc ce, .slice al nl cl, .slice ac nc cc, .int .u64 (allB s : Int)], .pointer (some ⟨w.heap.size, 0, none⟩), .slice none 0 0, .pointer (some ⟨w.heap.size + 1 + 1, 0, none⟩), .slice Au x.length cu, undef, undef, .pointer (some ⟨w.heap.size, 3, none⟩), .slice ac nc cc, .int .i64 (nc : Int), .slice (some ⟨w.heap.size + 1, 0, none⟩) nc nc, .agg #[.slice ai ni ci, .slice ae nc ce, .slice al nl cl, .slice ac nc cc, .int .u64 (allB s : Int)], .func (.func 96) #[] #[.pointer (some ⟨w.heap.size + 1 + 1 + 1, 0, none⟩)], .slice Au x.length cu, undef, undef, undef, undef, undef, undef, undef, undef, undef, undef, undef, undef, undef, undef], defers := [] } ∧ V.ownsRow 0 3 1 (.slice Au x.length cu) x.length (icells (natI x)) ∧ ∀ g, (Value.slice Au x.length cu).ownBlock = some g → g ≠ w.heap.size + 1)
  (fun x a' s X Y row hx hg hrr => by
   obtain ⟨Au, cu, h1, h2, h3⟩ := hx
   exact ⟨Au, cu, h1, row_own _ _ _ _ _ _ _ () X Y row h2 hg hrr, h3⟩) ?assign ?body ?done ?stop
 case assign =>
  intro l2 pre x N1 args V K hi hx hlen hK
  obtain ⟨u, rfl, hu, hNu⟩ := hx
  obtain ⟨Au, cu, rfl, -⟩ := own_sl hu
  gi_wp2
  exact hK _ _ (Tch.refl _ _) hi ⟨Au, cu, rfl, hu, fun g hg e => hNu g hg (e ▸ hi.2.2)⟩
 case body =>
  rintro l2 pre x N1 a2 V hl2 hNl _ hNV ⟨hrow, hrnd, hN1⟩ ⟨Au, cu, rfl, hu, hug⟩ hlen
  dsimp only at hrow hrnd hN1
  have HROW := Lib.hid hrow
  have HRND := Lib.hid hrnd
  have HU := Lib.hid hu
  have HUG := Lib.hid hug
  obtain ⟨np, hnp⟩ : ∃ k, x.length = k := ⟨_, rfl⟩
  have HNP := Lib.hid hnp
  have hxm : x ∈ goodL E ins s := by
   obtain ⟨t, ht⟩ := hlen
   rw [← ht]; simp
  have hxp : x ∈ scParts (ofC E) := (List.mem_filter.1 hxm).1
  have HXL := Lib.hid (part_lt hxp)
  have hnpn : np ≤ nc := by have := part_len hxp; have := HNE.out; omega
  rw [hnp] at HU HUG
  have hbV : V.cell? ⟨w.heap.size + 1 + 1, 0, none⟩ = some (.slice (some ⟨w.heap.size + 1, 0, none⟩) nc nc) := (boxed_tch hbx hrnd.tch (fun e => by have e : w.heap.size + 1 + 1 = w.heap.size + 1 := e; omega)).cell
  have HBV := Lib.hid hbV
  have hrnds : w.heap.size + 4 ≤ V.heap.size := by have := hrnd.tch.size; omega
  clear hrow hrnd hu hug hxm hxp hlen hbV
  rw [hnp]
  clear hnp
  gi_wp2
  gi_loopw [16] (fun i V' => ∃ q : Nat, q ≤ np ∧ i = .int .i64 (q : Int) ∧ Hid (V'.ownsRow w.heap.size 4 1 (.slice (some ⟨w.heap.size + 1, 0, none⟩) nc nc) nc (bcells ((x.take q).foldl (fun r y => r.set y true) (goalP nc pre)))) ∧ Hid (Tch (fun k => k = w.heap.size + 1) V V')) (fun i _ => np - (intOf i).toNat)
  case atStart => exact ⟨0, by omega, rfl, HROW, Lib.hid (Tch.refl _ _)⟩
  case round =>
   obtain ⟨q, hq, rfl, HRQ, HTQ⟩ := hrel
   have hzV := HTQ.out.size
   by_cases hql : q < np
   ·have wq : IntKind.i64.wrap ((q : Int) + 1) = (q : Int) + 1 := by rw [IntKind.wrap_i64]; omega
    have hq0 : (0 : Int) ≤ (q : Int) := by omega
    have hq1 : (q : Int) < (np : Int) := by omega
    have hqP : q < x.length := by rw [HNP.out]; exact hql
    have hUq : wr.ownsRow 0 3 1 (.slice Au np cu) np (icells (natI x)) := own_tch HU.out HTQ.out (fun g hg e => HUG.out g hg e)
    obtain ⟨A', c', hf, hsu⟩ := own_sl hUq
    cases hf
    obtain ⟨b1, o1, hA1, hb1, hcl⟩ := hsu.rd.at_ (nat_at hqP)
    have hcu := hsu.cap
    have hmu := hsu.max
    unfold maxLen at hmu
    subst hA1
    obtain ⟨y, hy⟩ : ∃ y, x.getD q 0 = y := ⟨_, rfl⟩
    have hye : x[q] = y := by rw [← hy, List.getD_eq_getElem?_getD, List.getElem?_eq_getElem hqP]; rfl
    have hyN : y < nc := by have := HXL.out y (by rw [← hye]; exact List.getElem_mem hqP); have := HNE.out; omega
    have hy0 : (0 : Int) ≤ (y : Int) := by omega
    have hy1 : (y : Int) < (nc : Int) := by omega
    have HSN : Hid ((x.take (q + 1)).foldl (fun r y => r.set y true) (goalP nc pre) = ((x.take q).foldl (fun r y => r.set y true) (goalP nc pre)).set y true) := Lib.hid (by rw [take_snoc x q hqP, hye, List.foldl_append]; rfl)
    have hgb := own_getB HRQ.out hyN
    have hf0 := hgb.1
    have hf1 := hgb.2.1
    have hgl := hgb.2.2.1
    have hbW : wr.cell? ⟨w.heap.size + 1 + 1, 0, none⟩ = some (.slice (some ⟨w.heap.size + 1, 0, none⟩) nc nc) := (HTQ.out.cell (p := ⟨w.heap.size + 1 + 1, 0, none⟩) (show w.heap.size + 1 + 1 < V.heap.size by have := hrnds; omega) (fun e => by have e : w.heap.size + 1 + 1 = w.heap.size + 1 := e; omega)).trans HBV.out
    rw [hy] at hcl
    clear hy hye hsu hUq hgb
    gi_wp2
    go_roundw
    case rel => exact ⟨q + 1, by omega, congrArg (Value.int .i64) (by omega), Lib.hid (by rw [HSN.out]; exact own_setB HRQ.out), Lib.hid (HTQ.out.setCell (p := ⟨w.heap.size + 1, y, none⟩) (fun _ => rfl) _)⟩
    case measure => simp [intOf]; omega
   ·have hqe : q = np := by omega
    subst hqe
    have HTK : Hid (x.take q = x) := Lib.hid (List.take_of_length_le (by rw [HNP.out]; exact Nat.le_refl _))
    gi_wp2
    have hT1 : Tch N1 V wr := HTQ.out.wide (fun k e => by have e : k = w.heap.size + 1 := e; rw [e]; exact hN1)
    refine ⟨N1, Rnd.of_tch hT1 hNV, ?_, HRND.out.tch_right hT1, hN1⟩
    rw [goalP_snoc]
    have := HRQ.out
    rwa [HTK.out] at this
 case done =>
  rintro D N1 V hD hDN ⟨hrow, hrnd, hN1⟩ hDv
  dsimp only at hrow hrnd hN1
  have hzV := hrnd.tch.size
  have hDl : D < V.heap.size := (Array.getElem?_eq_some_iff.1 hDv).1
  have hbV : V.cell? ⟨w.heap.size + 1 + 1, 0, none⟩ = some (.slice (some ⟨w.heap.size + 1, 0, none⟩) nc nc) := (boxed_tch hbx hrnd.tch (fun e => by have e : w.heap.size + 1 + 1 = w.heap.size + 1 := e; omega)).cell
  have hpV : V.heap[w.heap.size]? = some _ := (hrnd.tch.block w.heap.size (by omega) (fun e => by have e : w.heap.size = w.heap.size + 1 := e; omega)).trans hp1
  have c0 : V.cell? ⟨w.heap.size, 0, none⟩ = some (.slice ai ni ci) := by rw [cell_of_row _ _ _ _ _ (0, 0) hpV]; rfl
  have c1 : V.cell? ⟨w.heap.size, 1, none⟩ = some (.slice ae nc ce) := by rw [cell_of_row _ _ _ _ _ (0, 0) hpV]; rfl
  have c2 : V.cell? ⟨w.heap.size, 2, none⟩ = some (.slice al nl cl) := by rw [cell_of_row _ _ _ _ _ (0, 0) hpV]; rfl
  have hMB : ∀ k, (fun k => k = w.heap.size + 1) k → w.heap.size ≤ k := fun k e => by have e : k = w.heap.size + 1 := e; omega
  have HBV := Lib.hid (rnd_below hrnd (show w.heap.size ≤ W0.heap.size by omega) hMB)
  have hGV := (HR0.out.below HBV.out hB).g
  obtain ⟨A8, c8, hf8, hSV⟩ := own_sl hrow
  cases hf8
  have HBK := Lib.hid (backP_any ai ae al ni ci nc ce nl cl ⟨I, E, L.map (fun (x : Nat) => (x : Int))⟩ (goalP nc (goodL E ins s)) (some ⟨w.heap.size + 1, 0, none⟩) nc nc V V.heap.size (hGV.up (by omega)) hSV (by rw [goalP_len]) (Nat.le_refl _) hi (by omega) hl (by omega) KE hr hKE (by omega))
  clear hSV hGV hpV
  gi_wp2_with (refine ⟨trivial, ?_⟩; gi_at_call 89; refine (callsIn_wide.2 HBK.out).mono ?_; rintro e V2 ⟨v, rfl, hv, hbv, hnil⟩; obtain ⟨Av, cv, rfl, -⟩ := own_sl hv; have HDV := Lib.hid ((hbv.block D hDl).trans hDv); have HV := Lib.hid hv; have HBV2 := Lib.hid hbv; have HNIL := Lib.hid hnil; clear hv hbv hnil)
  refine ⟨by simp, .inl ⟨_, _, rfl, run_takeDeferred HDV.out, ?_⟩⟩
  have hlast : (backG nc E (goalP nc (goodL E ins s))).map Value.bool = bcells (lastR E ins s) := by
   rw [HNE.out]; rfl
  have hv2 := own_base HV.out (show w.heap.size ≤ V.heap.size by omega)
  rw [hlast] at hv2
  exact ⟨_, results_tmp rfl _ _ _, .slice Av nc cv, rfl, ownsRow_putObj hv2 (.deferred none) HDV.out rfl, ((HB0.out.trans HBV.out).trans (HBV2.out.mono (show w.heap.size ≤ V.heap.size by omega))).trans (belowK_b (w := w) (Nat.le_refl _) V2 D _ _ (by omega) HDV.out rfl rfl), HNIL.out⟩
 case stop => exact fun _ _ _ _ _ _ _ _ h => h.elim
theorem lasting_any (I : List Int) (E : List (List Nd)) (L ins : List Nat) (s : Nat) (ai : Option Addr) (ni ci : Nat) (ae : Option Addr) (ne ce : Nat) (al : Option Addr) (nl cl : Nat) (ac : Option Addr) (nc cc : Nat) (B : Nat) (w : World)
  (h : PlayRd w B ai ni ci ae ne ce al nl cl ac nc cc I E L ins) (hB : B ≤ w.heap.size) (hEn : ∀ r ∈ E, ∀ e ∈ r, isNd E.length e.op = true) (hN : ne ≤ 65536) (KE : Nat) (hr : ∀ r ∈ E, r.length ≤ KE) (hKE : ne * KE ≤ 1000000000) (hK2 : KE ≤ 1000000) (hil : ins.length = E.length) (h64 : ∀ x, ins.getD x 0 < 2 ^ 64) (hs : s ≤ 16)
  (hi : ni ≤ 1000000000) (hl : nl ≤ 17592186044416) :
  Calls Tryd.prog 60 #[.agg #[.slice ai ni ci, .slice ae ne ce, .slice al nl cl, .slice ac nc cc, .int .u64 (allB s : Int)]] w (NewRow w 4 1 ne (bcells (lastR E ins s)) False) :=
 (callsIn_wide (n := 3)).1 (lasting_in 3 (Nat.le_refl _) I E L ins s ai ni ci ae ne ce al nl cl ac nc cc B w h hB hEn hN KE hr hKE hK2 hil h64 hs hi hl)
end Go.Proofs.YtiebpncpdbnelaaDoor
