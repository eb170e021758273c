/- What a search for strongly connected parts holds in memory. -/
import Derived.Test.YtiebpncpdbnelaaGreatDoorScP
import Derived.Test.YtiebpncpdbnelaaGreatDoorZao
namespace Go.Proofs.YtiebpncpdbnelaaGreatDoor
open Go.RowKit
structure ScM (X : Nat) (xo : Obj) (base b : Nat) (EA : Value) (N qn ql qx qi qp : Nat) (vs vw : Value) (s : Sc) (w : World) : Prop where
 blk : w.1[b]? = some (.cells #[EA, .slice (some ⟨qn, 0, none⟩) N N, .slice (some ⟨ql, 0, none⟩) N N, .slice (some ⟨qx, 0, none⟩) N N, vs, vw, .slice (some ⟨qi, 0, none⟩) N N, .slice (some ⟨qp, 0, none⟩) N N, .int .i64 (s.cnt : Int)] 126 (0, 0))
 num : w.ownsRow base 3 1 (.slice (some ⟨qn, 0, none⟩) N N) N (icells (natI s.num))
 low : w.ownsRow base 3 1 (.slice (some ⟨ql, 0, none⟩) N N) N (icells (natI s.low))
 nxt : w.ownsRow base 3 1 (.slice (some ⟨qx, 0, none⟩) N N) N (icells (natI s.nxt))
 prt : w.ownsRow base 3 1 (.slice (some ⟨qp, 0, none⟩) N N) N (icells (natI s.prt))
 inn : w.ownsRow base 4 1 (.slice (some ⟨qi, 0, none⟩) N N) N (bcells s.inn)
 stk : w.ownsRow base 3 1 vs s.stk.length (icells (natI s.stk))
 way : w.ownsRow base 3 1 vw s.way.length (icells (natI s.way))
 bb : base ≤ b
 d : qn ≠ ql ∧ qn ≠ qx ∧ qn ≠ qp ∧ ql ≠ qx ∧ ql ≠ qp ∧ qx ≠ qp
 ds : ∀ g, vs.ownBlock = some g → g ≠ qn ∧ g ≠ ql ∧ g ≠ qx ∧ g ≠ qp
 dw : ∀ g, vw.ownBlock = some g → g ≠ qn ∧ g ≠ ql ∧ g ≠ qx ∧ g ≠ qp ∧ vs.ownBlock ≠ some g
 xo : w.1[X]? = some xo
 xd : X ≠ b ∧ X ≠ qn ∧ X ≠ ql ∧ X ≠ qx ∧ X ≠ qi ∧ X ≠ qp ∧ vs.ownBlock ≠ some X ∧ vw.ownBlock ≠ some X
theorem natI_getD (l : List Nat) (k : Nat) : (natI l).getD k 0 = ((l.getD k 0 : Nat) : Int) := by
 unfold natI
 by_cases h : k < l.length
 ·simp [List.getD, h]
 ·simp [List.getD, List.getElem?_eq_none (by omega : l.length ≤ k)]
theorem natI_set (l : List Nat) (k v : Nat) : natI (l.set k v) = (natI l).set k (v : Int) := by simp [natI, List.map_set]
section
variable {X : Nat} {xo : Obj} {base b : Nat} {EA : Value} {N qn ql qx qi qp : Nat} {vs vw : Value} {s : Sc} {w w' : World}
theorem own_nat {q : Nat} {l : List Nat} (h : w.ownsRow base 3 1 (.slice (some ⟨q, 0, none⟩) N N) N (icells (natI l))) : l.length = N := by have := h.1; simpa [icells, natI] using this
theorem own_getn {q k : Nat} {l : List Nat} (h : w.ownsRow base 3 1 (.slice (some ⟨q, 0, none⟩) N N) N (icells (natI l))) (hk : k < N) : w.cell? ⟨q, k, none⟩ = some (.int .i64 ((l.getD k 0 : Nat) : Int)) ∧ w.frozen? ⟨q, k, none⟩ = false ∧ q < w.1.size := by
 obtain ⟨h1, h2, h3, _⟩ := own_geti h hk
 rw [natI_getD] at h1
 exact ⟨h1, h2, h3⟩
theorem own_setn {q k v : Nat} {l : List Nat} (h : w.ownsRow base 3 1 (.slice (some ⟨q, 0, none⟩) N N) N (icells (natI l))) : (w.setCell ⟨q, k, none⟩ (.int .i64 (v : Int))).ownsRow base 3 1 (.slice (some ⟨q, 0, none⟩) N N) N (icells (natI (l.set k v))) := by
 rw [natI_set]; exact own_seti h
theorem ScM.far (h : ScM X xo base b EA N qn ql qx qi qp vs vw s w) : qn ≠ b ∧ ql ≠ b ∧ qx ≠ b ∧ qp ≠ b ∧ qi ≠ b ∧ vs.ownBlock ≠ some b ∧ vw.ownBlock ≠ some b ∧ b < w.1.size := by
 have key : ∀ {q : Nat} {e : TypeId} {xs : List Value}, w.ownsRow base e 1 (.slice (some ⟨q, 0, none⟩) N N) N xs → e ≠ 126 → q ≠ b := fun ho hne e => own_ne_blk ho h.blk hne (by rw [e]; rfl)
 exact ⟨key h.num (by decide), key h.low (by decide), key h.nxt (by decide), key h.prt (by decide), key h.inn (by decide), own_ne_blk h.stk h.blk (by decide), own_ne_blk h.way h.blk (by decide), (aI.1 h.blk).1⟩
theorem ScM.fari (h : ScM X xo base b EA N qn ql qx qi qp vs vw s w) : qi ≠ qn ∧ qi ≠ ql ∧ qi ≠ qx ∧ qi ≠ qp ∧ vs.ownBlock ≠ some qi ∧ vw.ownBlock ≠ some qi := by
 have key : ∀ {q : Nat} {xs : List Value}, w.ownsRow base 3 1 (.slice (some ⟨q, 0, none⟩) N N) N xs → qi ≠ q := fun ho e => own_ne h.inn ho (by decide) qi rfl (by rw [e]; rfl)
 exact ⟨key h.num, key h.low, key h.nxt, key h.prt, fun e => own_ne h.stk h.inn (by decide) qi e rfl, fun e => own_ne h.way h.inn (by decide) qi e rfl⟩
theorem ScM.cells (h : ScM X xo base b EA N qn ql qx qi qp vs vw s w) : w.cell? ⟨b, 0, none⟩ = some EA ∧ w.cell? ⟨b, 1, none⟩ = some (.slice (some ⟨qn, 0, none⟩) N N) ∧ w.cell? ⟨b, 2, none⟩ = some (.slice (some ⟨ql, 0, none⟩) N N) ∧ w.cell? ⟨b, 3, none⟩ = some (.slice (some ⟨qx, 0, none⟩) N N) ∧ w.cell? ⟨b, 4, none⟩ = some vs ∧ w.cell? ⟨b, 5, none⟩ = some vw ∧ w.cell? ⟨b, 6, none⟩ = some (.slice (some ⟨qi, 0, none⟩) N N) ∧ w.cell? ⟨b, 7, none⟩ = some (.slice (some ⟨qp, 0, none⟩) N N) ∧ w.cell? ⟨b, 8, none⟩ = some (.int .i64 (s.cnt : Int)) := by
 refine ⟨?_, ?_, ?_, ?_, ?_, ?_, ?_, ?_, ?_⟩ <;> (rw [cell_of_row _ _ _ _ _ (0, 0) h.blk]; rfl)
theorem ScM.soft (h : ScM X xo base b EA N qn ql qx qi qp vs vw s w) (o : Nat) : w.frozen? ⟨b, o, none⟩ = false := frozen_of_row w b o _ _ h.blk
theorem ScM.swap (h : ScM X xo base b EA N qn ql qx qi qp vs vw s w) {X' : Nat} {xo' : Obj} (hx : w.1[X']? = some xo') (hX : X' < base) : ScM X' xo' base b EA N qn ql qx qi qp vs vw s w := by
 have k1 : base ≤ qn := (h.num.lt qn rfl).1
 have k2 : base ≤ ql := (h.low.lt ql rfl).1
 have k3 : base ≤ qx := (h.nxt.lt qx rfl).1
 have k4 : base ≤ qi := (h.inn.lt qi rfl).1
 have k5 : base ≤ qp := (h.prt.lt qp rfl).1
 have k6 := h.bb
 exact { h with xo := hx, xd := ⟨by omega, by omega, by omega, by omega, by omega, by omega, fun e => by have := (h.stk.lt _ e).1; omega, fun e => by have := (h.way.lt _ e).1; omega⟩ }
theorem ScM.fresh (h : ScM X xo base b EA N qn ql qx qi qp vs vw s w) (o : Obj) : ScM w.1.size o base b EA N qn ql qx qi qp vs vw s (w.alloc o) := by
 have k1 : qn < w.1.size := (h.num.lt qn rfl).2
 have k2 : ql < w.1.size := (h.low.lt ql rfl).2
 have k3 : qx < w.1.size := (h.nxt.lt qx rfl).2
 have k4 : qi < w.1.size := (h.inn.lt qi rfl).2
 have k5 : qp < w.1.size := (h.prt.lt qp rfl).2
 have k6 := h.far.2.2.2.2.2.2.2
 have h' : ScM X xo base b EA N qn ql qx qi qp vs vw s (w.alloc o) := by
  have key : ∀ {e : TypeId} {v : Value} {n : Nat} {xs : List Value}, w.ownsRow base e 1 v n xs → (w.alloc o).ownsRow base e 1 v n xs := fun ho => own_al ho
  exact ⟨heap_old k6 h.blk, key h.num, key h.low, key h.nxt, key h.prt, key h.inn, key h.stk, key h.way, h.bb, h.d, h.ds, h.dw, heap_old (aI.1 h.xo).1 h.xo, h.xd⟩
 exact { h' with xo := heap_alloc_new w o, xd := ⟨by omega, by omega, by omega, by omega, by omega, by omega, fun e => by have := (h.stk.lt _ e).2; omega, fun e => by have := (h.way.lt _ e).2; omega⟩ }
theorem ScM.tch (h : ScM X xo base b EA N qn ql qx qi qp vs vw s w) {S : Nat → Prop} (ht : Tch S w w') (hS : ∀ k, k < w.1.size → ¬ S k) : ScM X xo base b EA N qn ql qx qi qp vs vw s w' := by
 have key : ∀ {e : TypeId} {v : Value} {n : Nat} {xs : List Value}, w.ownsRow base e 1 v n xs → w'.ownsRow base e 1 v n xs := fun ho => own_tch ho ht (fun g hg => hS g (ho.lt g hg).2)
 exact ⟨ht.blk h.blk (hS b h.far.2.2.2.2.2.2.2), key h.num, key h.low, key h.nxt, key h.prt, key h.inn, key h.stk, key h.way, h.bb, h.d, h.ds, h.dw, ht.blk h.xo (hS X (aI.1 h.xo).1), h.xd⟩
theorem ScM.set_num (h : ScM X xo base b EA N qn ql qx qi qp vs vw s w) (k v : Nat) {x : Int} (hx : x = (v : Int)) : ScM X xo base b EA N qn ql qx qi qp vs vw { s with num := s.num.set k v } (w.setCell ⟨qn, k, none⟩ (.int .i64 x)) := by
 subst hx
 have ht := tch_cell (w := w) qn k (.int .i64 (v : Int))
 obtain ⟨f1, f2, f3, f4, f5, f6, f7, f8⟩ := h.far
 obtain ⟨g1, g2, g3, g4, g5, g6⟩ := h.fari
 obtain ⟨d1, d2, d3, d4, d5, d6⟩ := h.d
 have hv : ∀ {e : TypeId} {q : Nat} {xs : List Value}, w.ownsRow base e 1 (.slice (some ⟨q, 0, none⟩) N N) N xs → q ≠ qn → (w.setCell ⟨qn, k, none⟩ (.int .i64 (v : Int))).ownsRow base e 1 (.slice (some ⟨q, 0, none⟩) N N) N xs :=
  fun ho hne => own_tch ho ht (fun g hg e => by simp [Value.ownBlock] at hg; omega)
 exact ⟨ht.blk h.blk (fun e => by omega), own_setn h.num, hv h.low (by omega), hv h.nxt (by omega), hv h.prt (by omega), hv h.inn (by omega), own_tch h.stk ht (fun g hg e => by have := h.ds g hg; omega), own_tch h.way ht (fun g hg e => by have := h.dw g hg; omega), h.bb, h.d, h.ds, h.dw, ht.blk h.xo (fun e => by have := h.xd; omega), h.xd⟩
theorem ScM.set_low (h : ScM X xo base b EA N qn ql qx qi qp vs vw s w) (k v : Nat) {x : Int} (hx : x = (v : Int)) : ScM X xo base b EA N qn ql qx qi qp vs vw { s with low := s.low.set k v } (w.setCell ⟨ql, k, none⟩ (.int .i64 x)) := by
 subst hx
 have ht := tch_cell (w := w) ql k (.int .i64 (v : Int))
 obtain ⟨f1, f2, f3, f4, f5, f6, f7, f8⟩ := h.far
 obtain ⟨g1, g2, g3, g4, g5, g6⟩ := h.fari
 obtain ⟨d1, d2, d3, d4, d5, d6⟩ := h.d
 have hv : ∀ {e : TypeId} {q : Nat} {xs : List Value}, w.ownsRow base e 1 (.slice (some ⟨q, 0, none⟩) N N) N xs → q ≠ ql → (w.setCell ⟨ql, k, none⟩ (.int .i64 (v : Int))).ownsRow base e 1 (.slice (some ⟨q, 0, none⟩) N N) N xs :=
  fun ho hne => own_tch ho ht (fun g hg e => by simp [Value.ownBlock] at hg; omega)
 exact ⟨ht.blk h.blk (fun e => by omega), hv h.num (by omega), own_setn h.low, hv h.nxt (by omega), hv h.prt (by omega), hv h.inn (by omega), own_tch h.stk ht (fun g hg e => by have := h.ds g hg; omega), own_tch h.way ht (fun g hg e => by have := h.dw g hg; omega), h.bb, h.d, h.ds, h.dw, ht.blk h.xo (fun e => by have := h.xd; omega), h.xd⟩
theorem ScM.set_nxt (h : ScM X xo base b EA N qn ql qx qi qp vs vw s w) (k v : Nat) {x : Int} (hx : x = (v : Int)) : ScM X xo base b EA N qn ql qx qi qp vs vw { s with nxt := s.nxt.set k v } (w.setCell ⟨qx, k, none⟩ (.int .i64 x)) := by
 subst hx
 have ht := tch_cell (w := w) qx k (.int .i64 (v : Int))
 obtain ⟨f1, f2, f3, f4, f5, f6, f7, f8⟩ := h.far
 obtain ⟨g1, g2, g3, g4, g5, g6⟩ := h.fari
 obtain ⟨d1, d2, d3, d4, d5, d6⟩ := h.d
 have hv : ∀ {e : TypeId} {q : Nat} {xs : List Value}, w.ownsRow base e 1 (.slice (some ⟨q, 0, none⟩) N N) N xs → q ≠ qx → (w.setCell ⟨qx, k, none⟩ (.int .i64 (v : Int))).ownsRow base e 1 (.slice (some ⟨q, 0, none⟩) N N) N xs :=
  fun ho hne => own_tch ho ht (fun g hg e => by simp [Value.ownBlock] at hg; omega)
 exact ⟨ht.blk h.blk (fun e => by omega), hv h.num (by omega), hv h.low (by omega), own_setn h.nxt, hv h.prt (by omega), hv h.inn (by omega), own_tch h.stk ht (fun g hg e => by have := h.ds g hg; omega), own_tch h.way ht (fun g hg e => by have := h.dw g hg; omega), h.bb, h.d, h.ds, h.dw, ht.blk h.xo (fun e => by have := h.xd; omega), h.xd⟩
theorem ScM.set_prt (h : ScM X xo base b EA N qn ql qx qi qp vs vw s w) (k v : Nat) {x : Int} (hx : x = (v : Int)) : ScM X xo base b EA N qn ql qx qi qp vs vw { s with prt := s.prt.set k v } (w.setCell ⟨qp, k, none⟩ (.int .i64 x)) := by
 subst hx
 have ht := tch_cell (w := w) qp k (.int .i64 (v : Int))
 obtain ⟨f1, f2, f3, f4, f5, f6, f7, f8⟩ := h.far
 obtain ⟨g1, g2, g3, g4, g5, g6⟩ := h.fari
 obtain ⟨d1, d2, d3, d4, d5, d6⟩ := h.d
 have hv : ∀ {e : TypeId} {q : Nat} {xs : List Value}, w.ownsRow base e 1 (.slice (some ⟨q, 0, none⟩) N N) N xs → q ≠ qp → (w.setCell ⟨qp, k, none⟩ (.int .i64 (v : Int))).ownsRow base e 1 (.slice (some ⟨q, 0, none⟩) N N) N xs :=
  fun ho hne => own_tch ho ht (fun g hg e => by simp [Value.ownBlock] at hg; omega)
 exact ⟨ht.blk h.blk (fun e => by omega), hv h.num (by omega), hv h.low (by omega), hv h.nxt (by omega), own_setn h.prt, hv h.inn (by omega), own_tch h.stk ht (fun g hg e => by have := h.ds g hg; omega), own_tch h.way ht (fun g hg e => by have := h.dw g hg; omega), h.bb, h.d, h.ds, h.dw, ht.blk h.xo (fun e => by have := h.xd; omega), h.xd⟩
theorem ScM.set_inn (h : ScM X xo base b EA N qn ql qx qi qp vs vw s w) (k : Nat) (v : Bool) : ScM X xo base b EA N qn ql qx qi qp vs vw { s with inn := s.inn.set k v } (w.setCell ⟨qi, k, none⟩ (.bool v)) := by
 have ht := tch_cell (w := w) qi k (.bool v)
 obtain ⟨f1, f2, f3, f4, f5, f6, f7, f8⟩ := h.far
 obtain ⟨g1, g2, g3, g4, g5, g6⟩ := h.fari
 have hv : ∀ {e : TypeId} {q : Nat} {xs : List Value}, w.ownsRow base e 1 (.slice (some ⟨q, 0, none⟩) N N) N xs → q ≠ qi → (w.setCell ⟨qi, k, none⟩ (.bool v)).ownsRow base e 1 (.slice (some ⟨q, 0, none⟩) N N) N xs :=
  fun ho hne => own_tch ho ht (fun g hg e => by simp [Value.ownBlock] at hg; omega)
 exact ⟨ht.blk h.blk (fun e => by omega), hv h.num (by omega), hv h.low (by omega), hv h.nxt (by omega), hv h.prt (by omega), own_setB h.inn, own_tch h.stk ht (fun g hg e => g5 (by rw [hg, e])), own_tch h.way ht (fun g hg e => g6 (by rw [hg, e])), h.bb, h.d, h.ds, h.dw, ht.blk h.xo (fun e => by have := h.xd; omega), h.xd⟩
theorem ScM.set_cnt (h : ScM X xo base b EA N qn ql qx qi qp vs vw s w) (c : Nat) {x : Int} (hx : x = (c : Int)) : ScM X xo base b EA N qn ql qx qi qp vs vw { s with cnt := c } (w.setCell ⟨b, 8, none⟩ (.int .i64 x)) := by
 subst hx
 have ht := tch_cell (w := w) b 8 (.int .i64 (c : Int))
 obtain ⟨f1, f2, f3, f4, f5, f6, f7, f8⟩ := h.far
 have hv : ∀ {e : TypeId} {q : Nat} {xs : List Value}, w.ownsRow base e 1 (.slice (some ⟨q, 0, none⟩) N N) N xs → q ≠ b → (w.setCell ⟨b, 8, none⟩ (.int .i64 (c : Int))).ownsRow base e 1 (.slice (some ⟨q, 0, none⟩) N N) N xs :=
  fun ho hne => own_tch ho ht (fun g hg e => by simp [Value.ownBlock] at hg; omega)
 refine ⟨?_, hv h.num f1, hv h.low f2, hv h.nxt f3, hv h.prt f4, hv h.inn f5, own_tch h.stk ht (fun g hg e => f6 (by rw [hg, e])), own_tch h.way ht (fun g hg e => f7 (by rw [hg, e])), h.bb, h.d, h.ds, h.dw, ht.blk h.xo (fun e => h.xd.1 e), h.xd⟩
 rw [heap_setCell_same w b 8 _ _ _ h.blk]; rfl
theorem ScM.put_stk (h : ScM X xo base b EA N qn ql qx qi qp vs vw s w) {w1 : World} {vs' : Value} {l : List Nat} {S : Nat → Prop} (ht : Tch S w w1) (hS : ∀ k, S k → vs.ownBlock = some k ∨ w.1.size ≤ k) (ho : w1.ownsRow base 3 1 vs' l.length (icells (natI l))) (hat : ∀ g, vs'.ownBlock = some g → vs.ownBlock = some g ∨ w.1.size ≤ g) :
  w1.cell? ⟨b, 4, none⟩ = some vs ∧ w1.frozen? ⟨b, 4, none⟩ = false ∧ b < w1.1.size ∧ ScM X xo base b EA N qn ql qx qi qp vs' vw { s with stk := l } (w1.setCell ⟨b, 4, none⟩ vs') := by
 obtain ⟨f1, f2, f3, f4, f5, f6, f7, f8⟩ := h.far
 obtain ⟨g1, g2, g3, g4, g5, g6⟩ := h.fari
 have hblk1 : w1.1[b]? = _ := ht.blk h.blk (fun e => by rcases hS _ e with e | e; exact f6 e; omega)
 have hk : ∀ {e : TypeId} {q : Nat} {xs : List Value}, w.ownsRow base e 1 (.slice (some ⟨q, 0, none⟩) N N) N xs → vs.ownBlock ≠ some q → w1.ownsRow base e 1 (.slice (some ⟨q, 0, none⟩) N N) N xs :=
  fun ho' hne => own_tch ho' ht (fun g hg e => by
   simp [Value.ownBlock] at hg
   subst hg
   rcases hS _ e with e | e
   ·exact hne e
   ·have h1 := (ho'.lt _ rfl).2
    have h2 : _ < w.1.size := h1
    exact absurd e (by dsimp only at h1; omega))
 have hw1 : w1.ownsRow base 3 1 vw s.way.length (icells (natI s.way)) := own_tch h.way ht (fun g hg e => by
  rcases hS _ e with e | e
  ·exact (h.dw g hg).2.2.2.2 e
  ·have := (h.way.lt _ hg).2; omega)
 have ht2 := tch_cell (w := w1) b 4 vs'
 have hd : ∀ g, vs'.ownBlock = some g → g ≠ qn ∧ g ≠ ql ∧ g ≠ qx ∧ g ≠ qp := fun g hg => by
  rcases hat g hg with e | e
  ·exact h.ds g e
  ·have h1 : qn < w.1.size := (h.num.lt qn rfl).2
   have h2 : ql < w.1.size := (h.low.lt ql rfl).2
   have h3 : qx < w.1.size := (h.nxt.lt qx rfl).2
   have h4 : qp < w.1.size := (h.prt.lt qp rfl).2
   omega
 have hn : ∀ {q}, (∀ g, vs.ownBlock = some g → g ≠ q) → vs.ownBlock ≠ some q := fun h' e => h' _ e rfl
 have hv : ∀ {e : TypeId} {q : Nat} {xs : List Value}, w1.ownsRow base e 1 (.slice (some ⟨q, 0, none⟩) N N) N xs → q ≠ b → (w1.setCell ⟨b, 4, none⟩ vs').ownsRow base e 1 (.slice (some ⟨q, 0, none⟩) N N) N xs :=
  fun ho hne => own_tch ho ht2 (fun g hg e => by simp [Value.ownBlock] at hg; omega)
 refine ⟨cR hblk1, frozen_of_row w1 b 4 _ _ hblk1, (aI.1 hblk1).1, ?_, hv (hk h.num (hn fun g hg => (h.ds g hg).1)) f1, hv (hk h.low (hn fun g hg => (h.ds g hg).2.1)) f2, hv (hk h.nxt (hn fun g hg => (h.ds g hg).2.2.1)) f3, hv (hk h.prt (hn fun g hg => (h.ds g hg).2.2.2)) f4, hv (hk h.inn g5) f5,
  own_tch ho ht2 (fun g hg e => own_ne_blk ho hblk1 (by decide) (by rw [hg, e])), own_tch hw1 ht2 (fun g hg e => f7 (by rw [hg, e])), h.bb, h.d, hd, fun g hg => ?_, ht2.blk (ht.blk h.xo (fun e => by rcases hS _ e with e | e; exact h.xd.2.2.2.2.2.2.1 e; (have := (aI.1 h.xo).1; omega))) (fun e => h.xd.1 e), ⟨h.xd.1, h.xd.2.1, h.xd.2.2.1, h.xd.2.2.2.1, h.xd.2.2.2.2.1, h.xd.2.2.2.2.2.1, fun e => by rcases hat _ e with e | e; exact h.xd.2.2.2.2.2.2.1 e; (have := (aI.1 h.xo).1; omega), h.xd.2.2.2.2.2.2.2⟩⟩
 ·rw [heap_setCell_same w1 b 4 _ _ _ hblk1]; rfl
 ·obtain ⟨e1, e2, e3, e4, e5⟩ := h.dw g hg
  refine ⟨e1, e2, e3, e4, fun e => ?_⟩
  rcases hat g e with e' | e'
  ·exact e5 e'
  ·have := (h.way.lt _ hg).2; omega
theorem ScM.put_way (h : ScM X xo base b EA N qn ql qx qi qp vs vw s w) {w1 : World} {vw' : Value} {l : List Nat} {S : Nat → Prop} (ht : Tch S w w1) (hS : ∀ k, S k → vw.ownBlock = some k ∨ w.1.size ≤ k) (ho : w1.ownsRow base 3 1 vw' l.length (icells (natI l))) (hat : ∀ g, vw'.ownBlock = some g → vw.ownBlock = some g ∨ w.1.size ≤ g) :
  w1.cell? ⟨b, 5, none⟩ = some vw ∧ w1.frozen? ⟨b, 5, none⟩ = false ∧ b < w1.1.size ∧ ScM X xo base b EA N qn ql qx qi qp vs vw' { s with way := l } (w1.setCell ⟨b, 5, none⟩ vw') := by
 obtain ⟨f1, f2, f3, f4, f5, f6, f7, f8⟩ := h.far
 obtain ⟨g1, g2, g3, g4, g5, g6⟩ := h.fari
 have hblk1 : w1.1[b]? = _ := ht.blk h.blk (fun e => by rcases hS _ e with e | e; exact f7 e; omega)
 have hk : ∀ {e : TypeId} {q : Nat} {xs : List Value}, w.ownsRow base e 1 (.slice (some ⟨q, 0, none⟩) N N) N xs → vw.ownBlock ≠ some q → w1.ownsRow base e 1 (.slice (some ⟨q, 0, none⟩) N N) N xs :=
  fun ho' hne => own_tch ho' ht (fun g hg e => by
   simp [Value.ownBlock] at hg
   subst hg
   rcases hS _ e with e | e
   ·exact hne e
   ·have h1 := (ho'.lt _ rfl).2
    have h2 : _ < w.1.size := h1
    exact absurd e (by dsimp only at h1; omega))
 have hs1 : w1.ownsRow base 3 1 vs s.stk.length (icells (natI s.stk)) := own_tch h.stk ht (fun g hg e => by
  rcases hS _ e with e | e
  ·exact (h.dw g e).2.2.2.2 hg
  ·have := (h.stk.lt _ hg).2; omega)
 have ht2 := tch_cell (w := w1) b 5 vw'
 have hn : ∀ {q}, (∀ g, vw.ownBlock = some g → g ≠ q) → vw.ownBlock ≠ some q := fun h' e => h' _ e rfl
 have hv : ∀ {e : TypeId} {q : Nat} {xs : List Value}, w1.ownsRow base e 1 (.slice (some ⟨q, 0, none⟩) N N) N xs → q ≠ b → (w1.setCell ⟨b, 5, none⟩ vw').ownsRow base e 1 (.slice (some ⟨q, 0, none⟩) N N) N xs :=
  fun ho hne => own_tch ho ht2 (fun g hg e => by simp [Value.ownBlock] at hg; omega)
 refine ⟨cR hblk1, frozen_of_row w1 b 5 _ _ hblk1, (aI.1 hblk1).1, ?_, hv (hk h.num (hn fun g hg => (h.dw g hg).1)) f1, hv (hk h.low (hn fun g hg => (h.dw g hg).2.1)) f2, hv (hk h.nxt (hn fun g hg => (h.dw g hg).2.2.1)) f3, hv (hk h.prt (hn fun g hg => (h.dw g hg).2.2.2.1)) f4, hv (hk h.inn g6) f5,
  own_tch hs1 ht2 (fun g hg e => f6 (by rw [hg, e])), own_tch ho ht2 (fun g hg e => own_ne_blk ho hblk1 (by decide) (by rw [hg, e])), h.bb, h.d, h.ds, fun g hg => ?_, ht2.blk (ht.blk h.xo (fun e => by rcases hS _ e with e | e; exact h.xd.2.2.2.2.2.2.2 e; (have := (aI.1 h.xo).1; omega))) (fun e => h.xd.1 e), ⟨h.xd.1, h.xd.2.1, h.xd.2.2.1, h.xd.2.2.2.1, h.xd.2.2.2.2.1, h.xd.2.2.2.2.2.1, h.xd.2.2.2.2.2.2.1, fun e => by rcases hat _ e with e | e; exact h.xd.2.2.2.2.2.2.2 e; (have := (aI.1 h.xo).1; omega)⟩⟩
 ·rw [heap_setCell_same w1 b 5 _ _ _ hblk1]; rfl
 ·rcases hat g hg with e | e
  ·exact h.dw g e
  ·have h1 : qn < w.1.size := (h.num.lt qn rfl).2
   have h2 : ql < w.1.size := (h.low.lt ql rfl).2
   have h3 : qx < w.1.size := (h.nxt.lt qx rfl).2
   have h4 : qp < w.1.size := (h.prt.lt qp rfl).2
   refine ⟨by omega, by omega, by omega, by omega, fun e' => ?_⟩
   have := (h.stk.lt _ e').2
   omega
theorem ScM.put_two (h : ScM X xo base b EA N qn ql qx qi qp vs vw s w) {w1 : World} {vs' vw' : Value} {l m : List Nat} {S : Nat → Prop} (ht : Tch S w w1) (hS : ∀ k, S k → vs.ownBlock = some k ∨ vw.ownBlock = some k ∨ w.1.size ≤ k)
  (ho : w1.ownsRow base 3 1 vs' l.length (icells (natI l))) (hat : ∀ g, vs'.ownBlock = some g → vs.ownBlock = some g ∨ w.1.size ≤ g)
  (ho2 : w1.ownsRow base 3 1 vw' m.length (icells (natI m))) (hat2 : ∀ g, vw'.ownBlock = some g → vw.ownBlock = some g ∨ w.1.size ≤ g) (hne : ∀ g, vw'.ownBlock = some g → vs'.ownBlock ≠ some g) :
  w1.cell? ⟨b, 4, none⟩ = some vs ∧ w1.cell? ⟨b, 5, none⟩ = some vw ∧ (∀ o, w1.frozen? ⟨b, o, none⟩ = false) ∧ b < w1.1.size ∧ ScM X xo base b EA N qn ql qx qi qp vs' vw' { s with stk := l, way := m } ((w1.setCell ⟨b, 4, none⟩ vs').setCell ⟨b, 5, none⟩ vw') := by
 obtain ⟨f1, f2, f3, f4, f5, f6, f7, f8⟩ := h.far
 obtain ⟨g1, g2, g3, g4, g5, g6⟩ := h.fari
 have hblk1 : w1.1[b]? = _ := ht.blk h.blk (fun e => by rcases hS _ e with e | e | e; exact f6 e; exact f7 e; omega)
 have hk : ∀ {e : TypeId} {q : Nat} {xs : List Value}, w.ownsRow base e 1 (.slice (some ⟨q, 0, none⟩) N N) N xs → vs.ownBlock ≠ some q → vw.ownBlock ≠ some q → w1.ownsRow base e 1 (.slice (some ⟨q, 0, none⟩) N N) N xs :=
  fun ho' hne hne2 => own_tch ho' ht (fun g hg e => by
   simp [Value.ownBlock] at hg
   subst hg
   rcases hS _ e with e | e | e
   ·exact hne e
   ·exact hne2 e
   ·have h1 := (ho'.lt _ rfl).2
    exact absurd e (by dsimp only at h1; omega))
 have ht2 : Tch (fun k => k = b) w1 ((w1.setCell ⟨b, 4, none⟩ vs').setCell ⟨b, 5, none⟩ vw') := (tch_cell (w := w1) b 4 vs').setCell (p := ⟨b, 5, none⟩) (fun _ => rfl) vw'
 have hn : ∀ {q}, (∀ g, vs.ownBlock = some g → g ≠ q) → vs.ownBlock ≠ some q := fun h' e => h' _ e rfl
 have hn2 : ∀ {q}, (∀ g, vw.ownBlock = some g → g ≠ q) → vw.ownBlock ≠ some q := fun h' e => h' _ e rfl
 have hv : ∀ {e : TypeId} {q : Nat} {xs : List Value}, w1.ownsRow base e 1 (.slice (some ⟨q, 0, none⟩) N N) N xs → q ≠ b → ((w1.setCell ⟨b, 4, none⟩ vs').setCell ⟨b, 5, none⟩ vw').ownsRow base e 1 (.slice (some ⟨q, 0, none⟩) N N) N xs :=
  fun ho hne => own_tch ho ht2 (fun g hg e => by simp [Value.ownBlock] at hg; omega)
 have h1 : qn < w.1.size := (h.num.lt qn rfl).2
 have h2 : ql < w.1.size := (h.low.lt ql rfl).2
 have h3 : qx < w.1.size := (h.nxt.lt qx rfl).2
 have h4 : qp < w.1.size := (h.prt.lt qp rfl).2
 refine ⟨cR hblk1, cR hblk1, fun o => frozen_of_row w1 b o _ _ hblk1, (aI.1 hblk1).1, ?_,
  hv (hk h.num (hn fun g hg => (h.ds g hg).1) (hn2 fun g hg => (h.dw g hg).1)) f1, hv (hk h.low (hn fun g hg => (h.ds g hg).2.1) (hn2 fun g hg => (h.dw g hg).2.1)) f2, hv (hk h.nxt (hn fun g hg => (h.ds g hg).2.2.1) (hn2 fun g hg => (h.dw g hg).2.2.1)) f3, hv (hk h.prt (hn fun g hg => (h.ds g hg).2.2.2) (hn2 fun g hg => (h.dw g hg).2.2.2.1)) f4, hv (hk h.inn g5 g6) f5,
  own_tch ho ht2 (fun g hg e => own_ne_blk ho hblk1 (by decide) (by rw [hg, e])), own_tch ho2 ht2 (fun g hg e => own_ne_blk ho2 hblk1 (by decide) (by rw [hg, e])), h.bb, h.d, fun g hg => ?_, fun g hg => ?_, ht2.blk (ht.blk h.xo (fun e => by rcases hS _ e with e | e | e; exact h.xd.2.2.2.2.2.2.1 e; exact h.xd.2.2.2.2.2.2.2 e; (have := (aI.1 h.xo).1; omega))) (fun e => h.xd.1 e), ⟨h.xd.1, h.xd.2.1, h.xd.2.2.1, h.xd.2.2.2.1, h.xd.2.2.2.2.1, h.xd.2.2.2.2.2.1, fun e => by rcases hat _ e with e | e; exact h.xd.2.2.2.2.2.2.1 e; (have := (aI.1 h.xo).1; omega), fun e => by rcases hat2 _ e with e | e; exact h.xd.2.2.2.2.2.2.2 e; (have := (aI.1 h.xo).1; omega)⟩⟩
 ·have e1 := heap_setCell_same w1 b 4 _ _ vs' hblk1
  rw [heap_setCell_same _ b 5 _ _ vw' e1]; rfl
 ·rcases hat g hg with e | e
  ·exact h.ds g e
  ·omega
 ·have e5 := hne g hg
  rcases hat2 g hg with e | e
  ·obtain ⟨a1, a2, a3, a4, _⟩ := h.dw g e
   exact ⟨a1, a2, a3, a4, e5⟩
  ·exact ⟨by omega, by omega, by omega, by omega, e5⟩
end
end Go.Proofs.YtiebpncpdbnelaaGreatDoor
