/- The walk of layer 28 (cover): the closure of Of. -/
import Derived.Test.YtamhjgkigjpbhaaDoorZat
import Derived.BigQuiet
import Derived.Deep.Cut
import Derived.Deep.DeepCutAuto
namespace Go.Proofs.YtamhjgkigjpbhaaDoor
open Go.RowKit Go.Maps

/-- The way's box: its todo is l by now. -/
def BoxW (w wr : World) (x : Way) (A1 : Option Addr) (c1 : Nat) (A2 : Option Addr) (c2 : Nat) (l : List Nat) : Prop :=
  Below w.heap.size w wr ∧ ∃ A3 c3, wr.heap[w.heap.size]? = some (.cells #[.int .u64 (x.need : Int), .int .u64 (x.ban : Int), .slice A1 x.now.length c1, .slice A2 x.next.length c2, .slice A3 l.length c3] 100 (0, 0)) ∧ TSl wr 3 A3 l.length c3 (icells (natI l))
def boxLen (w : World) (b : Nat) : Nat := match w.cell? ⟨b, 4, none⟩ with | some (.slice _ n _) => n | _ => 0
theorem BoxW.drewN {w wr : World} {x : Way} {A1 : Option Addr} {c1 : Nat} {A2 : Option Addr} {c2 : Nat} {l : List Nat} (h : BoxW w wr x A1 c1 A2 c2 l) (n : Nat) : BoxW w (wr.drewN n) x A1 c1 A2 c2 l := by
  obtain ⟨hb, A3, c3, h1, h2⟩ := h
  have ht : Tch (fun _ => False) wr (wr.drewN n) := (Tch.refl _ wr).drewN n
  exact ⟨hb.trans (ht.below hb.size (fun _ _ h => h)), A3, c3, h1, h2.keep ht (fun _ _ _ h => h)⟩
theorem BoxW.cells {w wr : World} {x : Way} {A1 : Option Addr} {c1 : Nat} {A2 : Option Addr} {c2 : Nat} {l : List Nat} (h : BoxW w wr x A1 c1 A2 c2 l) :
    Below w.heap.size w wr ∧ wr.cell? ⟨w.heap.size, 0, none⟩ = some (.int .u64 (x.need : Int)) ∧ wr.cell? ⟨w.heap.size, 1, none⟩ = some (.int .u64 (x.ban : Int)) ∧
      wr.cell? ⟨w.heap.size, 2, none⟩ = some (.slice A1 x.now.length c1) ∧ wr.cell? ⟨w.heap.size, 3, none⟩ = some (.slice A2 x.next.length c2) ∧
      ∃ A3 c3, wr.cell? ⟨w.heap.size, 4, none⟩ = some (.slice A3 l.length c3) ∧ wr.frozen? ⟨w.heap.size, 4, none⟩ = false ∧ TSl wr 3 A3 l.length c3 (icells (natI l)) := by
  obtain ⟨hb, A3, c3, h1, h2⟩ := h
  refine ⟨hb, ?_, ?_, ?_, ?_, A3, c3, ?_, frozen_of_row _ _ 4 _ _ h1, h2⟩ <;> (rw [cell_of_row _ _ _ _ _ (0, 0) h1]; rfl)
theorem BoxW.below {w wr w' : World} {x : Way} {A1 : Option Addr} {c1 : Nat} {A2 : Option Addr} {c2 : Nat} {l : List Nat} (h : BoxW w wr x A1 c1 A2 c2 l) (hb : Below wr.heap.size wr w') : BoxW w w' x A1 c1 A2 c2 l := by
  obtain ⟨hb0, A3, c3, h1, h2⟩ := h
  exact ⟨hb0.trans (hb.mono hb0.size), A3, c3, (hb.block _ (heap_lt h1)).trans h1, h2.below hb⟩
theorem box4 {w : World} {b t : Nat} {p q r s u : Value} (h : w.heap[b]? = some (.cells #[p, q, r, s, u] t (0, 0))) : w.cell? ⟨b, 0, none⟩ = some p ∧ w.cell? ⟨b, 1, none⟩ = some q ∧ w.cell? ⟨b, 2, none⟩ = some r ∧ w.cell? ⟨b, 3, none⟩ = some s := by
  refine ⟨?_, ?_, ?_, ?_⟩ <;> (rw [cell_of_row _ _ _ _ _ (0, 0) h]; rfl)
theorem BoxW.next {w wr : World} {x : Way} {A1 : Option Addr} {c1 : Nat} {A2 : Option Addr} {c2 : Nat} {j : Nat} {t : List Nat} {A4 : Option Addr} {c4 : Nat} (hb : Below w.heap.size w wr)
    (h1 : wr.heap[w.heap.size]? = some (.cells #[.int .u64 (x.need : Int), .int .u64 (x.ban : Int), .slice A1 x.now.length c1, .slice A2 x.next.length c2, .slice A4 (j :: t).length c4] 100 (0, 0))) (h2 : TSl wr 3 A4 (j :: t).length c4 (icells (natI (j :: t)))) (n : Nat) :
    BoxW w ((wr.drewN n).setCell ⟨w.heap.size, 4, none⟩ (.slice (if c4 = 1 then A4 else A4.map (·.add 1)) t.length (c4 - 1))) x A1 c1 A2 c2 t := by
  have ht : Tch (fun k => k = w.heap.size) wr ((wr.drewN n).setCell ⟨w.heap.size, 4, none⟩ (.slice (if c4 = 1 then A4 else A4.map (·.add 1)) t.length (c4 - 1))) :=
    ((Tch.refl (fun k => k = w.heap.size) wr).drewN n).setCell (p := ⟨w.heap.size, 4, none⟩) (fun _ => rfl) _
  refine ⟨hb.trans (ht.below hb.size (fun k hk e => by omega)), _, _, ?_, (TSl.tail h2).keep ht (spares_one h1 (by decide))⟩
  have h3 := heap_setCell_same (wr.drewN n) w.heap.size 4 _ _ (.slice (if c4 = 1 then A4 else A4.map (·.add 1)) t.length (c4 - 1)) h1
  rw [h3]
  simp
theorem BoxW.len {w wr : World} {x : Way} {A1 : Option Addr} {c1 : Nat} {A2 : Option Addr} {c2 : Nat} {l : List Nat} (h : BoxW w wr x A1 c1 A2 c2 l) : boxLen wr w.heap.size = l.length := by
  obtain ⟨_, A3, c3, h1, _⟩ := h
  unfold boxLen
  rw [cell_of_row _ _ 4 _ _ (0, 0) h1]
  rfl
theorem WaysAt.form {w : World} {ws : List Way} {v : Value} (h : WaysAt w ws v) : ∃ As, v = .slice As ws.length ws.length := by
  rcases h with ⟨rfl, rfl⟩ | ⟨g, cs, rfl, _⟩
  · exact ⟨none, rfl⟩
  · exact ⟨_, rfl⟩
theorem split_small {f : List Nd} {j : Nat} (hF : NdF f j) {w : Way} (h1 : w.need < 256) (h2 : w.ban < 256) : ∀ y ∈ splitW f j w, y.need < 256 ∧ y.ban < 256 ∧ y.todo.length ≤ w.todo.length + 2 := by
  intro y hy
  have pw : ∀ {a p : Nat}, a < 256 → p < 8 → a ||| 2 ^ p < 256 := fun {a p} ha hp => by
    have : 2 ^ p < 2 ^ 8 := Nat.pow_lt_pow_right (by omega) hp
    have := Nat.or_lt_two_pow (n := 8) (x := a) (y := 2 ^ p) (by omega) (by omega)
    omega
  have fin : ∀ v : Way, v.need < 256 → v.ban < 256 → v.todo = w.todo → y ∈ finW v → y.need < 256 ∧ y.ban < 256 ∧ y.todo.length ≤ w.todo.length + 2 := by
    intro v a b c hy
    unfold finW at hy
    split at hy
    · rw [List.mem_singleton] at hy; subst hy; exact ⟨a, b, by rw [c]; omega⟩
    · cases hy
  unfold splitW at hy
  split at hy
  · rw [List.mem_singleton] at hy; subst hy; exact ⟨h1, h2, by omega⟩
  split at hy
  · rename_i e; exact fin { w with need := w.need ||| 2 ^ nAt f j } (pw h1 (hF.prop e).2) h2 rfl hy
  split at hy
  · rename_i e; exact fin { w with ban := w.ban ||| 2 ^ nAt f (j - 1) } h1 (pw h2 (hF.lit e).2.2) rfl hy
  split at hy
  · rw [List.mem_singleton] at hy; subst hy; exact ⟨h1, h2, by simp [Way.with_]⟩
  split at hy
  · simp only [List.mem_cons, List.not_mem_nil, or_false] at hy
    rcases hy with rfl | rfl <;> exact ⟨h1, h2, by simp [Way.with_]⟩
  split at hy
  · rw [List.mem_singleton] at hy; subst hy; exact ⟨h1, h2, by simp [Way.owing]⟩
  split at hy
  · simp only [List.mem_cons, List.not_mem_nil, or_false] at hy
    rcases hy with rfl | rfl <;> exact ⟨h1, h2, by simp [Way.with_, Way.owing]⟩
  split at hy
  · simp only [List.mem_cons, List.not_mem_nil, or_false] at hy
    rcases hy with rfl | rfl <;> exact ⟨h1, h2, by simp [Way.with_, Way.owing]⟩
  · cases hy
theorem flatMap_take_le {α β : Type} {ws : List α} {g : α → List β} {k : Nat} {y : α} (hk : k < ws.length) (hy : ws[k] = y) : ((ws.take k).flatMap g).length + (g y).length ≤ (ws.flatMap g).length := by
  have e : ws = ws.take k ++ (y :: ws.drop (k + 1)) := by rw [← hy, List.getElem_cons_drop, List.take_append_drop]
  rw [show ws.flatMap g = (ws.take k ++ (y :: ws.drop (k + 1))).flatMap g by rw [← e], List.flatMap_append, List.length_append, List.flatMap_cons, List.length_append]
  omega
theorem once_step {ws : List Way} {g : Way → List Way} {T : List Cov} {k : Nat} {y : Way} (hk : k < ws.length) (hy : ws[k] = y) :
    onceC (((ws.take (k + 1)).flatMap g).map Way.cov) T = onceC ((g y).map Way.cov) (onceC (((ws.take k).flatMap g).map Way.cov) T) := by
  rw [take_snoc ws k hk, hy, List.flatMap_append, List.map_append, onceC_app]
  simp
/-- The key's box, laid. -/
def KCut (W : World) (c : Cov) (p : Value) (wF : World) : Prop :=
  ∃ bk, p = .pointer (some ⟨bk, 0, none⟩) ∧ wF.heap[bk]? = some (.cells #[.int .u64 (c.1 : Int), .int .u64 (c.2.1 : Int), .string (strB c.2.2.1), .string (strB c.2.2.2)] 106 (0, 0)) ∧ Below W.heap.size W wF
theorem kcut_end {W W3 : World} {bk : Nat} {cs : Array Value} {a b d e : Value} {c : Cov} (hn : W3.heap[bk]? = some (.cells cs 106 (0, 0))) (hcs : cs.size = 4) (hb : Below W.heap.size W W3) (hbk : W.heap.size ≤ bk)
    (ea : a = .int .u64 (c.1 : Int)) (eb : b = .int .u64 (c.2.1 : Int)) (ed : d = .string (strB c.2.2.1)) (ee : e = .string (strB c.2.2.2)) :
    KCut W c (.pointer (some ⟨bk, 0, none⟩)) ((((W3.setCell ⟨bk, 0, none⟩ a).setCell ⟨bk, 1, none⟩ b).setCell ⟨bk, 2, none⟩ d).setCell ⟨bk, 3, none⟩ e) := by
  subst ea eb ed ee
  have h1 := heap_setCell_same W3 bk 0 _ _ (.int .u64 (c.1 : Int)) hn
  have h2 := heap_setCell_same _ bk 1 _ _ (.int .u64 (c.2.1 : Int)) h1
  have h3 := heap_setCell_same _ bk 2 _ _ (.string (strB c.2.2.1)) h2
  have h4 := heap_setCell_same _ bk 3 _ _ (.string (strB c.2.2.2)) h3
  refine ⟨bk, rfl, ?_, (((hb.setCell (p := ⟨bk, 0, none⟩) hbk _).setCell (p := ⟨bk, 1, none⟩) hbk _).setCell (p := ⟨bk, 2, none⟩) hbk _).setCell (p := ⟨bk, 3, none⟩) hbk _⟩
  rw [h4]
  clear h1 h2 h3 h4 hn
  obtain ⟨l⟩ := cs
  match l, hcs with
  | [p, q, r, s], _ => simp
theorem sliceCov : SliceT Tryd.prog 80 57 4 64 :=
  SliceT.mk (z := .agg #[.int .u64 0, .int .u64 0, .slice none 0 0, .slice none 0 0]) Tryd.underlying80 (by kernel_rfl) (by decide) (by decide)
theorem leaf_mem {f : List Nd} {n : Nat} {x : Way} {T : List Cov} (h : skipL x.now x.todo = []) (hm : x.cov ∈ T) : onceC ((leaves f (n + 1) x).map Way.cov) T = T := by
  unfold leaves; rw [h]; simp [onceC, addC, hm]
theorem leaf_new {f : List Nd} {n : Nat} {x : Way} {T : List Cov} (h : skipL x.now x.todo = []) (hm : x.cov ∉ T) : onceC ((leaves f (n + 1) x).map Way.cov) T = T ++ [x.cov] := by
  unfold leaves; rw [h]; simp [onceC, addC, hm]
theorem bodyPost_end0' {P : Program} {fn : Func} {R : Ending → World → Prop} {a : Act} {w : World} (hr : fn.results = #[]) (hd : a.defers = []) (hR : R (.returned (.tuple #[])) w) : bodyPost P fn R .normal a w :=
  bodyPost_end (results_none hr _ _ _) hd hR
def GPost (n0 fb gb tb mb ob : Nat) (Af : Option Addr) (cf : Nat) (f : List Nd) (w : World) (v : Value) (T' : List Cov) (en : Ending) (w' : World) : Prop :=
  en = .returned (.tuple #[]) ∧ ∃ v', GS n0 fb gb tb mb ob Af cf f w' T' v' ∧ Tch (Tn ob mb v) w w' ∧ ∀ i, v'.ownBlock = some i → i < w.heap.size → v.ownBlock = some i
set_option maxHeartbeats 4000000 in
set_option maxRecDepth 100000 in
theorem goOn_any (n0 fb gb tb mb ob : Nat) (Af : Option Addr) (cf : Nat) (f : List Nd) (hN : isN f = true) (hl : f.length ≤ 1000) : ∀ (n : Nat) (x : Way) (A1 : Option Addr) (c1 : Nat) (A2 : Option Addr) (c2 : Nat) (A3 : Option Addr) (c3 : Nat) (w : World) (T : List Cov) (v : Value),
    GS n0 fb gb tb mb ob Af cf f w T v → WR w x A1 c1 A2 c2 A3 c3 → WOk f x → x.need < 256 → x.ban < 256 → cntF x.now < n → x.todo.length + 2 * n ≤ 1000000 → T.length + (leaves f n x).length ≤ 1000000 →
    Calls Tryd.prog 52 #[.agg #[.int .u64 (x.need : Int), .int .u64 (x.ban : Int), .slice A1 x.now.length c1, .slice A2 x.next.length c2, .slice A3 x.todo.length c3], .pointer (some ⟨fb, 0, none⟩), .pointer (some ⟨gb, 0, none⟩), .pointer (some ⟨tb, 0, none⟩), .pointer (some ⟨ob, 0, none⟩)] w
      (GPost n0 fb gb tb mb ob Af cf f w v (onceC ((leaves f n x).map Way.cov) T)) := by
  intro n
  induction n with
  | zero => intro x _ _ _ _ _ _ w T v _ _ _ _ _ h; omega
  | succ n ih =>
    intro x A1 c1 A2 c2 A3 c3 w T v hG hR hx hn hb hcn hbd hbo
    have hb0 : BoxW w (w.alloc (.cells #[.int .u64 (x.need : Int), .int .u64 (x.ban : Int), .slice A1 x.now.length c1, .slice A2 x.next.length c2, .slice A3 x.todo.length c3] 100)) x A1 c1 A2 c2 x.todo :=
      ⟨(Below.refl _ _).alloc (Nat.le_refl _) _, A3, c3, heap_alloc_new _ _, hR.todo.below ((Below.refl _ _).alloc (Nat.le_refl _) _)⟩
    have HG := Lib.hid hG
    have HR := Lib.hid hR
    have HX := Lib.hid hx
    have HBO := Lib.hid hbo
    have HB0 := Lib.hid hb0
    obtain ⟨hs1, hs2⟩ : x.now.length ≤ 1000 ∧ x.next.length ≤ 1000 := ⟨by rw [hx.now]; exact hl, by rw [hx.next]; exact hl⟩
    clear hG hR hx hbo hb0
    go_enter Tryd.func52, Tryd.ntmps52
    go_wp2_with fail
    go_loopw [] (fun wr => ∃ l : List Nat, Hid (skipL x.now l = skipL x.now x.todo ∧ (∀ y ∈ l, y < f.length)) ∧ l.length ≤ x.todo.length ∧ Hid (BoxW w wr x A1 c1 A2 c2 l)) (fun wr => boxLen wr w.heap.size)
    case atStart => exact ⟨x.todo, ⟨rfl, HX.out.todo⟩, Nat.le_refl _, HB0.out⟩
    case round =>
      obtain ⟨l, HL, hll, HBX⟩ := hrel
      cases l with
      | nil =>
        obtain ⟨hbr, A4, c4, hbk, ht4⟩ := HBX.out
        have j4 : wr.cell? ⟨w.heap.size, 4, none⟩ = some (.slice A4 0 c4) := by rw [cell_of_row _ _ 4 _ _ (0, 0) hbk]; rfl
        go_wp2_with fail
        go_quiet (fail)
        obtain ⟨W, hW⟩ : ∃ W, W = wr.drewN nq := ⟨_, rfl⟩
        have HBW := Lib.hid (hW ▸ HBX.out.drewN nq)
        obtain ⟨hbW, k0, k1, k2, k3, A5, c5, k4, -, -⟩ := BoxW.cells (hW ▸ HBX.out.drewN nq) 
        rw [List.length_nil] at k4
        rw [← hW]
        have hGW := HG.out.below hbW
        have hRW := HR.out.below hbW
        clear j4 hbk ht4 hbr hW
        have hwW : w.heap.size < W.heap.size := World.block_lt_of_cell? W _ k0
        have HB1 := Lib.hid (fun (w' : World) (hb : Below W.heap.size W w') => bitsT_any A2 c2 x.next w' W.heap.size (hRW.next.sl.below hb (Nat.le_refl _)) hb.size (by omega))
        have HB2 := Lib.hid (fun (w' : World) (hb : Below W.heap.size W w') => bitsT_any A1 c1 x.now w' W.heap.size (hRW.now.sl.below hb (Nat.le_refl _)) hb.size (by omega))
        go_wp2_with fail
        go_cut [9] from 10 (fun p wF => KCut W x.cov p wF)
        case first =>
          refine wp_region_held_drew (S := fun w' => w'.cell? ⟨w.heap.size, 0, none⟩ = some (.int .u64 (x.need : Int)) ∧ w'.cell? ⟨w.heap.size, 1, none⟩ = some (.int .u64 (x.ban : Int)) ∧ w'.cell? ⟨w.heap.size, 2, none⟩ = some (.slice A1 x.now.length c1) ∧ w'.cell? ⟨w.heap.size, 3, none⟩ = some (.slice A2 x.next.length c2)) (by kernel_rfl) ⟨k0, k1, k2, k3⟩ (fun hS => ?_)
          refine wpAnyH_takeD (i := 0) (v := ?_) rfl (by kernel_rfl) (by kernel_rfl) (by kernel_rfl) (fun _ _ _ h => h) (Or.inl ⟨by kernel_rfl, ?_⟩) hS ?_
          rotate_left 1
          · (intro w' hSw; (try dsimp only at hSw); go_simp; try (with_reducible rfl))
          try simp only [Act.put, List.setIfInBounds_toArray, List.set_cons_zero, List.set_cons_succ]
          refine wpAnyH_takeD (i := 1) (v := ?_) rfl (by kernel_rfl) (by kernel_rfl) (by kernel_rfl) (fun _ _ _ h => h) (Or.inl ⟨by kernel_rfl, ?_⟩) hS ?_
          rotate_left 1
          · (intro w' hSw; (try dsimp only at hSw); go_simp; try (with_reducible rfl))
          try simp only [Act.put, List.setIfInBounds_toArray, List.set_cons_zero, List.set_cons_succ]
          refine wpAnyH_takeD (i := 2) (v := ?_) rfl (by kernel_rfl) (by kernel_rfl) (by kernel_rfl) (fun _ _ _ h => h) (Or.inl ⟨by kernel_rfl, ?_⟩) hS ?_
          rotate_left 1
          · (intro w' hSw; (try dsimp only at hSw); go_simp; try (with_reducible rfl))
          try simp only [Act.put, List.setIfInBounds_toArray, List.set_cons_zero, List.set_cons_succ]
          refine wpAnyH_takeD (i := 3) (v := ?_) rfl (by kernel_rfl) (by kernel_rfl) (by kernel_rfl) (fun _ _ _ h => h) (Or.inl ⟨by kernel_rfl, ?_⟩) hS ?_
          rotate_left 1
          · (intro w' hSw; (try dsimp only at hSw); go_simp; try (with_reducible rfl))
          try simp only [Act.put, List.setIfInBounds_toArray, List.set_cons_zero, List.set_cons_succ]
          refine wpAnyH_takeD (i := 4) (v := ?_) rfl (by kernel_rfl) (by kernel_rfl) (by kernel_rfl) (fun _ _ _ h => h) (Or.inl ⟨by kernel_rfl, ?_⟩) hS ?_
          rotate_left 1
          · (intro w' hSw; (try dsimp only at hSw); go_simp; try (with_reducible rfl))
          try simp only [Act.put, List.setIfInBounds_toArray, List.set_cons_zero, List.set_cons_succ]
          refine wpAnyH_takeD (i := 5) (v := ?_) rfl (by kernel_rfl) (by kernel_rfl) (by kernel_rfl) (fun _ _ _ h => h) (Or.inl ⟨by kernel_rfl, ?_⟩) hS ?_
          rotate_left 1
          · (intro w' hSw; (try dsimp only at hSw); go_simp; try (with_reducible rfl))
          try simp only [Act.put, List.setIfInBounds_toArray, List.set_cons_zero, List.set_cons_succ]
          refine wpAnyH_takeD (i := 7) (v := ?_) rfl (by kernel_rfl) (by kernel_rfl) (by kernel_rfl) (fun _ _ _ h => h) (Or.inl ⟨by kernel_rfl, ?_⟩) hS ?_
          rotate_left 1
          · (intro w' hSw; (try dsimp only at hSw); go_simp; try (with_reducible rfl))
          try simp only [Act.put, List.setIfInBounds_toArray, List.set_cons_zero, List.set_cons_succ]
          refine wpAnyH_takeD (i := 8) (v := ?_) rfl (by kernel_rfl) (by kernel_rfl) (by kernel_rfl) (fun _ _ _ h => h) (Or.inl ⟨by kernel_rfl, ?_⟩) hS ?_
          rotate_left 1
          · (intro w' hSw; (try dsimp only at hSw); go_simp; try (with_reducible rfl))
          try simp only [Act.put, List.setIfInBounds_toArray, List.set_cons_zero, List.set_cons_succ]
          refine wpAnyH_ready (rs := [6, 11]) (by kernel_rfl) (by simp) ?_
          refine (allReadyH_consD (i := 6) rfl (fun K hK => ?_) (allReadyH_consD (i := 11) rfl (fun K hK => ?_) AllReadyH.nil))
          · skip
            go_simp
            refine Calls.mono (HB1.out _ (Below.refl _ _).drew) ?_
            rintro e W1 ⟨rfl, hq1⟩
            have hb1 : Below W.heap.size W W1 := below_undrew hq1
            clear hq1
            have p1_0 := (hb1.cell (p := ⟨w.heap.size, 0, none⟩) hwW).trans k0
            have p1_1 := (hb1.cell (p := ⟨w.heap.size, 1, none⟩) hwW).trans k1
            have p1_2 := (hb1.cell (p := ⟨w.heap.size, 2, none⟩) hwW).trans k2
            have p1_3 := (hb1.cell (p := ⟨w.heap.size, 3, none⟩) hwW).trans k3
            go_wp2_with fail
            refine hK.out _ _ ⟨p1_0, p1_1, p1_2, p1_3⟩ (fun hS => ?_)
            clear hK
            try simp only [Act.put, List.setIfInBounds_toArray, List.set_cons_zero, List.set_cons_succ]
            refine wpAnyH_ready (rs := [9, 11]) (by kernel_rfl) (by simp) ?_
            refine (allReadyH_consD (i := 9) rfl (fun K hK => ?_) (allReadyH_consD (i := 11) rfl (fun K hK => ?_) AllReadyH.nil))
            · skip
              go_simp
              refine Calls.mono (HB2.out _ hb1) ?_
              rintro e W2 ⟨rfl, hq2⟩
              have hb2 : Below W.heap.size W W2 := hb1.trans (hq2.mono hb1.size)
              clear hq2
              have p2_0 := (hb2.cell (p := ⟨w.heap.size, 0, none⟩) hwW).trans k0
              have p2_1 := (hb2.cell (p := ⟨w.heap.size, 1, none⟩) hwW).trans k1
              have p2_2 := (hb2.cell (p := ⟨w.heap.size, 2, none⟩) hwW).trans k2
              have p2_3 := (hb2.cell (p := ⟨w.heap.size, 3, none⟩) hwW).trans k3
              go_wp2_with fail
              refine hK.out _ _ ⟨p2_0, p2_1, p2_2, p2_3⟩ (fun hS => ?_)
              clear hK
              try simp only [Act.put, List.setIfInBounds_toArray, List.set_cons_zero, List.set_cons_succ]
              refine wpAnyH_takeD (i := 10) (v := ?_) rfl (by kernel_rfl) (by kernel_rfl) (by kernel_rfl) (fun _ _ _ h => h) (Or.inl ⟨by kernel_rfl, ?_⟩) hS ?_
              rotate_left 1
              · (intro w' hSw; (try dsimp only at hSw); go_simp; try (with_reducible rfl))
              try simp only [Act.put, List.setIfInBounds_toArray, List.set_cons_zero, List.set_cons_succ]
              refine wpAnyH_oneD (i := 11) rfl (by kernel_rfl) (fun K hK => ?_)
              go_simp
              obtain ⟨W3, hw3⟩ : ∃ V, V = W2.alloc (.cells #[.int .u64 0, .int .u64 0, .string { data := #[] }, .string { data := #[] }] 106) := ⟨_, rfl⟩
              have hb3 : Below W.heap.size W W3 := by rw [hw3]; exact hb2.alloc hb2.size _
              have ha3 : W3.heap[W2.heap.size]? = some (.cells #[.int .u64 0, .int .u64 0, .string { data := #[] }, .string { data := #[] }] 106 (0, 0)) := by rw [hw3]; exact heap_alloc_new _ _
              rw [← hw3]
              clear hw3
              obtain ⟨bk, hbke⟩ : ∃ bk, bk = W2.heap.size := ⟨_, rfl⟩
              have hbk : W.heap.size ≤ bk := by rw [hbke]; exact hb2.size
              rw [← hbke] at ha3 ⊢
              clear hbke
              have p3_0 := (hb3.cell (p := ⟨w.heap.size, 0, none⟩) hwW).trans k0
              have p3_1 := (hb3.cell (p := ⟨w.heap.size, 1, none⟩) hwW).trans k1
              have p3_2 := (hb3.cell (p := ⟨w.heap.size, 2, none⟩) hwW).trans k2
              have p3_3 := (hb3.cell (p := ⟨w.heap.size, 3, none⟩) hwW).trans k3
              refine hK.out _ _ ⟨p3_0, p3_1, p3_2, p3_3⟩ (fun hS => ?_)
              clear hK
              try simp only [Act.put, List.setIfInBounds_toArray, List.set_cons_zero, List.set_cons_succ]
              have z0 := cell_of_row _ _ 0 _ _ (0, 0) ha3
              have z1 := cell_of_row _ _ 1 _ _ (0, 0) ha3
              have z2 := cell_of_row _ _ 2 _ _ (0, 0) ha3
              have z3 := cell_of_row _ _ 3 _ _ (0, 0) ha3
              have y0 := frozen_of_row _ _ 0 _ _ ha3
              have y1 := frozen_of_row _ _ 1 _ _ ha3
              have y2 := frozen_of_row _ _ 2 _ _ ha3
              have y3 := frozen_of_row _ _ 3 _ _ ha3
              simp only [List.getElem?_toArray, List.getElem?_cons_zero, List.getElem?_cons_succ] at z0 z1 z2 z3
              refine wpAnyH_oneD (i := 12) rfl (by kernel_rfl) (fun K hK => ?_)
              go_simp
              have HK := kcut_end (a := .int .u64 (x.need : Int)) (b := .int .u64 (x.ban : Int)) (d := .string (strB x.next)) (e := .string (strB x.now)) (c := x.cov) ha3 rfl hb3 hbk rfl rfl rfl rfl
              have hb4 := HK.choose_spec.2.2
              refine hK.out _ _ ⟨(hb4.cell (p := ⟨w.heap.size, 0, none⟩) hwW).trans k0, (hb4.cell (p := ⟨w.heap.size, 1, none⟩) hwW).trans k1, (hb4.cell (p := ⟨w.heap.size, 2, none⟩) hwW).trans k2, (hb4.cell (p := ⟨w.heap.size, 3, none⟩) hwW).trans k3⟩ (fun hS => ?_)
              clear hK
              try simp only [Act.put, List.setIfInBounds_toArray, List.set_cons_zero, List.set_cons_succ]
              refine wpAnyH_done (by kernel_rfl) ?_ _
              go_wp2_with fail
              go_meet
              exact HK
            · skip
              go_simp
              obtain ⟨W4, hw4⟩ : ∃ V, V = W1.alloc (.cells #[.int .u64 0, .int .u64 0, .string { data := #[] }, .string { data := #[] }] 106) := ⟨_, rfl⟩
              have hb4 : Below W.heap.size W W4 := by rw [hw4]; exact hb1.alloc hb1.size _
              have ha4 : W4.heap[W1.heap.size]? = some (.cells #[.int .u64 0, .int .u64 0, .string { data := #[] }, .string { data := #[] }] 106 (0, 0)) := by rw [hw4]; exact heap_alloc_new _ _
              rw [← hw4]
              clear hw4
              obtain ⟨bk, hbke⟩ : ∃ bk, bk = W1.heap.size := ⟨_, rfl⟩
              have hbk : W.heap.size ≤ bk := by rw [hbke]; exact hb1.size
              rw [← hbke] at ha4 ⊢
              clear hbke
              have p4_0 := (hb4.cell (p := ⟨w.heap.size, 0, none⟩) hwW).trans k0
              have p4_1 := (hb4.cell (p := ⟨w.heap.size, 1, none⟩) hwW).trans k1
              have p4_2 := (hb4.cell (p := ⟨w.heap.size, 2, none⟩) hwW).trans k2
              have p4_3 := (hb4.cell (p := ⟨w.heap.size, 3, none⟩) hwW).trans k3
              refine hK.out _ _ ⟨p4_0, p4_1, p4_2, p4_3⟩ (fun hS => ?_)
              clear hK
              try simp only [Act.put, List.setIfInBounds_toArray, List.set_cons_zero, List.set_cons_succ]
              refine wpAnyH_oneD (i := 9) rfl (by kernel_rfl) (fun K hK => ?_)
              go_simp
              refine Calls.mono (HB2.out _ hb4) ?_
              rintro e W5 ⟨rfl, hq5⟩
              have hb5 : Below W.heap.size W W5 := hb4.trans (hq5.mono hb4.size)
              have ha5 := (hq5.block bk (heap_lt ha4)).trans ha4
              clear hq5
              have p5_0 := (hb5.cell (p := ⟨w.heap.size, 0, none⟩) hwW).trans k0
              have p5_1 := (hb5.cell (p := ⟨w.heap.size, 1, none⟩) hwW).trans k1
              have p5_2 := (hb5.cell (p := ⟨w.heap.size, 2, none⟩) hwW).trans k2
              have p5_3 := (hb5.cell (p := ⟨w.heap.size, 3, none⟩) hwW).trans k3
              go_wp2_with fail
              refine hK.out _ _ ⟨p5_0, p5_1, p5_2, p5_3⟩ (fun hS => ?_)
              clear hK
              try simp only [Act.put, List.setIfInBounds_toArray, List.set_cons_zero, List.set_cons_succ]
              refine wpAnyH_takeD (i := 10) (v := ?_) rfl (by kernel_rfl) (by kernel_rfl) (by kernel_rfl) (fun _ _ _ h => h) (Or.inl ⟨by kernel_rfl, ?_⟩) hS ?_
              rotate_left 1
              · (intro w' hSw; (try dsimp only at hSw); go_simp; try (with_reducible rfl))
              try simp only [Act.put, List.setIfInBounds_toArray, List.set_cons_zero, List.set_cons_succ]
              have z0 := cell_of_row _ _ 0 _ _ (0, 0) ha5
              have z1 := cell_of_row _ _ 1 _ _ (0, 0) ha5
              have z2 := cell_of_row _ _ 2 _ _ (0, 0) ha5
              have z3 := cell_of_row _ _ 3 _ _ (0, 0) ha5
              have y0 := frozen_of_row _ _ 0 _ _ ha5
              have y1 := frozen_of_row _ _ 1 _ _ ha5
              have y2 := frozen_of_row _ _ 2 _ _ ha5
              have y3 := frozen_of_row _ _ 3 _ _ ha5
              simp only [List.getElem?_toArray, List.getElem?_cons_zero, List.getElem?_cons_succ] at z0 z1 z2 z3
              refine wpAnyH_oneD (i := 12) rfl (by kernel_rfl) (fun K hK => ?_)
              go_simp
              have HK := kcut_end (a := .int .u64 (x.need : Int)) (b := .int .u64 (x.ban : Int)) (d := .string (strB x.next)) (e := .string (strB x.now)) (c := x.cov) ha5 rfl hb5 hbk rfl rfl rfl rfl
              have hb4 := HK.choose_spec.2.2
              refine hK.out _ _ ⟨(hb4.cell (p := ⟨w.heap.size, 0, none⟩) hwW).trans k0, (hb4.cell (p := ⟨w.heap.size, 1, none⟩) hwW).trans k1, (hb4.cell (p := ⟨w.heap.size, 2, none⟩) hwW).trans k2, (hb4.cell (p := ⟨w.heap.size, 3, none⟩) hwW).trans k3⟩ (fun hS => ?_)
              clear hK
              try simp only [Act.put, List.setIfInBounds_toArray, List.set_cons_zero, List.set_cons_succ]
              refine wpAnyH_done (by kernel_rfl) ?_ _
              go_wp2_with fail
              go_meet
              exact HK
          · skip
            go_simp
            obtain ⟨W6, hw6⟩ : ∃ V, V = (W.alloc (.cells #[.int .u64 0, .int .u64 0, .string { data := #[] }, .string { data := #[] }] 106)).drew := ⟨_, rfl⟩
            have hb6 : Below W.heap.size W W6 := by rw [hw6]; exact ((Below.refl _ _).alloc (Nat.le_refl _) _).drew
            have ha6 : W6.heap[W.heap.size]? = some (.cells #[.int .u64 0, .int .u64 0, .string { data := #[] }, .string { data := #[] }] 106 (0, 0)) := by rw [hw6]; exact heap_alloc_new _ _
            rw [← hw6]
            clear hw6
            obtain ⟨bk, hbke⟩ : ∃ bk, bk = W.heap.size := ⟨_, rfl⟩
            have hbk : W.heap.size ≤ bk := by rw [hbke]; exact Nat.le_refl _
            rw [← hbke] at ha6 ⊢
            clear hbke
            have p6_0 := (hb6.cell (p := ⟨w.heap.size, 0, none⟩) hwW).trans k0
            have p6_1 := (hb6.cell (p := ⟨w.heap.size, 1, none⟩) hwW).trans k1
            have p6_2 := (hb6.cell (p := ⟨w.heap.size, 2, none⟩) hwW).trans k2
            have p6_3 := (hb6.cell (p := ⟨w.heap.size, 3, none⟩) hwW).trans k3
            refine hK.out _ _ ⟨p6_0, p6_1, p6_2, p6_3⟩ (fun hS => ?_)
            clear hK
            try simp only [Act.put, List.setIfInBounds_toArray, List.set_cons_zero, List.set_cons_succ]
            refine wpAnyH_oneD (i := 6) rfl (by kernel_rfl) (fun K hK => ?_)
            go_simp
            refine Calls.mono (HB1.out _ hb6) ?_
            rintro e W7 ⟨rfl, hq7⟩
            have hb7 : Below W.heap.size W W7 := hb6.trans (hq7.mono hb6.size)
            have ha7 := (hq7.block bk (heap_lt ha6)).trans ha6
            clear hq7
            have p7_0 := (hb7.cell (p := ⟨w.heap.size, 0, none⟩) hwW).trans k0
            have p7_1 := (hb7.cell (p := ⟨w.heap.size, 1, none⟩) hwW).trans k1
            have p7_2 := (hb7.cell (p := ⟨w.heap.size, 2, none⟩) hwW).trans k2
            have p7_3 := (hb7.cell (p := ⟨w.heap.size, 3, none⟩) hwW).trans k3
            go_wp2_with fail
            refine hK.out _ _ ⟨p7_0, p7_1, p7_2, p7_3⟩ (fun hS => ?_)
            clear hK
            try simp only [Act.put, List.setIfInBounds_toArray, List.set_cons_zero, List.set_cons_succ]
            refine wpAnyH_oneD (i := 9) rfl (by kernel_rfl) (fun K hK => ?_)
            go_simp
            refine Calls.mono (HB2.out _ hb7) ?_
            rintro e W8 ⟨rfl, hq8⟩
            have hb8 : Below W.heap.size W W8 := hb7.trans (hq8.mono hb7.size)
            have ha8 := (hq8.block bk (heap_lt ha7)).trans ha7
            clear hq8
            have p8_0 := (hb8.cell (p := ⟨w.heap.size, 0, none⟩) hwW).trans k0
            have p8_1 := (hb8.cell (p := ⟨w.heap.size, 1, none⟩) hwW).trans k1
            have p8_2 := (hb8.cell (p := ⟨w.heap.size, 2, none⟩) hwW).trans k2
            have p8_3 := (hb8.cell (p := ⟨w.heap.size, 3, none⟩) hwW).trans k3
            go_wp2_with fail
            refine hK.out _ _ ⟨p8_0, p8_1, p8_2, p8_3⟩ (fun hS => ?_)
            clear hK
            try simp only [Act.put, List.setIfInBounds_toArray, List.set_cons_zero, List.set_cons_succ]
            refine wpAnyH_takeD (i := 10) (v := ?_) rfl (by kernel_rfl) (by kernel_rfl) (by kernel_rfl) (fun _ _ _ h => h) (Or.inl ⟨by kernel_rfl, ?_⟩) hS ?_
            rotate_left 1
            · (intro w' hSw; (try dsimp only at hSw); go_simp; try (with_reducible rfl))
            try simp only [Act.put, List.setIfInBounds_toArray, List.set_cons_zero, List.set_cons_succ]
            have z0 := cell_of_row _ _ 0 _ _ (0, 0) ha8
            have z1 := cell_of_row _ _ 1 _ _ (0, 0) ha8
            have z2 := cell_of_row _ _ 2 _ _ (0, 0) ha8
            have z3 := cell_of_row _ _ 3 _ _ (0, 0) ha8
            have y0 := frozen_of_row _ _ 0 _ _ ha8
            have y1 := frozen_of_row _ _ 1 _ _ ha8
            have y2 := frozen_of_row _ _ 2 _ _ ha8
            have y3 := frozen_of_row _ _ 3 _ _ ha8
            simp only [List.getElem?_toArray, List.getElem?_cons_zero, List.getElem?_cons_succ] at z0 z1 z2 z3
            refine wpAnyH_oneD (i := 12) rfl (by kernel_rfl) (fun K hK => ?_)
            go_simp
            have HK := kcut_end (a := .int .u64 (x.need : Int)) (b := .int .u64 (x.ban : Int)) (d := .string (strB x.next)) (e := .string (strB x.now)) (c := x.cov) ha8 rfl hb8 hbk rfl rfl rfl rfl
            have hb4 := HK.choose_spec.2.2
            refine hK.out _ _ ⟨(hb4.cell (p := ⟨w.heap.size, 0, none⟩) hwW).trans k0, (hb4.cell (p := ⟨w.heap.size, 1, none⟩) hwW).trans k1, (hb4.cell (p := ⟨w.heap.size, 2, none⟩) hwW).trans k2, (hb4.cell (p := ⟨w.heap.size, 3, none⟩) hwW).trans k3⟩ (fun hS => ?_)
            clear hK
            try simp only [Act.put, List.setIfInBounds_toArray, List.set_cons_zero, List.set_cons_succ]
            refine wpAnyH_done (by kernel_rfl) ?_ _
            go_wp2_with fail
            go_meet
            exact HK
        case rest =>
          obtain ⟨bk, rfl, hbk, hbc⟩ := hcut
          have hGc := hGW.below hbc
          have c0 := cell_of_row _ _ 0 _ _ (0, 0) hbk
          have c1' := cell_of_row _ _ 1 _ _ (0, 0) hbk
          have c2' := cell_of_row _ _ 2 _ _ (0, 0) hbk
          have c3' := cell_of_row _ _ 3 _ _ (0, 0) hbk
          simp only [List.getElem?_toArray, List.getElem?_cons_zero, List.getElem?_cons_succ] at c0 c1' c2' c3'
          have hsm : CovSmall x.cov := ⟨hn, hb, by show x.next.length ≤ _; omega, by show x.now.length ≤ _; omega⟩
          have hlk := hGc.map.lookup hsm
          have ct := cell_of_row _ _ 0 _ _ (0, 0) hGc.bt
          simp only [List.getElem?_toArray, List.getElem?_cons_zero] at ct
          have hsk : skipL x.now x.todo = [] := HL.out.1.symm
          have hbwc := hbW.trans (hbc.mono hbW.size)
          by_cases hmem : x.cov ∈ T
          · rw [decide_eq_true hmem] at hlk
            have HMEM := Lib.hid hmem
            simp only [keyV, Way.cov] at hlk c0 c1' c2' c3'
            clear hmem
            go_wp2_with fail
            refine bodyPost_end0' rfl rfl ?_
            refine ⟨rfl, v, by rw [leaf_mem hsk HMEM.out]; exact hGc, (Tch.of_below hbwc).mono (fun i hi e => by omega), fun i hi _ => hi⟩
          · rw [decide_eq_false hmem] at hlk
            have HMEM := Lib.hid hmem
            have hle : T.length ≤ 1000000 := by have := HBO.out; omega
            obtain ⟨W5, hup, hm5, hg5⟩ := hGc.map.update hsm hle
            obtain ⟨⟨xs, hxs, hcs⟩, hk5⟩ := hGc.after_map hg5
            obtain ⟨hbb, A6, c6, hbx, _⟩ := BoxW.below HBW.out hbc
            have hbx5 := hk5 hbx
            obtain ⟨m0, m1, m2, m3⟩ := box4 hbx5
            have mo := cell_of_row _ _ 0 _ _ (0, 0) (hk5 hGc.bo)
            have mf := frozen_of_row _ _ 0 _ _ (hk5 hGc.bo)
            simp only [List.getElem?_toArray, List.getElem?_cons_zero] at mo
            have hz5 := hg5.size
            have HM5 := Lib.hid hm5
            have HG5 := Lib.hid hg5
            simp only [keyV, Way.cov] at hlk hup c0 c1' c2' c3'
            have hbo5 := hk5 hGc.bo
            clear hmem hm5 hg5
            have hR5 : WR W5 x A1 c1 A2 c2 A3 c3 := (hRW.below hbc).keep (Tch.of_grown HG5.out) (fun k cs hk e => hGc.mb_cells hk (by simpa using e.symm)) (fun k cs hk e => hGc.mb_cells hk (by simpa using e.symm))
            have hwW5 : w.heap.size < W5.heap.size := World.block_lt_of_cell? W5 _ m0
            have hoW5 : ob < W5.heap.size := World.block_lt_of_cell? W5 _ mo
            have HP1 := Lib.hid (fun (w' : World) (hb : Below W5.heap.size W5 w') => places_any A2 c2 x.next w' W5.heap.size (hR5.next.sl.below hb (Nat.le_refl _)) hb.size (by omega))
            have HP2 := Lib.hid (fun (w' : World) (hb : Below W5.heap.size W5 w') => places_any A1 c1 x.now w' W5.heap.size (hR5.now.sl.below hb (Nat.le_refl _)) hb.size (by omega))
            have HXS := Lib.hid hxs
            have HCS := Lib.hid hcs
            have hn05 : n0 ≤ W5.heap.size := Nat.le_trans hGc.lt.1 hz5
            clear hR5 hxs hcs hk5
            go_wp2_with fail
            refine wp_region_T (S := fun w' => w'.cell? ⟨w.heap.size, 0, none⟩ = some (.int .u64 (x.need : Int)) ∧ w'.cell? ⟨w.heap.size, 1, none⟩ = some (.int .u64 (x.ban : Int)) ∧ w'.cell? ⟨w.heap.size, 2, none⟩ = some (.slice A1 x.now.length c1) ∧ w'.cell? ⟨w.heap.size, 3, none⟩ = some (.slice A2 x.next.length c2) ∧ w'.cell? ⟨ob, 0, none⟩ = some v) 14 (by kernel_rfl) (⟨m0, m1, m2, m3, mo⟩) (fun hS => ?_)
            refine wpAnyT_takeD (i := 0) (v := ?_) rfl (by kernel_rfl) (by kernel_rfl) (by kernel_rfl) (by kernel_rfl) (fun _ _ _ h => h) (Or.inl ⟨by kernel_rfl, ?_⟩) hS ?_
            rotate_left 1
            · (intro w' hSw; (try dsimp only at hSw); go_simp; try (with_reducible rfl))
            try simp only [Act.put, List.setIfInBounds_toArray, List.set_cons_zero, List.set_cons_succ]
            refine wpAnyT_takeD (i := 1) (v := ?_) rfl (by kernel_rfl) (by kernel_rfl) (by kernel_rfl) (by kernel_rfl) (fun _ _ _ h => h) (Or.inl ⟨by kernel_rfl, ?_⟩) hS ?_
            rotate_left 1
            · (intro w' hSw; (try dsimp only at hSw); go_simp; try (with_reducible rfl))
            try simp only [Act.put, List.setIfInBounds_toArray, List.set_cons_zero, List.set_cons_succ]
            refine wpAnyT_takeD (i := 2) (v := ?_) rfl (by kernel_rfl) (by kernel_rfl) (by kernel_rfl) (by kernel_rfl) (fun _ _ _ h => h) (Or.inl ⟨by kernel_rfl, ?_⟩) hS ?_
            rotate_left 1
            · (intro w' hSw; (try dsimp only at hSw); go_simp; try (with_reducible rfl))
            try simp only [Act.put, List.setIfInBounds_toArray, List.set_cons_zero, List.set_cons_succ]
            refine wpAnyT_takeD (i := 3) (v := ?_) rfl (by kernel_rfl) (by kernel_rfl) (by kernel_rfl) (by kernel_rfl) (fun _ _ _ h => h) (Or.inl ⟨by kernel_rfl, ?_⟩) hS ?_
            rotate_left 1
            · (intro w' hSw; (try dsimp only at hSw); go_simp; try (with_reducible rfl))
            try simp only [Act.put, List.setIfInBounds_toArray, List.set_cons_zero, List.set_cons_succ]
            refine wpAnyT_takeD (i := 4) (v := ?_) rfl (by kernel_rfl) (by kernel_rfl) (by kernel_rfl) (by kernel_rfl) (fun _ _ _ h => h) (Or.inl ⟨by kernel_rfl, ?_⟩) hS ?_
            rotate_left 1
            · (intro w' hSw; (try dsimp only at hSw); go_simp; try (with_reducible rfl))
            try simp only [Act.put, List.setIfInBounds_toArray, List.set_cons_zero, List.set_cons_succ]
            refine wpAnyT_takeD (i := 5) (v := ?_) rfl (by kernel_rfl) (by kernel_rfl) (by kernel_rfl) (by kernel_rfl) (fun _ _ _ h => h) (Or.inl ⟨by kernel_rfl, ?_⟩) hS ?_
            rotate_left 1
            · (intro w' hSw; (try dsimp only at hSw); go_simp; try (with_reducible rfl))
            try simp only [Act.put, List.setIfInBounds_toArray, List.set_cons_zero, List.set_cons_succ]
            refine wpAnyT_takeD (i := 6) (v := ?_) rfl (by kernel_rfl) (by kernel_rfl) (by kernel_rfl) (by kernel_rfl) (fun _ _ _ h => h) (Or.inl ⟨by kernel_rfl, ?_⟩) hS ?_
            rotate_left 1
            · (intro w' hSw; (try dsimp only at hSw); go_simp; try (with_reducible rfl))
            try simp only [Act.put, List.setIfInBounds_toArray, List.set_cons_zero, List.set_cons_succ]
            refine wpAnyT_takeD (i := 8) (v := ?_) rfl (by kernel_rfl) (by kernel_rfl) (by kernel_rfl) (by kernel_rfl) (fun _ _ _ h => h) (Or.inl ⟨by kernel_rfl, ?_⟩) hS ?_
            rotate_left 1
            · (intro w' hSw; (try dsimp only at hSw); go_simp; try (with_reducible rfl))
            try simp only [Act.put, List.setIfInBounds_toArray, List.set_cons_zero, List.set_cons_succ]
            refine wpAnyT_takeD (i := 9) (v := ?_) rfl (by kernel_rfl) (by kernel_rfl) (by kernel_rfl) (by kernel_rfl) (fun _ _ _ h => h) (Or.inl ⟨by kernel_rfl, ?_⟩) hS ?_
            rotate_left 1
            · (intro w' hSw; (try dsimp only at hSw); go_simp; try (with_reducible rfl))
            try simp only [Act.put, List.setIfInBounds_toArray, List.set_cons_zero, List.set_cons_succ]
            refine wpAnyT_oneD (i := 7) rfl (by kernel_rfl) (by decide) (fun K hK => ?_)
            go_simp
            refine Calls.mono (HP1.out _ (Below.refl _ _).drew) ?_
            rintro e W7 ⟨v7, rfl, ho7, hb7', -⟩
            have hb7 : Below W5.heap.size W5 W7 := below_undrew hb7'
            clear hb7'
            obtain ⟨A7, c7, rfl, hT1⟩ := TSl.of_own ho7
            clear ho7
            have s7_0 := (hb7.cell (p := ⟨w.heap.size, 0, none⟩) hwW5).trans m0
            have s7_1 := (hb7.cell (p := ⟨w.heap.size, 1, none⟩) hwW5).trans m1
            have s7_2 := (hb7.cell (p := ⟨w.heap.size, 2, none⟩) hwW5).trans m2
            have s7_3 := (hb7.cell (p := ⟨w.heap.size, 3, none⟩) hwW5).trans m3
            have s7_o := (hb7.cell (p := ⟨ob, 0, none⟩) hoW5).trans mo
            go_wp2_with fail
            refine hK.out _ _ ⟨s7_0, s7_1, s7_2, s7_3, s7_o⟩ (fun hS => ?_)
            clear hK
            try simp only [Act.put, List.setIfInBounds_toArray, List.set_cons_zero, List.set_cons_succ]
            refine wpAnyT_oneD (i := 10) rfl (by kernel_rfl) (by decide) (fun K hK => ?_)
            go_simp
            refine Calls.mono (HP2.out _ hb7) ?_
            rintro e W8 ⟨v8, rfl, ho8, hb8', -⟩
            have hb8 : Below W5.heap.size W5 W8 := hb7.trans (hb8'.mono hb7.size)
            have hT1a := hT1.below hb8'
            clear hb8'
            obtain ⟨A8, c8, rfl, hT2⟩ := TSl.of_own ho8
            clear ho8
            have s8_0 := (hb8.cell (p := ⟨w.heap.size, 0, none⟩) hwW5).trans m0
            have s8_1 := (hb8.cell (p := ⟨w.heap.size, 1, none⟩) hwW5).trans m1
            have s8_2 := (hb8.cell (p := ⟨w.heap.size, 2, none⟩) hwW5).trans m2
            have s8_3 := (hb8.cell (p := ⟨w.heap.size, 3, none⟩) hwW5).trans m3
            have s8_o := (hb8.cell (p := ⟨ob, 0, none⟩) hoW5).trans mo
            go_wp2_with fail
            refine hK.out _ _ ⟨s8_0, s8_1, s8_2, s8_3, s8_o⟩ (fun hS => ?_)
            clear hK
            try simp only [Act.put, List.setIfInBounds_toArray, List.set_cons_zero, List.set_cons_succ]
            refine wpAnyT_takeD (i := 11) (v := ?_) rfl (by kernel_rfl) (by kernel_rfl) (by kernel_rfl) (by kernel_rfl) (fun _ _ _ h => h) (Or.inl ⟨by kernel_rfl, ?_⟩) hS ?_
            rotate_left 1
            · (intro w' hSw; (try dsimp only at hSw); go_simp; try (with_reducible rfl))
            try simp only [Act.put, List.setIfInBounds_toArray, List.set_cons_zero, List.set_cons_succ]
            refine wpAnyT_oneD (i := 12) rfl (by kernel_rfl) (by decide) (fun K hK => ?_)
            go_simp
            obtain ⟨W9, hW9⟩ : ∃ V, V = W8.alloc (.cells #[.int .u64 (x.need : Int), .int .u64 (x.ban : Int), .slice A7 (onL x.next).length c7, .slice A8 (onL x.now).length c8] 57) := ⟨_, rfl⟩
            have hq9 : Below W8.heap.size W8 W9 := by rw [hW9]; exact (Below.refl _ _).alloc (Nat.le_refl _) _
            have hn9 : W9.heap[W8.heap.size]? = some (.cells #[.int .u64 (x.need : Int), .int .u64 (x.ban : Int), .slice A7 (onL x.next).length c7, .slice A8 (onL x.now).length c8] 57 (0, 0)) := by rw [hW9]; exact heap_alloc_new _ _
            rw [← hW9]
            clear hW9
            have hb9 : Below W5.heap.size W5 W9 := hb8.trans (hq9.mono hb8.size)
            have hT1' := hT1a.below hq9
            have hT2' := hT2.below hq9
            have hxs8 := own_tch HXS.out (Tch.of_below hb9) (fun g hg => by have := (HXS.out.lt g hg).2; omega)
            have hcs8 := HCS.out.keep (Tch.of_below hb9) (spares_new _ _)
            have s9_0 := (hb9.cell (p := ⟨w.heap.size, 0, none⟩) hwW5).trans m0
            have s9_1 := (hb9.cell (p := ⟨w.heap.size, 1, none⟩) hwW5).trans m1
            have s9_2 := (hb9.cell (p := ⟨w.heap.size, 2, none⟩) hwW5).trans m2
            have s9_3 := (hb9.cell (p := ⟨w.heap.size, 3, none⟩) hwW5).trans m3
            have s9_o := (hb9.cell (p := ⟨ob, 0, none⟩) hoW5).trans mo
            refine hK.out _ _ ⟨s9_0, s9_1, s9_2, s9_3, s9_o⟩ (fun hS => ?_)
            clear hK
            try simp only [Act.put, List.setIfInBounds_toArray, List.set_cons_zero, List.set_cons_succ]
            refine wpAnyT_oneD (i := 13) rfl (by kernel_rfl) (by decide) (fun K hK => ?_)
            refine step_push rfl (.tmp 72) (.tmp 84) 80 rfl n0 57 4 64 sliceCov _ _ _ hxs8 (by rfl) W8.heap.size #[.int .u64 (x.need : Int), .int .u64 (x.ban : Int), .slice A7 (onL x.next).length c7, .slice A8 (onL x.now).length c8] (by rfl) hn9 rfl (by simp [Value.oneCell']) (by omega) (by omega) (by have := hb9.size; omega) ?_
            intro v9 W10 ho9 ht9 hat9 hne9
            obtain ⟨A9, c9, rfl, -⟩ := own_sl ho9
            have hr10 := fun (k : Nat) (cs : Array Value) (t : Nat) (hk : W9.heap[k]? = some (.cells cs t (0, 0))) (hne : 57 ≠ t) => ht9.blk hk (own_ne_blk hxs8 hk hne)
            obtain ⟨u0, u1, u2, u3⟩ := box4 (hr10 _ _ _ ((hb9.block _ hwW5).trans hbx5) (by decide))
            have uo := cell_of_row _ _ 0 _ _ (0, 0) (hr10 _ _ _ ((hb9.block _ hoW5).trans hbo5) (by decide))
            have uf := frozen_of_row _ _ 0 _ _ (hr10 _ _ _ ((hb9.block _ hoW5).trans hbo5) (by decide))
            simp only [List.getElem?_toArray, List.getElem?_cons_zero] at uo
            refine hK.out _ _ ⟨u0, u1, u2, u3, uo⟩ (fun hS => ?_)
            clear hK
            try simp only [Act.put, List.setIfInBounds_toArray, List.set_cons_zero, List.set_cons_succ]
            refine wpAnyT_endD rfl (by kernel_rfl) (by kernel_rfl) (fun K hK => ?_)
            go_simp
            refine hK.out _ _ ?_
            clear hK
            obtain ⟨R1, R2, R3⟩ := hGc.tell HG5.out HM5.out hb9 hT1' hT2' hxs8 hcs8 ho9 ht9 hat9
            go_wp2_with fail
            refine bodyPost_end0' rfl rfl ?_
            refine ⟨rfl, _, by rw [leaf_new hsk HMEM.out]; exact R1, ((Tch.of_below hbwc).mono (S' := Tn ob mb v) (fun i hi e => by omega)).trans R2 (fun i hi e => e), fun i hi hlt => R3 i hi (Nat.lt_of_lt_of_le hlt hbwc.size)⟩
      | cons j t =>
        have hj : j < f.length := HL.out.2 j (by simp)
        have hjn : j < x.now.length := by rw [HX.out.now]; exact hj
        obtain ⟨hbr, A4, c4, hbx, ht4⟩ := HBX.out
        obtain ⟨j0, j1, j2, j3⟩ := box4 hbx
        have j4 : wr.cell? ⟨w.heap.size, 4, none⟩ = some (.slice A4 (j :: t).length c4) := by rw [cell_of_row _ _ 4 _ _ (0, 0) hbx]; rfl
        have jf := frozen_of_row _ _ 4 _ _ hbx
        have hRr := HR.out.below hbr
        rw [List.length_cons] at j4
        obtain ⟨b4, o4, rfl, _, hd4⟩ := ht4.sl.rd.at_ (j := 0) (u := .int .i64 (j : Int)) rfl
        obtain ⟨b1, o1, rfl, _, hd1⟩ := hRr.now.sl.rd.at_ (bcells_at hjn)
        have hc4 := ht4.sl.cap
        have hc41 := hRr.now.sl.cap
        have hm4 := ht4.sl.max
        rw [List.length_cons] at hc4
        unfold maxLen at hm4
        have hsk : x.now.getD j false = true → skipL x.now (j :: t) = skipL x.now t := fun h => by unfold skipL; rw [List.dropWhile_cons, if_pos h]
        have hsn : x.now.getD j false = false → skipL x.now (j :: t) = j :: t := fun h => by unfold skipL; rw [List.dropWhile_cons, if_neg (by rw [h]; decide)]
        have hself : x.now.getD j false = false → True := fun _ => trivial
        generalize hy : x.now.getD j false = y at *
        have HY := Lib.hid hy
        have HSK := Lib.hid hsk
        have HSN := Lib.hid hsn
        have HT4 := Lib.hid ht4
        have HRr := Lib.hid hRr
        have hlx : t.length + 1 ≤ x.todo.length := by simpa using hll
        have htl : (t.length : Int) + 1 ≤ 9223372036854775807 := by omega
        rw [Nat.add_zero] at hd4
        clear hy hsk hsn hself ht4 hRr hll
        have HBOX := Lib.hid hbx
        have hadd : Option.map (fun x : Addr => x.add 1) (some (⟨b4, o4, none⟩ : Addr)) = some ⟨b4, o4 + 1, none⟩ := by simp [Addr.add]
        clear hbx
        cases y
        · go_wp2_with fail
          go_quiet (fail)
          obtain ⟨W, hW⟩ : ∃ W, W = wr.drewN nq := ⟨_, rfl⟩
          have k0 : W.cell? ⟨w.heap.size, 0, none⟩ = some (.int .u64 (x.need : Int)) := by rw [hW]; exact j0
          have k1 : W.cell? ⟨w.heap.size, 1, none⟩ = some (.int .u64 (x.ban : Int)) := by rw [hW]; exact j1
          have k2 : W.cell? ⟨w.heap.size, 2, none⟩ = some (.slice (some ⟨b1, o1, none⟩) x.now.length c1) := by rw [hW]; exact j2
          have k3 : W.cell? ⟨w.heap.size, 3, none⟩ = some (.slice A2 x.next.length c2) := by rw [hW]; exact j3
          have k4 : W.cell? ⟨w.heap.size, 4, none⟩ = some (.slice (some ⟨b4, o4, none⟩) (t.length + 1) c4) := by rw [hW]; exact j4
          have kd : W.cell? ⟨b4, o4, none⟩ = some (.int .i64 (j : Int)) := by rw [hW]; exact hd4
          have kf : W.frozen? ⟨w.heap.size, 4, none⟩ = false := by rw [hW]; exact jf
          have HNX := Lib.hid (BoxW.next hbr HBOX.out HT4.out nq)
          rw [hadd] at HNX
          rw [← hW]
          have HW := Lib.hid hW
          clear hW j0 j1 j2 j3 j4 hd4 jf hd1
          repeat (first | go_values | go_skip | go_guarded | go_step | go_upon | (rename_i hKK; refine hKK _ _ ?_; clear hKK))
          obtain ⟨V, hV⟩ : ∃ V, V = W.setCell ⟨w.heap.size, 4, none⟩ (.slice (if c4 = 1 then some ⟨b4, o4, none⟩ else some ⟨b4, o4 + 1, none⟩) t.length (c4 - 1)) := ⟨_, rfl⟩
          have hBV : BoxW w V x (some ⟨b1, o1, none⟩) c1 A2 c2 t := by rw [hV, HW.out]; exact HNX.out
          rw [← hV]
          clear hV k0 k1 k2 k3 k4 kd kf
          obtain ⟨hbV, k0, k1, k2, k3, A5, c5, k4, -, ht5⟩ := BoxW.cells hBV
          have hGV := HG.out.below hbV
          have hRV0 := HR.out.below hbV
          have hRV : WR V { x with todo := t } (some ⟨b1, o1, none⟩) c1 A2 c2 A5 c5 := ⟨hRV0.now, hRV0.next, ht5⟩
          have kfb := cell_of_row _ _ 0 _ _ (0, 0) hGV.bf
          simp only [List.getElem?_toArray, List.getElem?_cons_zero] at kfb
          have hwV : w.heap.size < V.heap.size := World.block_lt_of_cell? V _ k0
          have hfV : fb < V.heap.size := World.block_lt_of_cell? V _ kfb
          have hskp : skipL x.now x.todo = j :: t := HL.out.1.symm.trans (HSN.out trivial)
          obtain ⟨hmk, hcm, _⟩ := made_ok HX.out hskp
          obtain ⟨ws, hws⟩ : ∃ ws, ws = splitW f j (x.made j t) := ⟨_, rfl⟩
          have HC1 := Lib.hid (fun (w' : World) (hb : Below V.heap.size V w') => made_any { x with todo := t } (some ⟨b1, o1, none⟩) c1 A2 c2 A5 c5 j w' (hRV.below hb) hjn (by show x.now.length ≤ _; omega))
          have HC2 : Hid (∀ (w' : World) (D1 : Option Addr) (d1 : Nat) (D2 : Option Addr) (d2 : Nat) (D3 : Option Addr) (d3 : Nat), Below V.heap.size V w' → WR w' (x.made j t) D1 d1 D2 d2 D3 d3 →
              Calls Tryd.prog 54 #[.agg #[.int .u64 (x.need : Int), .int .u64 (x.ban : Int), .slice D1 x.now.length d1, .slice D2 x.next.length d2, .slice D3 t.length d3], .slice Af f.length cf, .int .i64 (j : Int)] w' (Splits w' ws)) := by
            intro w' D1 d1 D2 d2 D3 d3 hbw hr
            have h := split_any f (x.made j t) D1 d1 D2 d2 D3 d3 Af cf j w' n0 hr (hGV.fs.below hbw hGV.lt.1) (Nat.le_trans hGV.lt.1 hbw.size) (by omega) hN hj hmk hn hb (by show t.length ≤ _; omega)
            rw [← hws, show (x.made j t).now.length = x.now.length by simp [Way.made]] at h
            exact h
          have HWS := Lib.hid hws
          clear hRV0 hws
          refine wp_region_held_drew (S := fun w' => w'.cell? ⟨w.heap.size, 0, none⟩ = some (.int .u64 (x.need : Int)) ∧ w'.cell? ⟨w.heap.size, 1, none⟩ = some (.int .u64 (x.ban : Int)) ∧ w'.cell? ⟨w.heap.size, 2, none⟩ = some (.slice (some ⟨b1, o1, none⟩) x.now.length c1) ∧ w'.cell? ⟨w.heap.size, 3, none⟩ = some (.slice A2 x.next.length c2) ∧ w'.cell? ⟨w.heap.size, 4, none⟩ = some (.slice A5 t.length c5) ∧ w'.cell? ⟨fb, 0, none⟩ = some (.slice Af f.length cf)) (by kernel_rfl) ⟨k0, k1, k2, k3, k4, kfb⟩ (fun hS => ?_)
          refine wpAnyH_takeD (i := 0) (v := ?_) rfl (by kernel_rfl) (by kernel_rfl) (by kernel_rfl) (fun _ _ _ h => h) (Or.inl ⟨by kernel_rfl, ?_⟩) hS ?_
          rotate_left 1
          · (intro w' hSw; (try dsimp only at hSw); go_simp; try (with_reducible rfl))
          try simp only [Act.put, List.setIfInBounds_toArray, List.set_cons_zero, List.set_cons_succ]
          refine wpAnyH_takeD (i := 1) (v := ?_) rfl (by kernel_rfl) (by kernel_rfl) (by kernel_rfl) (fun _ _ _ h => h) (Or.inl ⟨by kernel_rfl, ?_⟩) hS ?_
          rotate_left 1
          · (intro w' hSw; (try dsimp only at hSw); go_simp; try (with_reducible rfl))
          try simp only [Act.put, List.setIfInBounds_toArray, List.set_cons_zero, List.set_cons_succ]
          refine wpAnyH_takeD (i := 3) (v := ?_) rfl (by kernel_rfl) (by kernel_rfl) (by kernel_rfl) (fun _ _ _ h => h) (Or.inl ⟨by kernel_rfl, ?_⟩) hS ?_
          rotate_left 1
          · (intro w' hSw; (try dsimp only at hSw); go_simp; try (with_reducible rfl))
          try simp only [Act.put, List.setIfInBounds_toArray, List.set_cons_zero, List.set_cons_succ]
          refine wpAnyH_takeD (i := 4) (v := ?_) rfl (by kernel_rfl) (by kernel_rfl) (by kernel_rfl) (fun _ _ _ h => h) (Or.inl ⟨by kernel_rfl, ?_⟩) hS ?_
          rotate_left 1
          · (intro w' hSw; (try dsimp only at hSw); go_simp; try (with_reducible rfl))
          try simp only [Act.put, List.setIfInBounds_toArray, List.set_cons_zero, List.set_cons_succ]
          refine wpAnyH_takeD (i := 7) (v := ?_) rfl (by kernel_rfl) (by kernel_rfl) (by kernel_rfl) (fun _ _ _ h => h) (Or.inl ⟨by kernel_rfl, ?_⟩) hS ?_
          rotate_left 1
          · (intro w' hSw; (try dsimp only at hSw); go_simp; try (with_reducible rfl))
          try simp only [Act.put, List.setIfInBounds_toArray, List.set_cons_zero, List.set_cons_succ]
          refine wpAnyH_oneD (i := 2) rfl (by kernel_rfl) (fun K hK => ?_)
          go_simp
          refine Calls.mono (HC1.out _ (Below.refl _ _).drew) ?_
          rintro e W1 ⟨v1, rfl, ⟨D1, d1, D2, d2, D3, d3, rfl, hr1⟩, hb1'⟩
          have hb1 : Below V.heap.size V W1 := below_undrew hb1'
          clear hb1'
          have p0 := (hb1.cell (p := ⟨w.heap.size, 0, none⟩) hwV).trans k0
          have p1 := (hb1.cell (p := ⟨w.heap.size, 1, none⟩) hwV).trans k1
          have p2 := (hb1.cell (p := ⟨w.heap.size, 2, none⟩) hwV).trans k2
          have p3 := (hb1.cell (p := ⟨w.heap.size, 3, none⟩) hwV).trans k3
          have p4 := (hb1.cell (p := ⟨w.heap.size, 4, none⟩) hwV).trans k4
          have pf := (hb1.cell (p := ⟨fb, 0, none⟩) hfV).trans kfb
          dsimp only
          refine hK.out _ _ ⟨p0, p1, p2, p3, p4, pf⟩ (fun hS => ?_)
          clear hK
          try simp only [Act.put, List.setIfInBounds_toArray, List.set_cons_zero, List.set_cons_succ]
          refine wpAnyH_oneD (i := 5) rfl (by kernel_rfl) (fun K hK => ?_)
          go_simp
          refine Calls.mono (HC2.out _ D1 d1 D2 d2 D3 d3 hb1 hr1) ?_
          rintro e W2 ⟨v2, rfl, hws2, hb2'⟩
          have hb2 : Below V.heap.size V W2 := hb1.trans (hb2'.mono hb1.size)
          clear hb2'
          obtain ⟨As, rfl⟩ := hws2.form
          have q0 := (hb2.cell (p := ⟨w.heap.size, 0, none⟩) hwV).trans k0
          have q1 := (hb2.cell (p := ⟨w.heap.size, 1, none⟩) hwV).trans k1
          have q2 := (hb2.cell (p := ⟨w.heap.size, 2, none⟩) hwV).trans k2
          have q3 := (hb2.cell (p := ⟨w.heap.size, 3, none⟩) hwV).trans k3
          have q4 := (hb2.cell (p := ⟨w.heap.size, 4, none⟩) hwV).trans k4
          have qf := (hb2.cell (p := ⟨fb, 0, none⟩) hfV).trans kfb
          dsimp only
          refine hK.out _ _ ⟨q0, q1, q2, q3, q4, qf⟩ (fun hS => ?_)
          clear hK
          try simp only [Act.put, List.setIfInBounds_toArray, List.set_cons_zero, List.set_cons_succ]
          refine wpAnyH_takeD (i := 6) (v := ?_) rfl (by kernel_rfl) (by kernel_rfl) (by kernel_rfl) (fun _ _ _ h => h) (Or.inl ⟨by kernel_rfl, ?_⟩) hS ?_
          rotate_left 1
          · (intro w' hSw; (try dsimp only at hSw); go_simp; try (with_reducible rfl))
          try simp only [Act.put, List.setIfInBounds_toArray, List.set_cons_zero, List.set_cons_succ]
          refine wpAnyH_done (by kernel_rfl) ?_ _
          have hG2 := hGV.below hb2
          have hbw2 := hbV.trans (hb2.mono hbV.size)
          clear q0 q1 q2 q3 q4 qf p0 p1 p2 p3 p4 pf hS
          repeat (first | go_values | go_skip | go_guarded | go_step | go_upon | (rename_i hKK; refine hKK _ _ ?_; clear hKK))
          go_loopw [47] (fun i wz => ∃ (k : Nat) (vk : Value), k ≤ ws.length ∧ i = .int .i64 k ∧ Hid (GS n0 fb gb tb mb ob Af cf f wz (onceC (((ws.take k).flatMap (leaves f n)).map Way.cov) T) vk ∧ Tch (Tn ob mb v) W2 wz ∧ ∀ i, vk.ownBlock = some i → i < W2.heap.size → v.ownBlock = some i)) (fun i _ => ws.length - (intOf i).toNat)
          case atStart => exact ⟨0, v, by omega, rfl, by simpa [onceC] using hG2, Tch.refl _ _, fun i h _ => h⟩
          case round =>
            obtain ⟨k, vk, hk, rfl, HGk⟩ := hrel
            by_cases hlt : k < ws.length
            · obtain ⟨hGk, htk, hok⟩ := HGk.out
              have hwk := hws2.keep htk (hG2.spares (by decide) (by decide)) (hG2.spares (by decide) (by decide)) (hG2.spares (by decide) (by decide))
              rcases hwk with ⟨hnil, _⟩ | ⟨g, cs, hv, hg, hcell⟩
              · rw [hnil] at hlt; simp at hlt
              cases hv
              obtain ⟨E1, e1, E2, e2, E3, e3, hry, g0, g1, g2, g3, g4⟩ := hcell k ws[k] (List.getElem?_eq_getElem hlt)
              rw [← cell_of_row _ _ _ _ _ (0, 0) hg] at g0 g1 g2 g3 g4
              have gf := cell_of_row _ _ 0 _ _ (0, 0) hGk.bg
              simp only [List.getElem?_toArray, List.getElem?_cons_zero] at gf
              generalize hyk : ws[k] = y at *
              have hyw : y ∈ splitW f j (x.made j t) := by rw [← HWS.out, ← hyk]; exact List.getElem_mem hlt
              obtain ⟨hy1, hy2⟩ := split_ok (kidsOk_of hN) hj hmk y hyw
              obtain ⟨hy3, hy4, hy5⟩ := split_small (w := x.made j t) (ndF hN hj) hn hb y hyw
              have hfl := flatMap_take_le (g := leaves f n) hlt hyk
              have hlv : leaves f (n + 1) x = ws.flatMap (leaves f n) := by rw [leaves, hskp, HWS.out]
              have hbo' := HBO.out
              rw [hlv] at hbo'
              have hol := onceC_len (((ws.take k).flatMap (leaves f n)).map Way.cov) T
              rw [List.length_map] at hol
              have hgl := heap_lt hGk.bg
              have hbo := fun o : Obj => (Below.refl wr.heap.size wr).alloc (Nat.le_refl _) o
              have gfa := fun o : Obj => ((hbo o).cell (p := ⟨gb, 0, none⟩) hgl).trans gf
              have HIH := Lib.hid (fun (o : Obj) => ih y E1 e1 E2 e2 E3 e3 (wr.alloc o) (onceC (((ws.take k).flatMap (leaves f n)).map Way.cov) T) vk (hGk.below (hbo o)) (hry.below (hbo o)) hy1 hy3 hy4 (by rw [hy2]; omega)
                (by have : (x.made j t).todo.length = t.length := rfl; omega) (by omega))
              have HST := Lib.hid (once_step (T := T) (g := leaves f n) hlt hyk)
              have hwl : ws.length ≤ 2 := by rw [HWS.out]; have := split_len f j (x.made j t); split at this <;> omega
              have HTK := Lib.hid htk
              have HLT := Lib.hid hlt
              have HOK := Lib.hid hok
              have HBO2 := Lib.hid hbo
              clear hyk hry hGk htk hok hcell hg hws2 htl hm4 hc4 hc41 hlx hyw hy1 hy2 hy3 hy4 hy5 hfl hlv hbo' hol hbo hcm
              repeat (first | go_values | go_skip | go_guarded | go_step | go_upon | (rename_i hKK; refine hKK _ _ ?_; clear hKK))
              refine Calls.mono (HIH.out _) ?_
              rintro e W4 ⟨rfl, v4, hG4, ht4, ho4⟩
              have htA : Tch (Tn ob mb v) W2 W4 := (HTK.out.trans (Tch.of_below (HBO2.out _)) (fun i hi e => by have h1 := HTK.out.size; have e' : wr.heap.size ≤ i := e; omega)).trans ht4 (fun i hi e => by
                rcases e with e | e | e
                · exact .inl e
                · exact .inr (.inl e)
                · exact .inr (.inr (HOK.out i e hi)))
              dsimp only
              repeat (first | go_values | go_skip | go_guarded | go_step | go_upon | (rename_i hKK; refine hKK _ _ ?_; clear hKK))
              go_roundw
              case rel =>
                refine ⟨k + 1, v4, by have := HLT.out; omega, by go_num, ?_, htA, fun i hi hlt2 => ?_⟩
                · rw [HST.out]; exact hG4
                · refine HOK.out i (ho4 i hi ?_) hlt2
                  have h1 := HTK.out.size
                  have h2 := (HBO2.out (.cells #[] 0)).size
                  exact Nat.lt_of_lt_of_le hlt2 (Nat.le_trans h1 (by simp))
              case measure => have := HLT.out; simp [intOf]; omega
            · have hkl : k = ws.length := by omega
              subst hkl
              rw [List.take_of_length_le (Nat.le_refl _)] at HGk
              repeat (first | go_values | go_skip | go_guarded | go_step | go_upon | (rename_i hKK; refine hKK _ _ ?_; clear hKK))
              obtain ⟨hGk, htk, hok⟩ := HGk.out
              have hlv : leaves f (n + 1) x = ws.flatMap (leaves f n) := by rw [leaves, hskp, HWS.out]
              refine bodyPost_ret (results_none rfl _ _ _) rfl ⟨rfl, vk, by rw [hlv]; exact hGk, ((Tch.of_below hbw2).mono (S' := Tn ob mb v) (fun i hi e => by omega)).trans htk (fun i hi e => e), fun i hi hlt => hok i hi (Nat.lt_of_lt_of_le hlt hbw2.size)⟩
        · go_wp2_with fail
          go_quiet (fail)
          have HNX := Lib.hid (BoxW.next hbr HBOX.out HT4.out nq)
          rw [hadd] at HNX
          go_wp2_with fail
          refine ⟨⟨t, ⟨(HSK.out trivial).symm.trans HL.out.1, fun y hy => HL.out.2 y (by simp [hy])⟩, by omega, HNX.out⟩, ?_⟩
          rw [HNX.out.len, HBX.out.len]
          simp
end Go.Proofs.YtamhjgkigjpbhaaDoor
