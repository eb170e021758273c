/- A range over a function whose iterator may hold such a range itself: its contract 'SeqT', and the law for who ranges over it. -/
import Derived.RangeFuncNested
import Derived.Test.YtiebpncpdbnelaaDoorMa
namespace Go.Proofs.YtiebpncpdbnelaaDoor
open Go Go.RowKit
theorem Tch.then_ {M : Nat → Prop} {A B C : World} (h : Tch M A B) (k : Tch M B C) : Tch M A C := h.trans k (fun _ _ e => e)
theorem Tch.wide {M M' : Nat → Prop} {W W' : World} (h : Tch M W W') (hM : ∀ k, M k → M' k) : Tch M' W W' := h.mono (fun k _ => hM k)
theorem Tch.putObj {M : Nat → Prop} {w W : World} (h : Tch M w W) {l : Nat} (o : Obj) (hl : l < w.1.size → M l) : Tch M w (W.putObj l o) :=
 ⟨h.os, h.tape, h.output, by simpa using h.size, fun k hk hm => (World.putObj_heap_other (fun e => by subst e; exact hm (hl hk))).trans (h.block k hk hm)⟩
theorem Tch.cell {M : Nat → Prop} {W W' : World} (h : Tch M W W') {p : Addr} (hp : p.block < W.1.size) (hm : ¬ M p.block) : W'.cell? p = W.cell? p := World.cell?_of_block (w := W) (h.block p.block hp hm)
theorem Tch.grown {M : Nat → Prop} {w W W' : World} (h : Tch M w W) {row : Option Nat} (hg : W.grownBy W' row) (hr : ∀ k, row = some k → k < w.1.size → M k) : Tch M w W' :=
 h.trans (Tch.of_grown hg) (fun k hk e => hr k e hk)
theorem cell_al {W : World} {a : Addr} {v : Value} (o : Obj) (h : W.cell? a = some v) : (W.alloc o).cell? a = some v := cell_kept h (World.grownBy_alloc W o none) (fun r e => by cases e)
theorem boxed_tch {M : Nat → Prop} {W W' : World} {B : Nat} {t : TypeId} {v : Value} (h : Boxed W B t v) (ht : Tch M W W') (hm : ¬ M B) : Boxed W' B t v := ht.blk h hm
theorem yieldAt_any {m : Nat} (m' : Nat) {P : Program} {l : Nat} {args : Array Value} {W : World} {R : Ending → World → Prop} (h : YieldAt Fence.wide m P l args W R) : YieldAt Fence.wide m' P l args W R := by
 obtain ⟨fn, tmps, assign, body, hy, hR⟩ := h
 exact ⟨fn, tmps, assign, body, hy, hR.1, fun c cs _ => hR.2 c cs (fun d h => by cases h)⟩
theorem ownFrom_tch {β : Type} {M : Nat → Prop} {B : Nat} {w₀ : World} (hB : w₀.1.size ≤ B) : OwnFrom B (fun (_ : β) W => Tch M w₀ W) :=
 fun _ X Y row hs hg hr => hs.grown hg (fun k e hk => by have := (hr k e).1; omega)
theorem ownFrom_mono {β : Type} {B B' : Nat} {I : β → World → Prop} (h : OwnFrom B I) (hB : B ≤ B') : OwnFrom B' I := fun s X Y row hs hg hr => h s X Y row hs hg (fun r e => ⟨Nat.le_trans hB (hr r e).1, (hr r e).2⟩)
structure Rnd (M : Nat → Prop) (W : World) (M' : Nat → Prop) (W' : World) : Prop where
 tch : Tch M W W'
 old : ∀ k, k < W.1.size → M' k → M k
 lt : ∀ k, M' k → k < W'.1.size
theorem Rnd.refl {M : Nat → Prop} {W : World} (h : ∀ k, M k → k < W.1.size) : Rnd M W M W := ⟨Tch.refl _ _, fun _ _ e => e, h⟩
theorem Rnd.of_tch {M : Nat → Prop} {W W' : World} (ht : Tch M W W') (h : ∀ k, M k → k < W.1.size) : Rnd M W M W' := ⟨ht, fun _ _ e => e, fun k e => Nat.lt_of_lt_of_le (h k e) ht.size⟩
theorem Rnd.trans {M M1 M2 : Nat → Prop} {A B C : World} (h : Rnd M A M1 B) (k : Rnd M1 B M2 C) : Rnd M A M2 C :=
 ⟨h.tch.trans k.tch (fun i hi e => h.old i hi e), fun i hi e => h.old i hi (k.old i (Nat.lt_of_lt_of_le hi h.tch.size) e), k.lt⟩
theorem Rnd.tch_right {M M1 : Nat → Prop} {A B C : World} (h : Rnd M A M1 B) (k : Tch M1 B C) : Rnd M A M1 C := h.trans (Rnd.of_tch k h.lt)
theorem Rnd.not {M M' : Nat → Prop} {W W' : World} (h : Rnd M W M' W') {k : Nat} (hk : k < W.1.size) (hm : ¬ M k) : ¬ M' k := fun e => hm (h.old k hk e)
theorem ownFrom_rnd {β : Type} {M : Nat → Prop} {B : Nat} {w₀ : World} (hB : w₀.1.size ≤ B) (f : β → Nat → Prop) : OwnFrom B (fun s W => Rnd M w₀ (f s) W) :=
 fun s X Y row hs hg hr => ⟨ownFrom_tch (β := β) hB s X Y row hs.tch hg hr, hs.old, fun k e => Nat.lt_of_lt_of_le (hs.lt k e) hg.size⟩
def ext (l : Nat) (M : Nat → Prop) : Nat → Prop := fun k => M k ∨ k = l
theorem Rnd.ext {l : Nat} {M M' : Nat → Prop} {W W' : World} (h : Rnd M W M' W') (hl : l < W.1.size) : Rnd (ext l M) W (ext l M') W' :=
 ⟨h.tch.wide (fun _ e => .inl e), fun k hk e => e.elim (fun e => .inl (h.old k hk e)) .inr, fun k e => e.elim (h.lt k) (fun e => by subst e; exact Nat.lt_of_lt_of_le hl h.tch.size)⟩
def SeqT {α : Type} (F : Fence) (n : Nat) (P : Program) (g : Nat) (lb : Array Value) (encs : α → Array Value) (M : Nat → Prop) (L : List α) (w : World) : Prop :=
 ∀ (l : Nat) (J Jx : List α × (Nat → Prop) → World → Prop) (W : World), Tch (fun _ => False) w W → w.1.size ≤ l → l < W.1.size → OwnFrom W.1.size J → OwnFrom W.1.size Jx →
  (∀ pre x N W1, J (pre, N) W1 → pre ++ [x] <+: L → YieldAt F (n - 1) P l (encs x) W1 fun e W' => ∃ N', Rnd N W1 N' W' ∧
   ((e = .returned (.bool true) ∧ J (pre ++ [x], N') W') ∨ (e = .returned (.bool false) ∧ Jx (pre ++ [x], N') W'))) →
  J ([], ext l M) W →
  CallsIn F n P g (#[.func (.yield l) #[] #[]] ++ lb) W fun e W' => (∃ v, e = .returned v) ∧ ((∃ N, J (L, N) W') ∨ (∃ pre N, pre <+: L ∧ Jx (pre, N) W'))
def postT {α : Type} (I : List α × (Nat → Prop) → World → Prop) (Ix : Code → List α × (Nat → Prop) → World → Prop) (xs : List α) (N : Nat → Prop) (W : World) : Exit → Act → World → Prop
 | .normal, _, W' => ∃ N', Rnd N W N' W' ∧ I (xs, N') W'
 | .ret, _, W' => ∃ N', Rnd N W N' W' ∧ Ix .ret (xs, N') W'
 | .exit id, _, W' => ∃ N', Rnd N W N' W' ∧ Ix (.exit id) (xs, N') W'
 | .goto t, _, W' => ∃ N', Rnd N W N' W' ∧ Ix (.goto t) (xs, N') W'
 | .panic _, _, _ => False
 | .outgrown, _, _ => False
variable {F : Fence} {n : Nat} {P : Program}
theorem wpIn_rangeFunc_T {α : Type} {g : Operand} {ps : Array Tmp} {assign body : Code} {Q : Exit → Act → World → Prop} {a : Act} {w : World}
  (hro : F.round = none) (h1 : 1 ≤ n) {gf : Nat} {lb : Array Value} (hg : a.eval g = .func (.func gf) #[] lb) (hFg : F.fn gf) (eg : ∀ args w, (callFunc gf args).run P w = .ok (.enter gf args) w)
  {encs : α → Array Value} {M : Nat → Prop} {L : List α} (hseq : SeqT F (n - 1) P gf lb encs M L w) (hM : ∀ k, M k → k < w.1.size) (hps : ∀ x, (encs x).size = ps.size)
  (I : List α × (Nat → Prop) → World → Prop) (Ix : Code → List α × (Nat → Prop) → World → Prop) (hI : OwnFrom w.1.size I) (hIx : ∀ c, OwnFrom w.1.size (Ix c)) (h0 : I ([], M) w) (Ax : α → Act → World → Prop) (hAx : ∀ x a', OwnFrom w.1.size (fun (_ : Unit) W => Ax x a' W))
  (hassign : ∀ (l : Nat) (pre : List α) (x : α) (N : Nat → Prop) (W : World) (K : Act → World → Prop), I (pre, N) W → pre ++ [x] <+: L → (∀ a' W', Tch N W W' → I (pre, N) W' → Ax x a' W' → K a' W') →
   assign.wpIn (F.inRound l) (n - 1 - 1) P (Exit.then K (fun _ _ _ => False)) { tmps := (ps.zip (encs x)).foldl (fun t (p, v) => t.setIfInBounds p v) a.tmps, defers := [] } W)
  (hbody : ∀ (l : Nat) (pre : List α) (x : α) (N : Nat → Prop) (a' : Act) (W : World), w.1.size ≤ l → ¬ N l → (∃ r, W.1[l]? = some (.loop r)) → (∀ k, N k → k < W.1.size) → I (pre, N) W → Ax x a' W → pre ++ [x] <+: L → body.wpIn (F.inRound l) (n - 1 - 1) P (postT I Ix (pre ++ [x]) N W) a' W)
  (hdone : ∀ (D : Nat) (N : Nat → Prop) (W : World), w.1.size ≤ D → ¬ N D → I (L, N) W → W.1[D]? = some (.deferred (some [])) → Q .normal { a with defers := { target := .collected D, args := #[] } :: a.defers } W)
  (hstop : ∀ (D : Nat) (c : Code) (pre : List α) (N : Nat → Prop) (W : World), w.1.size ≤ D → ¬ N D → pre <+: L → Ix c (pre, N) W → W.1[D]? = some (.deferred (some [])) → c.wpIn F n P Q { a with defers := { target := .collected D, args := #[] } :: a.defers } W) :
  (Code.rangeFunc g ps assign body).wpIn F n P Q a w := by
 refine wpIn_rangeFunc ?_
 intro fn hfn
 rw [hro]
 obtain ⟨rec, hrec⟩ : ∃ rec : LoopState → Option Code → Loop, rec = fun st pe => { state := st, pending := pe, fn, tmps := a.tmps, params := ps, assign, body, defers := w.1.size } := ⟨_, rfl⟩
 obtain ⟨W1, hW1⟩ := xQ ((w.alloc (.deferred (some []))).alloc (.loop (rec .ready none)))
 have hL1 : W1.1[w.1.size + 1]? = some (.loop (rec .ready none)) := by
  rw [← hW1]; have := World.alloc_heap_new (w.alloc (.deferred (some []))) (.loop (rec .ready none)); rwa [World.size_alloc] at this
 have hK1 : W1.1[w.1.size]? = some (.deferred (some [])) := by
  rw [← hW1]; exact (Below.heap_alloc _ _ _ (by simp)).trans (World.alloc_heap_new w _)
 have hI1 : I ([], M) W1 := by rw [← hW1]; exact hI.alloc _ (hI.alloc _ h0)
 have hb1 : Tch (fun _ => False) w W1 := by
  rw [← hW1]; exact ((Tch.refl _ _).alloc _).alloc _
 have hs1 : W1.1.size = w.1.size + 2 := by rw [← hW1]; simp
 refine ⟨w.1.size + 1, [{ target := .collected w.1.size, args := #[] }], W1, { target := .fn (.func gf) lb, args := #[.func (.yield (w.1.size + 1)) #[] #[]] }, W1, gf,
  #[.func (.yield (w.1.size + 1)) #[] #[]] ++ lb, W1, ?_, ?_, ?_, ?_, fun _ => h1, ?_⟩
 ·rw [← hW1, hrec]; exact run_enterLoop_outer _ _ _ _ _
 ·simp only [resolve, hg]
  simp [go_sem]
 ·intro f' hf'; simp [Target.leads] at hf'; subst hf'; exact hFg
 ·simp [invoke, go_sem, eg]
 ·refine (hseq (w.1.size + 1)
   (fun s W => ∃ N, s.2 = ext (w.1.size + 1) N ∧ (∀ k, N k → k < W.1.size) ∧ (¬ N (w.1.size + 1) ∧ ¬ N w.1.size) ∧ I (s.1, N) W ∧ W.1[w.1.size + 1]? = some (.loop (rec .ready none)) ∧ W.1[w.1.size]? = some (.deferred (some [])))
   (fun s W => ∃ c N, s.2 = ext (w.1.size + 1) N ∧ ¬ N w.1.size ∧ Ix c (s.1, N) W ∧ W.1[w.1.size + 1]? = some (.loop (rec .done (some c))) ∧ W.1[w.1.size]? = some (.deferred (some [])))
   W1 hb1 (by omega) (by omega)
   (fun s A B row hs hg' hr => by
    obtain ⟨N, e, hlt, hnn, hi, hl, hk⟩ := hs
    exact ⟨N, e, fun k h => Nat.lt_of_lt_of_le (hlt k h) hg'.size, hnn, hI _ A B row hi hg' (fun r e => ⟨by have := (hr r e).1; omega, (hr r e).2⟩),
     (hg'.block _ (aI.1 hl).1 (fun e => by have := (hr _ e.symm).1; omega)).trans hl,
     (hg'.block _ (aI.1 hk).1 (fun e => by have := (hr _ e.symm).1; omega)).trans hk⟩)
   (fun s A B row hs hg' hr => by
    obtain ⟨c, N, e, hn, hc, hl, hk⟩ := hs
    exact ⟨c, N, e, hn, hIx c _ A B row hc hg' (fun r e => ⟨by have := (hr r e).1; omega, (hr r e).2⟩),
     (hg'.block _ (aI.1 hl).1 (fun e => by have := (hr _ e.symm).1; omega)).trans hl,
     (hg'.block _ (aI.1 hk).1 (fun e => by have := (hr _ e.symm).1; omega)).trans hk⟩)
   ?_ ⟨M, rfl, fun k h => by have := hM k h; omega, ⟨fun h => by have := hM _ h; omega, fun h => by have := hM _ h; omega⟩, hI1, hL1, hK1⟩).mono ?_
  ·-- ONE ROUND
   rintro pre x _ W ⟨N, rfl, hN, ⟨n1, n2⟩, hi, hl, hk⟩ hlen
   have hlt : w.1.size + 1 < W.1.size := (aI.1 hl).1
   have hy := run_yield (P := P) (args := encs x) hl (by rw [hrec]; exact hps x)
   rw [hrec] at hy
   refine ⟨fn, _, assign, body, hy, roundIn_of_wpIn hfn (hassign _ pre x N W _ hi hlen ?_)⟩
   clear hy
   intro a' Wa htch hia hax
   replace hl := (htch.block _ hlt n1).trans hl
   replace hk := (htch.block _ (by omega) n2).trans hk
   have hlt' : w.1.size + 1 < Wa.1.size := (aI.1 hl).1
   refine ⟨_, run_beginRound hl (by rw [hrec]), ?_⟩
   obtain ⟨Wb, hWb⟩ := xQ (Wa.putObj (w.1.size + 1) (.loop { rec .ready none with state := .busy }))
   have hl2 : Wb.1[w.1.size + 1]? = some (.loop { rec .ready none with state := .busy }) := by rw [← hWb]; exact World.putObj_heap_same hlt'
   have hk2 : Wb.1[w.1.size]? = some (.deferred (some [])) := by rw [← hWb]; exact (World.putObj_heap_other (by omega)).trans hk
   have hw2 : Rnd (ext (w.1.size + 1) N) W (ext (w.1.size + 1) N) Wb := by
    rw [← hWb]
    exact Rnd.of_tch ((htch.wide (fun _ h => .inl h)).putObj _ (fun _ => .inr rfl)) (fun k h => h.elim (hN k) (fun e => by omega))
   have hsz : w.1.size + 1 < Wb.1.size := (aI.1 hl2).1
   have hib : I (pre, N) Wb := by rw [← hWb]; exact hI.putObj _ hia (by omega) hl rfl
   have hab : Ax x a' Wb := by rw [← hWb]; exact (hAx x a').putObj (s := ()) _ hax (by omega) hl rfl
   have hNb : ∀ k, N k → k < Wb.1.size := fun k h => by have h1 := hN k h; have h2 := hw2.tch.size; omega
   show body.wpIn _ _ _ _ a' (Wa.putObj (w.1.size + 1) (.loop { rec .ready none with state := .busy }))
   rw [hWb]
   refine wpIn_mono (hbody _ pre x N a' _ (by omega) n1 ⟨_, hl2⟩ hNb hib hab hlen) ?_
   have fin : ∀ (jump : Option Code) (N' : Nat → Prop) (W3 : World), Rnd N Wb N' W3 →
     (Instr.endRound (w.1.size + 1) jump).run P W3 = .ok (.bool jump.isNone) (W3.putObj (w.1.size + 1) (.loop (rec (if jump.isNone then .ready else .done) jump))) ∧
     W3.1[w.1.size + 1]? = some (.loop { rec .ready none with state := .busy }) ∧
     (W3.putObj (w.1.size + 1) (.loop (rec (if jump.isNone then .ready else .done) jump))).1[w.1.size + 1]? = some (.loop (rec (if jump.isNone then .ready else .done) jump)) ∧
     (W3.putObj (w.1.size + 1) (.loop (rec (if jump.isNone then .ready else .done) jump))).1[w.1.size]? = some (.deferred (some [])) ∧
     Rnd (ext (w.1.size + 1) N) W (ext (w.1.size + 1) N') (W3.putObj (w.1.size + 1) (.loop (rec (if jump.isNone then .ready else .done) jump))) := fun jump N' W3 hk3 => by
    have hl3 := (hk3.tch.block _ hsz n1).trans hl2
    have := run_endRound (P := P) jump hl3
    rw [hrec] at this ⊢
    refine ⟨this, by rw [hrec] at hl3; exact hl3, World.putObj_heap_same (aI.1 hl3).1, (World.putObj_heap_other (by omega)).trans ((hk3.tch.block _ (by omega) n2).trans hk2), ?_⟩
    exact (hw2.trans (hk3.ext hsz)).tch_right ((Tch.refl _ _).putObj _ (fun _ => .inr rfl))
   rintro e a3 W3 hp
   cases e with
   | normal =>
    obtain ⟨N', hk3, hi3⟩ := hp
    obtain ⟨hr, hl3, hl4, hk4, ht4⟩ := fin none N' W3 hk3
    exact ⟨_, _, hr, _, ht4, .inl ⟨rfl, N', rfl, fun k h => ht4.lt k (.inl h), ⟨hk3.not hsz n1, hk3.not (by omega) n2⟩, hI.putObj _ hi3 (by omega) hl3 rfl, hl4, hk4⟩⟩
   | ret =>
    obtain ⟨N', hk3, hi3⟩ := hp
    obtain ⟨hr, hl3, hl4, hk4, ht4⟩ := fin (some .ret) N' W3 hk3
    exact ⟨_, _, hr, _, ht4, .inr ⟨rfl, .ret, N', rfl, hk3.not (by omega) n2, (hIx _).putObj _ hi3 (by omega) hl3 rfl, hl4, hk4⟩⟩
   | exit id =>
    obtain ⟨N', hk3, hi3⟩ := hp
    obtain ⟨hr, hl3, hl4, hk4, ht4⟩ := fin (some (.exit id)) N' W3 hk3
    exact ⟨_, _, hr, _, ht4, .inr ⟨rfl, .exit id, N', rfl, hk3.not (by omega) n2, (hIx _).putObj _ hi3 (by omega) hl3 rfl, hl4, hk4⟩⟩
   | goto t =>
    obtain ⟨N', hk3, hi3⟩ := hp
    obtain ⟨hr, hl3, hl4, hk4, ht4⟩ := fin (some (.goto t)) N' W3 hk3
    exact ⟨_, _, hr, _, ht4, .inr ⟨rfl, .goto t, N', rfl, hk3.not (by omega) n2, (hIx _).putObj _ hi3 (by omega) hl3 rfl, hl4, hk4⟩⟩
   | panic ch => exact hp.elim
   | outgrown => exact hp.elim
  ·-- BEHIND THE ITERATOR
   rintro e W2 ⟨⟨v, rfl⟩, (⟨_, N, rfl, _, ⟨_, n2⟩, hi, hl, hk⟩ | ⟨pre, _, hSp, c, N, rfl, n2, hi, hl, hk⟩)⟩
   ·exact ⟨none, _, by have := run_endLoop (P := P) hl (by rw [hrec]; simp); rw [hrec] at this; exact this, hdone _ N _ lR n2 (hI.putObj _ hi (by omega) hl rfl) ((World.putObj_heap_other (by omega)).trans hk)⟩
   ·exact ⟨some c, _, by have := run_endLoop (P := P) hl (by rw [hrec]; simp); rw [hrec] at this; exact this, hstop _ c pre N _ lR n2 hSp ((hIx c).putObj _ hi (by omega) hl rfl) ((World.putObj_heap_other (by omega)).trans hk)⟩
def marksOf (Ds : List Nat) : List Deferred := Ds.map fun D => { target := .collected D, args := #[] }
def Marks (B : Nat) (Ds : List Nat) (W : World) : Prop := Ds.Nodup ∧ ∀ D ∈ Ds, B ≤ D ∧ W.1[D]? = some (.deferred (some []))
theorem Marks.nil (B : Nat) (W : World) : Marks B [] W := ⟨List.nodup_nil, fun _ h => by cases h⟩
theorem Marks.cons {B D : Nat} {Ds : List Nat} {W : World} (h : Marks B Ds W) (hB : B ≤ D) (hD : W.1[D]? = some (.deferred (some []))) (hn : D ∉ Ds) : Marks B (D :: Ds) W :=
 ⟨List.nodup_cons.2 ⟨hn, h.1⟩, fun E hE => by rcases List.mem_cons.1 hE with rfl | hE; exact ⟨hB, hD⟩; exact h.2 E hE⟩
theorem Marks.lt {B D : Nat} {Ds : List Nat} {W : World} (h : Marks B Ds W) (hD : D ∈ Ds) : D < W.1.size := (aI.1 (h.2 D hD).2).1
theorem Marks.tch {B : Nat} {Ds : List Nat} {W W' : World} {M : Nat → Prop} (h : Marks B Ds W) (ht : Tch M W W') (hM : ∀ D ∈ Ds, ¬ M D) : Marks B Ds W' :=
 ⟨h.1, fun D hD => ⟨(h.2 D hD).1, (ht.block D (h.lt hD) (hM D hD)).trans (h.2 D hD).2⟩⟩
theorem leaves_marks {fn : Func} {tmps : Array Value} {R : Ending → World → Prop} {B : Nat} {K : World → Prop} (hK : OwnFrom B (fun (_ : Unit) W => K W)) (hR : ∀ W, K W → LeavesIn F n P fn tmps R [] .returning W) :
  ∀ (Ds : List Nat) (W : World), Marks B Ds W → K W → LeavesInM F n P fn tmps R (marksOf Ds) .returning W := by
 intro Ds
 induction Ds with
 | nil => intro W _ hk; exact hR W hk
 | cons D Ds ih =>
  intro W hm hk
  have hD := hm.2 D (List.mem_cons_self ..)
  refine ⟨by simp, .inl ⟨D, _, rfl, run_takeDeferred hD.2, ih _ ⟨(List.nodup_cons.1 hm.1).2, fun E hE => ?_⟩ (hK.putObj (s := ()) _ hk hD.1 hD.2 rfl)⟩⟩
  have hE' := hm.2 E (List.mem_cons_of_mem _ hE)
  exact ⟨hE'.1, (World.putObj_heap_other (fun e => (List.nodup_cons.1 hm.1).1 (by rw [← e]; exact hE))).trans hE'.2⟩
end Go.Proofs.YtiebpncpdbnelaaDoor
