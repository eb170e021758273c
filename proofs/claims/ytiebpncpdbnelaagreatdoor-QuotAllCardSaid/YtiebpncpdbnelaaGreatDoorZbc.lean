/- Texts that stand one behind the other, in one file. -/
import Derived.Test.YtiebpncpdbnelaaGreatDoorZbb
import Derived.Test.YtiebpncpdbnelaaGreatDoorAu4
namespace Go.Proofs.YtiebpncpdbnelaaGreatDoor
open Go Go.RowKit
def SeqR {α : Type} (F : Fence) (n : Nat) (P : Program) (g : Nat) (lb : Array Value) (R : α → (Nat → Prop) → Array Value → World → Prop) (M : Nat → Prop) (L : List α) (w : World) : Prop :=
 ∀ (l : Nat) (J Jx : List α × (Nat → Prop) → World → Prop) (W : World), Tch (fun _ => False) w W → w.1.size ≤ l → l < W.1.size → OwnFrom W.1.size J → OwnFrom W.1.size Jx →
  (∀ pre x N args W1, J (pre, N) W1 → R x N args W1 → pre ++ [x] <+: L → YieldAt F (n - 1) P l args W1 fun e W' => ∃ N', Rnd N W1 N' W' ∧
   ((e = .returned (.bool true) ∧ J (pre ++ [x], N') W') ∨ (e = .returned (.bool false) ∧ Jx (pre ++ [x], N') W'))) →
  J ([], ext l M) W →
  CallsIn F n P g (#[.func (.yield l) #[] #[]] ++ lb) W fun e W' => (∃ v, e = .returned v) ∧ ((∃ N, J (L, N) W') ∨ (∃ pre N, pre <+: L ∧ Jx (pre, N) W'))
variable {F : Fence} {n : Nat} {P : Program}
theorem wpIn_rangeFunc_R {α : Type} {g : Operand} {ps : Array Tmp} {assign body : Code} {Q : Exit → Act → World → Prop} {a : Act} {w : World}
  (hro : F.round = none) (h1 : 1 ≤ n) {gf : Nat} {lb : Array Value} (hg : a.eval g = .func (.func gf) #[] lb) (hFg : F.fn gf) (eg : ∀ args w, (callFunc gf args).run P w = .ok (.enter gf args) w)
  {R : α → (Nat → Prop) → Array Value → World → Prop} {M : Nat → Prop} {L : List α} (hseq : SeqR F (n - 1) P gf lb R M L w) (hM : ∀ k, M k → k < w.1.size) (hps : ∀ x N args W, R x N args W → args.size = ps.size) (hRm : ∀ x N N' args W, (∀ k, N k → N' k) → R x N' args W → R x N args W)
  (I : List α × (Nat → Prop) → World → Prop) (Ix : Code → List α × (Nat → Prop) → World → Prop) (hI : OwnFrom w.1.size I) (hIx : ∀ c, OwnFrom w.1.size (Ix c)) (h0 : I ([], M) w) (Ax : α → Act → World → Prop) (hAx : ∀ x a', OwnFrom w.1.size (fun (_ : Unit) W => Ax x a' W))
  (hassign : ∀ (l : Nat) (pre : List α) (x : α) (N : Nat → Prop) (args : Array Value) (W : World) (K : Act → World → Prop), I (pre, N) W → R x N args W → pre ++ [x] <+: L → (∀ a' W', Tch N W W' → I (pre, N) W' → Ax x a' W' → K a' W') →
   assign.wpIn (F.inRound l) (n - 1 - 1) P (Exit.then K (fun _ _ _ => False)) { tmps := (ps.zip args).foldl (fun t (p, v) => t.setIfInBounds p v) a.tmps, defers := [] } W)
  (hbody : ∀ (l : Nat) (pre : List α) (x : α) (N : Nat → Prop) (a' : Act) (W : World), w.1.size ≤ l → ¬ N l → (∃ r, W.1[l]? = some (.loop r)) → (∀ k, N k → k < W.1.size) → I (pre, N) W → Ax x a' W → pre ++ [x] <+: L → body.wpIn (F.inRound l) (n - 1 - 1) P (postT I Ix (pre ++ [x]) N W) a' W)
  (hdone : ∀ (D : Nat) (N : Nat → Prop) (W : World), w.1.size ≤ D → ¬ N D → I (L, N) W → W.1[D]? = some (.deferred (some [])) → Q .normal { a with defers := { target := .collected D, args := #[] } :: a.defers } W)
  (hstop : ∀ (D : Nat) (c : Code) (pre : List α) (N : Nat → Prop) (W : World), w.1.size ≤ D → ¬ N D → pre <+: L → Ix c (pre, N) W → W.1[D]? = some (.deferred (some [])) → c.wpIn F n P Q { a with defers := { target := .collected D, args := #[] } :: a.defers } W) :
  (Code.rangeFunc g ps assign body).wpIn F n P Q a w := by
 refine wpIn_rangeFunc ?_
 intro fn hfn
 rw [hro]
 obtain ⟨rec, hrec⟩ : ∃ rec : LoopState → Option Code → Loop, rec = fun st pe => { state := st, pending := pe, fn, tmps := a.tmps, params := ps, assign, body, defers := w.1.size } := ⟨_, rfl⟩
 obtain ⟨W1, hW1⟩ := xQ ((w.alloc (.deferred (some []))).alloc (.loop (rec .ready none)))
 have hL1 : W1.1[w.1.size + 1]? = some (.loop (rec .ready none)) := by
  rw [← hW1]; have := World.alloc_heap_new (w.alloc (.deferred (some []))) (.loop (rec .ready none)); rwa [World.size_alloc] at this
 have hK1 : W1.1[w.1.size]? = some (.deferred (some [])) := by
  rw [← hW1]; exact (Below.heap_alloc _ _ _ (by simp)).trans (World.alloc_heap_new w _)
 have hI1 : I ([], M) W1 := by rw [← hW1]; exact hI.alloc _ (hI.alloc _ h0)
 have hb1 : Tch (fun _ => False) w W1 := by
  rw [← hW1]; exact ((Tch.refl _ _).alloc _).alloc _
 have hs1 : W1.1.size = w.1.size + 2 := by rw [← hW1]; simp
 refine ⟨w.1.size + 1, [{ target := .collected w.1.size, args := #[] }], W1, { target := .fn (.func gf) lb, args := #[.func (.yield (w.1.size + 1)) #[] #[]] }, W1, gf,
  #[.func (.yield (w.1.size + 1)) #[] #[]] ++ lb, W1, ?_, ?_, ?_, ?_, fun _ => h1, ?_⟩
 ·rw [← hW1, hrec]; exact run_enterLoop_outer _ _ _ _ _
 ·simp only [resolve, hg]
  simp [go_sem]
 ·intro f' hf'; simp [Target.leads] at hf'; subst hf'; exact hFg
 ·simp [invoke, go_sem, eg]
 ·refine (hseq (w.1.size + 1)
   (fun s W => ∃ N, s.2 = ext (w.1.size + 1) N ∧ (∀ k, N k → k < W.1.size) ∧ (¬ N (w.1.size + 1) ∧ ¬ N w.1.size) ∧ I (s.1, N) W ∧ W.1[w.1.size + 1]? = some (.loop (rec .ready none)) ∧ W.1[w.1.size]? = some (.deferred (some [])))
   (fun s W => ∃ c N, s.2 = ext (w.1.size + 1) N ∧ ¬ N w.1.size ∧ Ix c (s.1, N) W ∧ W.1[w.1.size + 1]? = some (.loop (rec .done (some c))) ∧ W.1[w.1.size]? = some (.deferred (some [])))
   W1 hb1 (by omega) (by omega)
   (fun s A B row hs hg' hr => by
    obtain ⟨N, e, hlt, hnn, hi, hl, hk⟩ := hs
    exact ⟨N, e, fun k h => Nat.lt_of_lt_of_le (hlt k h) hg'.size, hnn, hI _ A B row hi hg' (fun r e => ⟨by have := (hr r e).1; omega, (hr r e).2⟩),
     (hg'.block _ (aI.1 hl).1 (fun e => by have := (hr _ e.symm).1; omega)).trans hl,
     (hg'.block _ (aI.1 hk).1 (fun e => by have := (hr _ e.symm).1; omega)).trans hk⟩)
   (fun s A B row hs hg' hr => by
    obtain ⟨c, N, e, hn, hc, hl, hk⟩ := hs
    exact ⟨c, N, e, hn, hIx c _ A B row hc hg' (fun r e => ⟨by have := (hr r e).1; omega, (hr r e).2⟩),
     (hg'.block _ (aI.1 hl).1 (fun e => by have := (hr _ e.symm).1; omega)).trans hl,
     (hg'.block _ (aI.1 hk).1 (fun e => by have := (hr _ e.symm).1; omega)).trans hk⟩)
   ?_ ⟨M, rfl, fun k h => by have := hM k h; omega, ⟨fun h => by have := hM _ h; omega, fun h => by have := hM _ h; omega⟩, hI1, hL1, hK1⟩).mono ?_
  ·-- ONE ROUND
   rintro pre x _ args W ⟨N, rfl, hN, ⟨n1, n2⟩, hi, hl, hk⟩ hrx hlen
   replace hrx := hRm x N _ args W (fun k h => .inl h) hrx
   have hlt : w.1.size + 1 < W.1.size := (aI.1 hl).1
   have hy := run_yield (P := P) (args := args) hl (by rw [hrec]; exact hps x _ _ _ hrx)
   rw [hrec] at hy
   refine ⟨fn, _, assign, body, hy, roundIn_of_wpIn hfn (hassign _ pre x N args W _ hi hrx hlen ?_)⟩
   clear hy
   intro a' Wa htch hia hax
   replace hl := (htch.block _ hlt n1).trans hl
   replace hk := (htch.block _ (by omega) n2).trans hk
   have hlt' : w.1.size + 1 < Wa.1.size := (aI.1 hl).1
   refine ⟨_, run_beginRound hl (by rw [hrec]), ?_⟩
   obtain ⟨Wb, hWb⟩ := xQ (Wa.putObj (w.1.size + 1) (.loop { rec .ready none with state := .busy }))
   have hl2 : Wb.1[w.1.size + 1]? = some (.loop { rec .ready none with state := .busy }) := by rw [← hWb]; exact World.putObj_heap_same hlt'
   have hk2 : Wb.1[w.1.size]? = some (.deferred (some [])) := by rw [← hWb]; exact (World.putObj_heap_other (by omega)).trans hk
   have hw2 : Rnd (ext (w.1.size + 1) N) W (ext (w.1.size + 1) N) Wb := by
    rw [← hWb]
    exact Rnd.of_tch ((htch.wide (fun _ h => .inl h)).putObj _ (fun _ => .inr rfl)) (fun k h => h.elim (hN k) (fun e => by omega))
   have hsz : w.1.size + 1 < Wb.1.size := (aI.1 hl2).1
   have hib : I (pre, N) Wb := by rw [← hWb]; exact hI.putObj _ hia (by omega) hl rfl
   have hab : Ax x a' Wb := by rw [← hWb]; exact (hAx x a').putObj (s := ()) _ hax (by omega) hl rfl
   have hNb : ∀ k, N k → k < Wb.1.size := fun k h => by have h1 := hN k h; have h2 := hw2.tch.size; omega
   show body.wpIn _ _ _ _ a' (Wa.putObj (w.1.size + 1) (.loop { rec .ready none with state := .busy }))
   rw [hWb]
   refine wpIn_mono (hbody _ pre x N a' _ (by omega) n1 ⟨_, hl2⟩ hNb hib hab hlen) ?_
   have fin : ∀ (jump : Option Code) (N' : Nat → Prop) (W3 : World), Rnd N Wb N' W3 →
     (Instr.endRound (w.1.size + 1) jump).run P W3 = .ok (.bool jump.isNone) (W3.putObj (w.1.size + 1) (.loop (rec (if jump.isNone then .ready else .done) jump))) ∧
     W3.1[w.1.size + 1]? = some (.loop { rec .ready none with state := .busy }) ∧
     (W3.putObj (w.1.size + 1) (.loop (rec (if jump.isNone then .ready else .done) jump))).1[w.1.size + 1]? = some (.loop (rec (if jump.isNone then .ready else .done) jump)) ∧
     (W3.putObj (w.1.size + 1) (.loop (rec (if jump.isNone then .ready else .done) jump))).1[w.1.size]? = some (.deferred (some [])) ∧
     Rnd (ext (w.1.size + 1) N) W (ext (w.1.size + 1) N') (W3.putObj (w.1.size + 1) (.loop (rec (if jump.isNone then .ready else .done) jump))) := fun jump N' W3 hk3 => by
    have hl3 := (hk3.tch.block _ hsz n1).trans hl2
    have := run_endRound (P := P) jump hl3
    rw [hrec] at this ⊢
    refine ⟨this, by rw [hrec] at hl3; exact hl3, World.putObj_heap_same (aI.1 hl3).1, (World.putObj_heap_other (by omega)).trans ((hk3.tch.block _ (by omega) n2).trans hk2), ?_⟩
    exact (hw2.trans (hk3.ext hsz)).tch_right ((Tch.refl _ _).putObj _ (fun _ => .inr rfl))
   rintro e a3 W3 hp
   cases e with
   | normal =>
    obtain ⟨N', hk3, hi3⟩ := hp
    obtain ⟨hr, hl3, hl4, hk4, ht4⟩ := fin none N' W3 hk3
    exact ⟨_, _, hr, _, ht4, .inl ⟨rfl, N', rfl, fun k h => ht4.lt k (.inl h), ⟨hk3.not hsz n1, hk3.not (by omega) n2⟩, hI.putObj _ hi3 (by omega) hl3 rfl, hl4, hk4⟩⟩
   | ret =>
    obtain ⟨N', hk3, hi3⟩ := hp
    obtain ⟨hr, hl3, hl4, hk4, ht4⟩ := fin (some .ret) N' W3 hk3
    exact ⟨_, _, hr, _, ht4, .inr ⟨rfl, .ret, N', rfl, hk3.not (by omega) n2, (hIx _).putObj _ hi3 (by omega) hl3 rfl, hl4, hk4⟩⟩
   | exit id =>
    obtain ⟨N', hk3, hi3⟩ := hp
    obtain ⟨hr, hl3, hl4, hk4, ht4⟩ := fin (some (.exit id)) N' W3 hk3
    exact ⟨_, _, hr, _, ht4, .inr ⟨rfl, .exit id, N', rfl, hk3.not (by omega) n2, (hIx _).putObj _ hi3 (by omega) hl3 rfl, hl4, hk4⟩⟩
   | goto t =>
    obtain ⟨N', hk3, hi3⟩ := hp
    obtain ⟨hr, hl3, hl4, hk4, ht4⟩ := fin (some (.goto t)) N' W3 hk3
    exact ⟨_, _, hr, _, ht4, .inr ⟨rfl, .goto t, N', rfl, hk3.not (by omega) n2, (hIx _).putObj _ hi3 (by omega) hl3 rfl, hl4, hk4⟩⟩
   | panic ch => exact hp.elim
   | outgrown => exact hp.elim
  ·-- BEHIND THE ITERATOR
   rintro e W2 ⟨⟨v, rfl⟩, (⟨_, N, rfl, _, ⟨_, n2⟩, hi, hl, hk⟩ | ⟨pre, _, hSp, c, N, rfl, n2, hi, hl, hk⟩)⟩
   ·exact ⟨none, _, by have := run_endLoop (P := P) hl (by rw [hrec]; simp); rw [hrec] at this; exact this, hdone _ N _ lR n2 (hI.putObj _ hi (by omega) hl rfl) ((World.putObj_heap_other (by omega)).trans hk)⟩
   ·exact ⟨some c, _, by have := run_endLoop (P := P) hl (by rw [hrec]; simp); rw [hrec] at this; exact this, hstop _ c pre N _ lR n2 hSp ((hIx c).putObj _ hi (by omega) hl rfl) ((World.putObj_heap_other (by omega)).trans hk)⟩
end Go.Proofs.YtiebpncpdbnelaaGreatDoor
namespace Go.Proofs.YtiebpncpdbnelaaGreatDoor
open Go.RowKit
theorem part_ex (E : List (List Nd)) (x : Nat) : ∃ m, PartIs E x m := by
 have key : ∀ n m, m ≤ n → Mut E x m → ∃ m, PartIs E x m := by
  intro n
  induction n with
  | zero => exact fun m hm h => ⟨m, h, fun y _ => by omega⟩
  | succ n ih =>
   intro m hm h
   by_cases hex : ∃ y, y < m ∧ Mut E x y
   ·obtain ⟨y, hy, hy2⟩ := hex
    exact ih y (by omega) hy2
   ·exact ⟨m, h, fun y hy => Nat.le_of_not_lt (fun hl => hex ⟨y, hl, hy⟩)⟩
 exact key x x lR (Mut.refl E x)
noncomputable def ofC (E : List (List Nd)) : List Nat := (List.range E.length).map (fun x => Classical.choose (part_ex E x))
theorem ofC_ok (E : List (List Nd)) : OfOk E (ofC E) := by
 refine ⟨by simp [ofC], fun x hx => ?_⟩
 have : (ofC E).getD x 0 = Classical.choose (part_ex E x) := by simp [ofC, List.getD, hx]
 rw [this]
 exact Classical.choose_spec (part_ex E x)
theorem OfOk.eq {E : List (List Nd)} {of : List Nat} (h : OfOk E of) : of = ofC E := by
 refine List.ext_getElem (by rw [h.len, (ofC_ok E).len]) (fun i h1 h2 => ?_)
 have h3 := h.at_ i (by rw [← h.len]; exact h1)
 have h4 := (ofC_ok E).at_ i (by rw [← h.len]; exact h1)
 rw [gD, gE h1] at h3
 rw [gD, gE h2] at h4
 exact h3.uniq h4
noncomputable def goodL (E : List (List Nd)) (ins : List Nat) (s : Nat) : List (List Nat) := (scParts (ofC E)).filter (goodP E ins s)
noncomputable def lastR (E : List (List Nd)) (ins : List Nat) (s : Nat) : List Bool := backG E.length E (goalL E ins s (scParts (ofC E)))
theorem last_iff {E : List (List Nd)} {ins : List Nat} {s x : Nat} (hx : x < E.length) : (lastR E ins s).getD x false = true ↔ Runs E (asksI ins s) x := lasting_iff (ofC_ok E) hx
theorem part_lt {E : List (List Nd)} {l : List Nat} (hl : l ∈ scParts (ofC E)) : ∀ x ∈ l, x < E.length := by
 obtain ⟨m, -, -, h⟩ := parts_of (ofC_ok E) hl
 exact fun x hx => ((h x).1 hx).1
theorem part_len {E : List (List Nd)} {l : List Nat} (hl : l ∈ scParts (ofC E)) : l.length ≤ E.length := by
 unfold scParts at hl
 obtain ⟨m, -, rfl⟩ := List.mem_map.1 hl
 unfold scPart
 have := List.length_filter_le (fun i => (ofC E).getD i 0 == m) (List.range (ofC E).length)
 rw [List.length_range] at this
 rw [(ofC_ok E).len] at this ⊢
 exact this
theorem parts_len (E : List (List Nd)) : (scParts (ofC E)).length ≤ E.length := by
 unfold scParts repsL
 rw [List.length_map]
 have := List.length_filter_le (fun i => (ofC E).getD i 0 == i) (List.range (ofC E).length)
 rw [List.length_range] at this
 rw [(ofC_ok E).len] at this ⊢
 exact this
structure PlayRd (w : World) (B : Nat) (ai : Option Addr) (ni ci : Nat) (ae : Option Addr) (ne ce : Nat) (al : Option Addr) (nl cl : Nat) (ac : Option Addr) (nc cc : Nat) (I : List Int) (E : List (List Nd)) (L ins : List Nat) : Prop where
 g : GrRd w B ai ni ci ae ne ce al nl cl ⟨I, E, L.map (fun (x : Nat) => (x : Int))⟩
 i : Sl w B 1 ac nc cc (ucellsN ins)
section
variable {w w' : World} {B B' ni ci ne ce nl cl nc cc : Nat} {ai ae al ac : Option Addr} {I : List Int} {E : List (List Nd)} {L ins : List Nat}
theorem PlayRd.below (h : PlayRd w B ai ni ci ae ne ce al nl cl ac nc cc I E L ins) (hb : Below B' w w') (hB : B ≤ B') : PlayRd w' B ai ni ci ae ne ce al nl cl ac nc cc I E L ins := ⟨h.g.below hb hB, h.i.below hb hB⟩
theorem PlayRd.up (h : PlayRd w B ai ni ci ae ne ce al nl cl ac nc cc I E L ins) (hB : B ≤ B') : PlayRd w B' ai ni ci ae ne ce al nl cl ac nc cc I E L ins := ⟨h.g.up hB, h.i.up hB⟩
theorem PlayRd.eni (h : PlayRd w B ai ni ci ae ne ce al nl cl ac nc cc I E L ins) : ni = I.length := h.g.lens.1
theorem PlayRd.ene (h : PlayRd w B ai ni ci ae ne ce al nl cl ac nc cc I E L ins) : ne = E.length := h.g.lens.2.1
theorem PlayRd.enl (h : PlayRd w B ai ni ci ae ne ce al nl cl ac nc cc I E L ins) : nl = L.length := by have := h.g.lens.2.2; simpa using this
theorem PlayRd.enc (h : PlayRd w B ai ni ci ae ne ce al nl cl ac nc cc I E L ins) : nc = ins.length := by have := h.i.len; rw [ucellsN_len] at this; omega
end
theorem PlayPost.open_ {I : List Int} {E : List (List Nd)} {L ins : List Nat} {all : Nat} {w w' : World} {e : Ending} (h : PlayPost I E L ins all w e w') :
  ∃ ai ni ci ae ne ce al nl cl ac nc cc, e = .returned (.agg #[.slice ai ni ci, .slice ae ne ce, .slice al nl cl, .slice ac nc cc, .int .u64 (all : Int)]) ∧ PlayRd w' w'.1.size ai ni ci ae ne ce al nl cl ac nc cc I E L ins ∧ Below w.1.size w w' := by
 obtain ⟨vi, ve, vs, vl, vn, rfl, h1, h2, h3, h4, h5⟩ := h
 obtain ⟨ai, ci, rfl, hi⟩ := own_sl h1
 obtain ⟨ae, ce, rfl, he⟩ := h2.sl2
 obtain ⟨al, cl, rfl, hl⟩ := own_sl h3
 obtain ⟨ac, cc, rfl, hc⟩ := own_sl h4
 refine ⟨ai, _, ci, ae, _, ce, al, _, cl, ac, _, cc, rfl, ⟨⟨hi, he, ?_⟩, hc⟩, h5⟩
 have : (L.map (fun (x : Nat) => (x : Int))).map (Value.int .u64) = ucellsN L := by simp [ucellsN]
 rw [this]
 exact hl
theorem row_own (base : Nat) (e : TypeId) (size : Nat) (u : Value) (n : Nat) (xs : List Value) (B : Nat) : OwnFrom B (fun (_ : Unit) W => W.ownsRow base e size u n xs) := by
 intro s X Y row hr hg hrow
 refine hr.kept hg ?_
 rcases hr.2 with ⟨rfl, _⟩ | ⟨g, cap, cur, rfl, _, hgb, _⟩
 ·exact .inl rfl
 ·refine .inr fun e' => ?_
  obtain ⟨-, o, ho, hc⟩ := hrow g (by simpa [Value.ownBlock] using e'.symm)
  rw [hgb] at ho; cases ho; cases hc
def PartIn (x : List Nat) (N : Nat → Prop) (args : Array Value) (W : World) : Prop :=
 ∃ u, args = #[u] ∧ W.ownsRow 0 3 1 u x.length (icells (natI x)) ∧ ∀ g, u.ownBlock = some g → ¬ N g
theorem PartIn.mono {x : List Nat} {N N' : Nat → Prop} {args : Array Value} {W : World} (hN : ∀ k, N k → N' k) (h : PartIn x N' args W) : PartIn x N args W := by
 obtain ⟨u, h1, h2, h3⟩ := h
 exact ⟨u, h1, h2, fun g hg e => h3 g hg (hN g e)⟩
end Go.Proofs.YtiebpncpdbnelaaGreatDoor
namespace Go.Proofs.YtiebpncpdbnelaaGreatDoor
open Go.RowKit
structure NodesM (w : World) (base : Nat) (vn : Value) (ns : List ANd) (xs : List Value) : Prop where
 own : w.ownsRow base 36 4 vn ns.length xs
 at_ : ∀ (k : Nat) (x : ANd), ns[k]? = some x → ∃ u, xs[k * 4]? = some (.int .u64 (x.need : Int)) ∧ xs[k * 4 + 1]? = some (.int .u64 (x.ban : Int)) ∧ xs[k * 4 + 2]? = some (.int .u64 (x.inn : Int)) ∧ xs[k * 4 + 3]? = some u ∧ w.ownsRow 0 3 1 u x.to.length (icells x.to)
section
variable {w w1 : World} {base : Nat} {vn : Value} {ns : List ANd} {xs : List Value} {S : Nat → Prop}
theorem NodesM.nil (w : World) (base : Nat) : NodesM w base (.slice none 0 0) [] [] := ⟨World.ownsRow_nil _ _ _ _, fun k x h => by simp at h⟩
theorem NodesM.tch (h : NodesM w base vn ns xs) (ht : Tch S w w1) (h1 : ∀ g, vn.ownBlock = some g → ¬ S g) (h2 : ∀ (u : Value) n ys, w.ownsRow 0 3 1 u n ys → ∀ g, u.ownBlock = some g → ¬ S g) : NodesM w1 base vn ns xs :=
 ⟨own_tch h.own ht h1, fun k x hk => by
  obtain ⟨u, e0, e1, e2, e3, ho⟩ := h.at_ k x hk
  exact ⟨u, e0, e1, e2, e3, own_tch ho ht (h2 u _ _ ho)⟩⟩
theorem NodesM.below (h : NodesM w base vn ns xs) (hb : Below w.1.size w w1) : NodesM w1 base vn ns xs :=
 ⟨own_below h.own hb, fun k x hk => by
  obtain ⟨u, e0, e1, e2, e3, ho⟩ := h.at_ k x hk
  exact ⟨u, e0, e1, e2, e3, own_below ho hb⟩⟩
theorem NodesM.push (h : NodesM w base vn ns xs) {x : ANd} {u v' : Value} {o : Obj} (hu : w.ownsRow 0 3 1 u x.to.length (icells x.to))
  (hown : w1.ownsRow base 36 4 v' (ns.length + 1) (xs ++ [.int .u64 (x.need : Int), .int .u64 (x.ban : Int), .int .u64 (x.inn : Int), u])) (ht : Tch (fun k => vn.ownBlock = some k) (w.alloc o) w1) : NodesM w1 base v' (ns ++ [x]) (xs ++ [.int .u64 (x.need : Int), .int .u64 (x.ban : Int), .int .u64 (x.inn : Int), u]) := by
 have ht' : Tch (fun k => vn.ownBlock = some k) w w1 := Tch.trans ((Tch.refl _ w).alloc o) ht (fun _ _ e => e)
 have hkeep : ∀ {u : Value} {n : Nat} {ys : List Value}, w.ownsRow 0 3 1 u n ys → w1.ownsRow 0 3 1 u n ys := fun ho => own_tch ho ht' (fun g hg e => own_ne ho h.own (by decide) g hg e)
 have hxl : xs.length = ns.length * 4 := h.own.1
 refine ⟨by simpa using hown, fun k y hk => ?_⟩
 by_cases hl : k < ns.length
 ·rw [gC hl] at hk
  obtain ⟨u', e0, e1, e2, e3, ho⟩ := h.at_ k y hk
  exact ⟨u', by rw [gC (by omega)]; exact e0, by rw [gC (by omega)]; exact e1, by rw [gC (by omega)]; exact e2, by rw [gC (by omega)]; exact e3, hkeep ho⟩
 ·have hk0 : k = ns.length := by
   have := (gB.1 hk).1
   simp at this; omega
  subst hk0
  rw [gR lR, Nat.sub_self] at hk
  obtain rfl : x = y := by simpa using hk
  refine ⟨u, ?_, ?_, ?_, ?_, hkeep hu⟩ <;> (rw [gR (by omega)]; simp [hxl])
end
structure OutM (base ob : Nat) (sets : Int) (vi : Value) (I : List Int) (vn : Value) (ns : List ANd) (xs : List Value) (w : World) : Prop where
 blk : w.1[ob]? = some (.cells #[.int .i64 sets, vi, vn] 25 (0, 0))
 init : w.ownsRow 0 3 1 vi I.length (icells I)
 nodes : NodesM w base vn ns xs
section
variable {base ob : Nat} {sets : Int} {vi : Value} {I : List Int} {vn : Value} {ns : List ANd} {xs : List Value} {w w1 : World}
theorem OutM.lt (h : OutM base ob sets vi I vn ns xs w) : ob < w.1.size := (aI.1 h.blk).1
theorem OutM.cells (h : OutM base ob sets vi I vn ns xs w) : w.cell? ⟨ob, 0, none⟩ = some (.int .i64 sets) ∧ w.cell? ⟨ob, 1, none⟩ = some vi ∧ w.cell? ⟨ob, 2, none⟩ = some vn := by
 refine ⟨?_, ?_, ?_⟩ <;> (rw [cell_of_row _ _ _ _ _ (0, 0) h.blk]; rfl)
theorem OutM.below (h : OutM base ob sets vi I vn ns xs w) (hb : Below w.1.size w w1) : OutM base ob sets vi I vn ns xs w1 := ⟨(hb.block ob h.lt).trans h.blk, own_below h.init hb, h.nodes.below hb⟩
theorem OutM.push (h : OutM base ob sets vi I vn ns xs w) {x : ANd} {u v' : Value} {o : Obj} (hu : w.ownsRow 0 3 1 u x.to.length (icells x.to))
  (hown : w1.ownsRow base 36 4 v' (ns.length + 1) (xs ++ [.int .u64 (x.need : Int), .int .u64 (x.ban : Int), .int .u64 (x.inn : Int), u])) (ht : Tch (fun k => vn.ownBlock = some k) (w.alloc o) w1) :
  (w1.frozen? ⟨ob, 2, none⟩ = false ∧ ob < w1.1.size ∧ w1.cell? ⟨ob, 2, none⟩ = some vn) ∧ OutM base ob sets vi I v' (ns ++ [x]) (xs ++ [.int .u64 (x.need : Int), .int .u64 (x.ban : Int), .int .u64 (x.inn : Int), u]) (w1.setCell ⟨ob, 2, none⟩ v') := by
 have ht' : Tch (fun k => vn.ownBlock = some k) w w1 := Tch.trans ((Tch.refl _ w).alloc o) ht (fun _ _ e => e)
 have hblk : w1.1[ob]? = some (.cells #[.int .i64 sets, vi, vn] 25 (0, 0)) := ht'.blk h.blk (fun e => own_ne_blk h.nodes.own h.blk (by decide) e)
 have hfar : ∀ {e : TypeId} {size n : Nat} {v : Value} {xs : List Value} {b' : Nat}, w1.ownsRow b' e size v n xs → e ≠ 25 → (w1.setCell ⟨ob, 2, none⟩ v').ownsRow b' e size v n xs := fun ho hne => own_tch ho (tch_cell (w := w1) ob 2 v') (fun g hg e => own_ne_blk ho hblk hne (by rw [hg, e]))
 have hn := h.nodes.push hu hown ht
 refine ⟨⟨frozen_of_row w1 ob 2 _ _ hblk, (aI.1 hblk).1, cR hblk⟩, ?_, hfar (own_tch h.init ht' (fun g hg e => own_ne h.init h.nodes.own (by decide) g hg e)) (by decide), hfar hn.own (by decide), fun k y hk => ?_⟩
 ·rw [heap_setCell_same w1 ob 2 _ _ v' hblk]; rfl
 ·obtain ⟨u', e0, e1, e2, e3, ho⟩ := hn.at_ k y hk
  exact ⟨u', e0, e1, e2, e3, hfar ho (by decide)⟩
theorem OutM.keep {S : Nat → Prop} (h : OutM base ob sets vi I vn ns xs w) (ht : Tch S w w1) (h0 : ¬ S ob) (h1 : ∀ g, vn.ownBlock = some g → ¬ S g) (h2 : ∀ (u : Value) n ys, w.ownsRow 0 3 1 u n ys → ∀ g, u.ownBlock = some g → ¬ S g) : OutM base ob sets vi I vn ns xs w1 :=
 ⟨ht.blk h.blk h0, own_tch h.init ht (h2 vi _ _ h.init), h.nodes.tch ht h1 h2⟩
theorem OutM.rd (h : OutM base ob sets vi I vn ns xs w) : ∃ Ai ci An cn, vi = .slice Ai I.length ci ∧ vn = .slice An ns.length cn ∧ AutRd w w.1.size ⟨sets, I, ns⟩ Ai I.length ci An ns.length cn := by
 obtain ⟨Ai, ci, e1, h1⟩ := own_sl h.init
 obtain ⟨An, cn, e2, h2⟩ := own_sl h.nodes.own
 refine ⟨Ai, ci, An, cn, e1, e2, ⟨rfl, rfl, h1, xs, h2, fun k x hk => ?_⟩⟩
 obtain ⟨u, e0, e1, e2, e3, ho⟩ := h.nodes.at_ k x hk
 obtain ⟨A, c, rfl, hs⟩ := own_sl ho
 exact ⟨A, c, e0, e1, e2, e3, hs⟩
theorem OutM.grown {B : Nat} {row : Option Nat} (h : OutM base ob sets vi I vn ns xs w) (hg : w.grownBy w1 row) (hr : ∀ r, row = some r → B ≤ r ∧ ∃ o : Obj, w.1[r]? = some o ∧ o.isCells = false) : OutM base ob sets vi I vn ns xs w1 := by
 have hro : ∀ {b' : Nat} {e : TypeId} {size n : Nat} {v : Value} {ys : List Value}, w.ownsRow b' e size v n ys → w1.ownsRow b' e size v n ys := fun ho => row_own _ _ _ _ _ _ B () w w1 row ho hg hr
 refine ⟨(hg.block ob h.lt (fun e => ?_)).trans h.blk, hro h.init, hro h.nodes.own, fun k x hk => ?_⟩
 ·obtain ⟨-, o, ho, hc⟩ := hr ob e.symm
  rw [h.blk] at ho; cases ho; cases hc
 ·obtain ⟨u, e0, e1, e2, e3, ho⟩ := h.nodes.at_ k x hk
  exact ⟨u, e0, e1, e2, e3, hro ho⟩
end
def AutOne (w : World) (a : Aut) (en : Ending) (w' : World) : Prop :=
 ∃ Ai ni ci An nn cn, en = .returned (.agg #[.int .i64 a.sets, .slice Ai ni ci, .slice An nn cn]) ∧ AutRd w' w'.1.size a Ai ni ci An nn cn ∧ Below w.1.size w w'
def IntsPost (w : World) (l : List Int) (en : Ending) (w' : World) : Prop := ∃ v, en = .returned v ∧ w'.ownsRow w.1.size 3 1 v l.length (icells l) ∧ Below w.1.size w w'
end Go.Proofs.YtiebpncpdbnelaaGreatDoor
