/- The walk of layer 27: Same. -/
import Derived.Test.YtkikkplpalabhaaWk12
namespace Go.Proofs.Ytkikkplpalabhaa
open Go.RowKit

/-- P27.3. -/
def sameP (st lo st' lo' : List Int) : Bool := if lo = [] ∨ lo' = [] then false else decide (normL st lo = normL st' lo')

/-- A new word, with its lengths named. -/
def NewWordN (w : World) (l1 l2 : Nat) (p : List Int × List Int) (en : Ending) (w' : World) : Prop :=
  ∃ v1 v2, en = .returned (.agg #[v1, v2]) ∧ w'.ownsRow w.heap.size 38 1 v1 l1 (ucells p.1) ∧ w'.ownsRow w.heap.size 38 1 v2 l2 (ucells p.2) ∧ Below w.heap.size w w'
/-- Two words and two boxes, on the way. -/
structure TwS (w0 W : World) (l1 l2 l1' l2' : Nat) (p p' : List Int × List Int) (v v' : Option (Value × Value)) (g g' : Option Nat) : Prop where
  b : Below w0.heap.size w0 W
  own : ∀ x, v = some x → W.ownsRow w0.heap.size 38 1 x.1 l1 (ucells p.1) ∧ W.ownsRow w0.heap.size 38 1 x.2 l2 (ucells p.2)
  own' : ∀ x, v' = some x → W.ownsRow w0.heap.size 38 1 x.1 l1' (ucells p'.1) ∧ W.ownsRow w0.heap.size 38 1 x.2 l2' (ucells p'.2)
  blk : ∀ k, g = some k → W.heap[k]? = some (.cells #[.slice none 0 0, .slice none 0 0] 34 (0, 0)) ∧ w0.heap.size ≤ k
  blk' : ∀ k, g' = some k → W.heap[k]? = some (.cells #[.slice none 0 0, .slice none 0 0] 34 (0, 0)) ∧ w0.heap.size ≤ k
  ne : ∀ k k', g = some k → g' = some k' → k ≠ k'
theorem TwS.start (w0 : World) (l1 l2 l1' l2' : Nat) (p p' : List Int × List Int) : TwS w0 w0.drew l1 l2 l1' l2' p p' none none none none :=
  ⟨(Below.refl _ _).drew, fun _ h => (by cases h), fun _ h => (by cases h), fun _ h => (by cases h), fun _ h => (by cases h), fun _ _ h => (by cases h)⟩
section
variable {w0 W W' : World} {l1 l2 l1' l2' : Nat} {p p' : List Int × List Int} {v v' : Option (Value × Value)} {g g' : Option Nat}
theorem TwS.step (h : TwS w0 W l1 l2 l1' l2' p p' v v' g g') (hb : Below W.heap.size W W') : TwS w0 W' l1 l2 l1' l2' p p' v v' g g' :=
  ⟨h.b.trans (hb.mono h.b.size), fun x hx => ⟨own_belW hb (Nat.le_refl _) (h.own x hx).1, own_belW hb (Nat.le_refl _) (h.own x hx).2⟩, fun x hx => ⟨own_belW hb (Nat.le_refl _) (h.own' x hx).1, own_belW hb (Nat.le_refl _) (h.own' x hx).2⟩,
   fun k hk => ⟨(hb.block k (lt_of_block (h.blk k hk).1)).trans (h.blk k hk).1, (h.blk k hk).2⟩, fun k hk => ⟨(hb.block k (lt_of_block (h.blk' k hk).1)).trans (h.blk' k hk).1, (h.blk' k hk).2⟩, h.ne⟩
theorem TwS.word (h : TwS w0 W l1 l2 l1' l2' p p' none v' g g') {v1 v2 : Value} (hb : Below W.heap.size W W') (h1 : W'.ownsRow W.heap.size 38 1 v1 l1 (ucells p.1)) (h2 : W'.ownsRow W.heap.size 38 1 v2 l2 (ucells p.2)) : TwS w0 W' l1 l2 l1' l2' p p' (some (v1, v2)) v' g g' :=
  ⟨(h.step hb).b, fun x hx => by cases hx; exact ⟨own_base h1 h.b.size, own_base h2 h.b.size⟩, (h.step hb).own', (h.step hb).blk, (h.step hb).blk', h.ne⟩
theorem TwS.word' (h : TwS w0 W l1 l2 l1' l2' p p' v none g g') {v1 v2 : Value} (hb : Below W.heap.size W W') (h1 : W'.ownsRow W.heap.size 38 1 v1 l1' (ucells p'.1)) (h2 : W'.ownsRow W.heap.size 38 1 v2 l2' (ucells p'.2)) : TwS w0 W' l1 l2 l1' l2' p p' v (some (v1, v2)) g g' :=
  ⟨(h.step hb).b, (h.step hb).own, fun x hx => by cases hx; exact ⟨own_base h1 h.b.size, own_base h2 h.b.size⟩, (h.step hb).blk, (h.step hb).blk', h.ne⟩
theorem TwS.al (h : TwS w0 W l1 l2 l1' l2' p p' v v' none g') (hn : W'.heap[W.heap.size]? = some (.cells #[.slice none 0 0, .slice none 0 0] 34 (0, 0))) (hb : Below W.heap.size W W') : TwS w0 W' l1 l2 l1' l2' p p' v v' (some W.heap.size) g' :=
  ⟨(h.step hb).b, (h.step hb).own, (h.step hb).own', fun k hk => by cases hk; exact ⟨hn, h.b.size⟩, (h.step hb).blk', fun k k' hk hk' => by cases hk; have := lt_of_block (h.blk' k' hk').1; omega⟩
theorem TwS.al' (h : TwS w0 W l1 l2 l1' l2' p p' v v' g none) (hn : W'.heap[W.heap.size]? = some (.cells #[.slice none 0 0, .slice none 0 0] 34 (0, 0))) (hb : Below W.heap.size W W') : TwS w0 W' l1 l2 l1' l2' p p' v v' g (some W.heap.size) :=
  ⟨(h.step hb).b, (h.step hb).own, (h.step hb).own', (h.step hb).blk, fun k hk => by cases hk; exact ⟨hn, h.b.size⟩, fun k k' hk hk' => by cases hk'; have := lt_of_block (h.blk k hk).1; omega⟩
theorem TwS.al0 (hn : W'.heap[w0.heap.size]? = some (.cells #[.slice none 0 0, .slice none 0 0] 34 (0, 0))) (hb : Below w0.heap.size w0 W') : TwS w0 W' l1 l2 l1' l2' p p' none none (some w0.heap.size) none :=
  ⟨hb, fun _ h => (by cases h), fun _ h => (by cases h), fun k hk => (by cases hk; exact ⟨hn, Nat.le_refl _⟩), fun _ h => (by cases h), fun _ _ _ h => (by cases h)⟩
theorem TwS.al0' (hn : W'.heap[w0.heap.size]? = some (.cells #[.slice none 0 0, .slice none 0 0] 34 (0, 0))) (hb : Below w0.heap.size w0 W') : TwS w0 W' l1 l2 l1' l2' p p' none none none (some w0.heap.size) :=
  ⟨hb, fun _ h => (by cases h), fun _ h => (by cases h), fun _ h => (by cases h), fun k hk => (by cases hk; exact ⟨hn, Nat.le_refl _⟩), fun _ _ h => (by cases h)⟩
theorem word_setO {k : Nat} {W : World} {g0 : Nat} {x y : Value} {o : Obj} (hk : k ≠ g0) (h : W.heap[k]? = some o) : ((W.setCell ⟨g0, 0, none⟩ x).setCell ⟨g0, 1, none⟩ y).heap[k]? = some o := by
  rw [Below.heap_setCell _ ⟨g0, 1, none⟩ _ _ hk, Below.heap_setCell _ ⟨g0, 0, none⟩ _ _ hk]; exact h
theorem own_wordO {W : World} {base n g0 : Nat} {v x y a b : Value} {xs : List Value} (h : W.ownsRow base 38 1 v n xs) (hg : W.heap[g0]? = some (.cells #[a, b] 34 (0, 0))) : ((W.setCell ⟨g0, 0, none⟩ x).setCell ⟨g0, 1, none⟩ y).ownsRow base 38 1 v n xs :=
  ownsRow_setCell_other (a := ⟨g0, 1, none⟩) (ownsRow_setCell_other (a := ⟨g0, 0, none⟩) h (own_ne_blk h hg (by decide)) x) (own_ne_blk h hg (by decide)) y
theorem word_blk {W : World} {g0 T : Nat} {a b x y : Value} (h : W.heap[g0]? = some (.cells #[a, b] T (0, 0))) : ((W.setCell ⟨g0, 0, none⟩ x).setCell ⟨g0, 1, none⟩ y).heap[g0]? = some (.cells #[x, y] T (0, 0)) := by
  have h1 := heap_setCell_same W g0 0 _ _ x h
  have h2 := heap_setCell_same _ g0 1 _ _ y h1
  rw [h2]; rfl
theorem blk2 {W : World} {g0 T : Nat} {a b : Value} (h : W.heap[g0]? = some (.cells #[a, b] T (0, 0))) : (W.cell? ⟨g0, 0, none⟩ = some a ∧ W.cell? ⟨g0, 1, none⟩ = some b) ∧ (W.frozen? ⟨g0, 0, none⟩ = false ∧ W.frozen? ⟨g0, 1, none⟩ = false) :=
  ⟨⟨by rw [cell_of_row _ _ 0 _ _ (0, 0) h]; rfl, by rw [cell_of_row _ _ 1 _ _ (0, 0) h]; rfl⟩, ⟨frozen_of_row _ _ 0 _ _ h, frozen_of_row _ _ 1 _ _ h⟩⟩
theorem sl_own {W : World} {base e n c : Nat} {A : Option Addr} {xs : List Value} (h : W.ownsRow base e 1 (.slice A n c) n xs) : Sl W W.heap.size 1 A n c xs := by
  obtain ⟨A', c', e, hs⟩ := own_sl h
  cases e; exact hs
/-- Both boxes are filled. -/
structure TwE (w0 W : World) (l1 l2 l1' l2' : Nat) (p p' : List Int × List Int) (x x' : Value × Value) (k k' : Nat) : Prop where
  b : Below w0.heap.size w0 W
  own : W.ownsRow w0.heap.size 38 1 x.1 l1 (ucells p.1) ∧ W.ownsRow w0.heap.size 38 1 x.2 l2 (ucells p.2)
  own' : W.ownsRow w0.heap.size 38 1 x'.1 l1' (ucells p'.1) ∧ W.ownsRow w0.heap.size 38 1 x'.2 l2' (ucells p'.2)
  blk : W.heap[k]? = some (.cells #[x.1, x.2] 34 (0, 0))
  blk' : W.heap[k']? = some (.cells #[x'.1, x'.2] 34 (0, 0))
theorem TwS.mid {x x' : Value × Value} {k k' : Nat} (h : TwS w0 W l1 l2 l1' l2' p p' (some x) (some x') (some k) (some k')) {W1 : World} (h1 : W1 = (W.setCell ⟨k, 0, none⟩ x.1).setCell ⟨k, 1, none⟩ x.2) : W1.heap[k']? = some (.cells #[.slice none 0 0, .slice none 0 0] 34 (0, 0)) ∧ Below w0.heap.size w0 W1 := by
  subst h1
  exact ⟨word_setO (h.ne k k' rfl rfl).symm (h.blk' k' rfl).1, (h.b.setCell (p := ⟨k, 0, none⟩) (h.blk k rfl).2 _).setCell (p := ⟨k, 1, none⟩) (h.blk k rfl).2 _⟩
theorem TwS.fin {x x' : Value × Value} {k k' : Nat} (h : TwS w0 W l1 l2 l1' l2' p p' (some x) (some x') (some k) (some k')) {W1 W2 : World} (h1 : W1 = (W.setCell ⟨k, 0, none⟩ x.1).setCell ⟨k, 1, none⟩ x.2) (h2 : W2 = (W1.setCell ⟨k', 0, none⟩ x'.1).setCell ⟨k', 1, none⟩ x'.2) : TwE w0 W2 l1 l2 l1' l2' p p' x x' k k' := by
  obtain ⟨hm, hbm⟩ := h.mid h1
  obtain ⟨a1, a2⟩ := h.own x rfl
  obtain ⟨b1, b2⟩ := h.own' x' rfl
  have hg := (h.blk k rfl).1
  have hn := h.ne k k' rfl rfl
  have hle := (h.blk' k' rfl).2
  subst h1
  have c1 := own_wordO (x := x.1) (y := x.2) a1 hg
  have c2 := own_wordO (x := x.1) (y := x.2) a2 hg
  have d1 := own_wordO (x := x.1) (y := x.2) b1 hg
  have d2 := own_wordO (x := x.1) (y := x.2) b2 hg
  have hg1 := word_blk (x := x.1) (y := x.2) hg
  subst h2
  exact ⟨(hbm.setCell (p := ⟨k', 0, none⟩) hle _).setCell (p := ⟨k', 1, none⟩) hle _, ⟨own_wordO c1 hm, own_wordO c2 hm⟩, ⟨own_wordO d1 hm, own_wordO d2 hm⟩, word_setO hn hg1, word_blk hm⟩
end
set_option maxHeartbeats 8000000 in
set_option maxRecDepth 100000 in
theorem pSame_any (A1 A2 D1 D2 : Option Addr) (n1 c1 n2 c2 m1 d1 m2 d2 : Nat) (st lo st' lo' : List Int) (w : World) (B : Nat) (h : WRd w B A1 A2 n1 c1 n2 c2 st lo) (h' : WRd w B D1 D2 m1 d1 m2 d2 st' lo') (hB : B ≤ w.heap.size) (hl : n1 + n2 ≤ 30000) (hl' : m1 + m2 ≤ 30000) :
    Calls Try.prog 45 #[.agg #[.slice A1 n1 c1, .slice A2 n2 c2], .agg #[.slice D1 m1 d1, .slice D2 m2 d2]] w (Tru w (sameP st lo st' lo')) := by
  have HX := Lib.hid (box2 w (.cells #[.slice A1 n1 c1, .slice A2 n2 c2] 34) (.cells #[.slice D1 m1 d1, .slice D2 m2 d2] 34))
  have HC := Lib.hid (fun (w' : World) => pCheck_any A1 A2 n1 c1 n2 c2 st lo w' h.l1 h.l2 (by omega))
  have HC' := Lib.hid (fun (w' : World) => pCheck_any D1 D2 m1 d1 m2 d2 st' lo' w' h'.l1 h'.l2 (by omega))
  by_cases h0 : n2 = 0
  · have hlo : lo = [] := List.eq_nil_of_length_eq_zero (by have := h.l2; omega)
    have hN : sameP st lo st' lo' = false := by rw [sameP, if_pos (.inl hlo)]
    rw [hN]
    have hC := HC.out
    rw [if_pos h0] at hC
    have HC0 := Lib.hid hC
    clear hN h h' h0 hC hlo
    go_enter Try.func45, Try.ntmps45
    go_wp2_with fail
    refine Calls.mono (HC0.out _) ?_
    rintro e wa ⟨rfl, hba⟩
    have hb := HX.out.1.trans (hba.mono HX.out.1.size)
    go_wp2
    go_ret
    exact ⟨rfl, hb⟩
  by_cases h0' : m2 = 0
  · have hlo : lo' = [] := List.eq_nil_of_length_eq_zero (by have := h'.l2; omega)
    have hN : sameP st lo st' lo' = false := by rw [sameP, if_pos (.inr hlo)]
    rw [hN]
    have hC := HC.out
    have hC' := HC'.out
    rw [if_neg h0] at hC
    rw [if_pos h0'] at hC'
    have HC0 := Lib.hid hC
    have HC0' := Lib.hid hC'
    clear hN h h' h0 h0' hC hC' hlo
    go_enter Try.func45, Try.ntmps45
    go_wp2_with fail
    refine Calls.mono (HC0.out _) ?_
    rintro e wa ⟨rfl, hba⟩
    obtain ⟨hb0, hx0, hx1, hxz⟩ := HX.out
    rw [hxz] at hba
    have q0 : wa.cell? ⟨w.heap.size + 1, 0, none⟩ = some (.slice D1 m1 d1) := by rw [cell_of_row _ _ 0 _ _ (0, 0) ((hba.block (w.heap.size + 1) (by omega)).trans hx1)]; rfl
    have q1 : wa.cell? ⟨w.heap.size + 1, 1, none⟩ = some (.slice D2 m2 d2) := by rw [cell_of_row _ _ 1 _ _ (0, 0) ((hba.block (w.heap.size + 1) (by omega)).trans hx1)]; rfl
    have hz1 : w.heap.size + 2 ≤ wa.heap.size := by have := hba.size; rwa [hxz] at this
    have hb1 : Below w.heap.size w wa := hb0.trans (hba.mono (by omega))
    clear hx0 hx1 hxz hba hb0
    go_wp2_with fail
    refine Calls.mono (HC0'.out _) ?_
    rintro e wb ⟨rfl, hbb⟩
    have hb := hb1.trans (hbb.mono hb1.size)
    go_wp2
    go_ret
    exact ⟨rfl, hb⟩
  have hC := HC.out
  have hC' := HC'.out
  rw [if_neg h0] at hC
  rw [if_neg h0'] at hC'
  have HC0 := Lib.hid hC
  have HC0' := Lib.hid hC'
  have HWR := Lib.hid h
  have HWR' := Lib.hid h'
  clear h h' hC hC'
  go_enter Try.func45, Try.ntmps45
  go_wp2_with fail
  refine Calls.mono (HC0.out _) ?_
  rintro e wa ⟨rfl, hba⟩
  obtain ⟨hb0, hx0, hx1, hxz⟩ := HX.out
  rw [hxz] at hba
  have HXA := Lib.hid ((hba.block w.heap.size (by omega)).trans hx0)
  have q0 : wa.cell? ⟨w.heap.size + 1, 0, none⟩ = some (.slice D1 m1 d1) := by rw [cell_of_row _ _ 0 _ _ (0, 0) ((hba.block (w.heap.size + 1) (by omega)).trans hx1)]; rfl
  have q1 : wa.cell? ⟨w.heap.size + 1, 1, none⟩ = some (.slice D2 m2 d2) := by rw [cell_of_row _ _ 1 _ _ (0, 0) ((hba.block (w.heap.size + 1) (by omega)).trans hx1)]; rfl
  have hz1 : w.heap.size + 2 ≤ wa.heap.size := by have := hba.size; rwa [hxz] at this
  have hb1 : Below w.heap.size w wa := hb0.trans (hba.mono (by omega))
  clear hx0 hx1 hxz hba hb0
  go_wp2_with fail
  refine Calls.mono (HC0'.out _) ?_
  rintro e wb ⟨rfl, hbb⟩
  have p0 : wb.cell? ⟨w.heap.size, 0, none⟩ = some (.slice A1 n1 c1) := by rw [cell_of_row _ _ 0 _ _ (0, 0) ((hbb.block w.heap.size (by omega)).trans HXA.out)]; rfl
  have p1 : wb.cell? ⟨w.heap.size, 1, none⟩ = some (.slice A2 n2 c2) := by rw [cell_of_row _ _ 1 _ _ (0, 0) ((hbb.block w.heap.size (by omega)).trans HXA.out)]; rfl
  have r0 := (hbb.cell (p := ⟨w.heap.size + 1, 0, none⟩) (show w.heap.size + 1 < wa.heap.size by omega)).trans q0
  have r1 := (hbb.cell (p := ⟨w.heap.size + 1, 1, none⟩) (show w.heap.size + 1 < wa.heap.size by omega)).trans q1
  have hb := hb1.trans (hbb.mono hb1.size)
  have hzb := hb.size
  have hzb2 : w.heap.size + 1 < wb.heap.size := by have := hbb.size; omega
  clear hb1 hbb q0 q1 HXA hz1
  obtain ⟨P, HP⟩ : ∃ P, Hid (P = normL st lo) := ⟨_, Lib.hid rfl⟩
  obtain ⟨Q, HQ⟩ : ∃ Q, Hid (Q = normL st' lo') := ⟨_, Lib.hid rfl⟩
  obtain ⟨X1, HX1⟩ : ∃ b, Hid (decide (P.1 = Q.1) = b) := ⟨_, Lib.hid rfl⟩
  obtain ⟨X2, HX2⟩ : ∃ b, Hid (decide (P.2 = Q.2) = b) := ⟨_, Lib.hid rfl⟩
  have HSM : Hid (sameP st lo st' lo' = (X1 && X2)) := Lib.hid (by
    have hlo : lo ≠ [] := fun e => h0 (by have := HWR.out.l2; rw [e] at this; simpa using this)
    have hlo' : lo' ≠ [] := fun e => h0' (by have := HWR'.out.l2; rw [e] at this; simpa using this)
    rw [sameP, if_neg (fun h => h.elim hlo hlo'), ← HP.out, ← HQ.out, ← HX1.out, ← HX2.out, ← Bool.decide_and]
    simp only [Prod.ext_iff])
  obtain ⟨l1, HL1⟩ : ∃ l, Hid (l = P.1.length) := ⟨_, Lib.hid rfl⟩
  obtain ⟨l2, HL2⟩ : ∃ l, Hid (l = P.2.length) := ⟨_, Lib.hid rfl⟩
  obtain ⟨l1', HL1'⟩ : ∃ l, Hid (l = Q.1.length) := ⟨_, Lib.hid rfl⟩
  obtain ⟨l2', HL2'⟩ : ∃ l, Hid (l = Q.2.length) := ⟨_, Lib.hid rfl⟩
  have HN1 := Lib.hid (fun (w' : World) (hb' : Below wb.heap.size wb w') => show Calls Try.prog 40 #[.agg #[.slice A1 n1 c1, .slice A2 n2 c2]] w' (NewWordN w' l1 l2 P) from by
    have := pNorm_any A1 A2 n1 c1 n2 c2 st lo w' wb.heap.size ((HWR.out.below hb hB |>.up (by omega) : WRd wb wb.heap.size A1 A2 n1 c1 n2 c2 st lo).below hb' (Nat.le_refl _)) hb'.size (by omega)
    rw [normP, if_neg (fun e => h0 (by have := HWR.out.l2; rw [e] at this; simpa using this)), ← HP.out] at this
    rw [HL1.out, HL2.out]; exact this)
  have HN2 := Lib.hid (fun (w' : World) (hb' : Below wb.heap.size wb w') => show Calls Try.prog 40 #[.agg #[.slice D1 m1 d1, .slice D2 m2 d2]] w' (NewWordN w' l1' l2' Q) from by
    have := pNorm_any D1 D2 m1 d1 m2 d2 st' lo' w' wb.heap.size ((HWR'.out.below hb hB |>.up (by omega) : WRd wb wb.heap.size D1 D2 m1 d1 m2 d2 st' lo').below hb' (Nat.le_refl _)) hb'.size (by omega)
    rw [normP, if_neg (fun e => h0' (by have := HWR'.out.l2; rw [e] at this; simpa using this)), ← HQ.out] at this
    rw [HL1'.out, HL2'.out]; exact this)
  have hB1 : l1 ≤ 100000000000000 := by
    rw [HL1.out, HP.out, normL, partW_len]; have := roll_le (seqW st lo) (periodL lo) st.length; have := HWR.out.l1; rw [stemN]; omega
  have hB2 : l2 ≤ 100000000000000 := by
    have hlo : lo ≠ [] := fun e => h0 (by have := HWR.out.l2; rw [e] at this; simpa using this)
    rw [HL2.out, HP.out, normL, partW_len]; have := (period_spec hlo).2.1; have := HWR.out.l2; omega
  go_wp2_with fail
  refine wp_region_held_drew (S := fun w' => w'.cell? ⟨w.heap.size, 0, none⟩ = some (.slice A1 n1 c1) ∧ w'.cell? ⟨w.heap.size, 1, none⟩ = some (.slice A2 n2 c2) ∧ w'.cell? ⟨w.heap.size + 1, 0, none⟩ = some (.slice D1 m1 d1) ∧ w'.cell? ⟨w.heap.size + 1, 1, none⟩ = some (.slice D2 m2 d2)) (by kernel_rfl) ⟨p0, p1, r0, r1⟩ (fun hS => ?_)
  refine wpAnyH_takeD (i := 0) (v := ?_) rfl (by kernel_rfl) (by kernel_rfl) (by kernel_rfl) (fun _ _ _ h => h) (Or.inl ⟨by kernel_rfl, ?_⟩) hS ?_
  rotate_left 1
  · (intro w' hSw; (try dsimp only at hSw); go_simp; try (with_reducible rfl))
  try simp only [Act.put, List.setIfInBounds_toArray, List.set_cons_zero, List.set_cons_succ]
  refine wpAnyH_takeD (i := 2) (v := ?_) rfl (by kernel_rfl) (by kernel_rfl) (by kernel_rfl) (fun _ _ _ h => h) (Or.inl ⟨by kernel_rfl, ?_⟩) hS ?_
  rotate_left 1
  · (intro w' hSw; (try dsimp only at hSw); go_simp; try (with_reducible rfl))
  try simp only [Act.put, List.setIfInBounds_toArray, List.set_cons_zero, List.set_cons_succ]
  refine wpAnyH_ready (rs := [1, 4, 5]) (by kernel_rfl) (by simp) ?_
  refine (allReadyH_consD (i := 1) rfl (fun K hK => ?_) (allReadyH_consD (i := 4) rfl (fun K hK => ?_) (allReadyH_consD (i := 5) rfl (fun K hK => ?_) AllReadyH.nil)))
  · skip
    go_simp
    refine Calls.mono (HN1.out _ (TwS.start wb l1 l2 l1' l2' P Q).b) ?_
    rintro e W1 ⟨u1, u2, rfl, ho1, ho2, hb1⟩
    obtain ⟨A6, xA6, rfl, -⟩ := own_sl ho1
    obtain ⟨A7, xA7, rfl, -⟩ := own_sl ho2
    have HT1 := (TwS.start wb l1 l2 l1' l2' P Q).word hb1 ho1 ho2
    clear ho1 ho2 hb1
    have kp0_1 := (HT1.b.cell (p := ⟨w.heap.size, 0, none⟩) (show w.heap.size < wb.heap.size by omega)).trans p0
    have kp1_1 := (HT1.b.cell (p := ⟨w.heap.size, 1, none⟩) (show w.heap.size < wb.heap.size by omega)).trans p1
    have kr0_1 := (HT1.b.cell (p := ⟨w.heap.size + 1, 0, none⟩) (show w.heap.size + 1 < wb.heap.size by omega)).trans r0
    have kr1_1 := (HT1.b.cell (p := ⟨w.heap.size + 1, 1, none⟩) (show w.heap.size + 1 < wb.heap.size by omega)).trans r1
    have YHT1 := Lib.hid HT1
    clear HT1
    go_wp2_with fail
    refine hK.out _ _ ⟨kp0_1, kp1_1, kr0_1, kr1_1⟩ (fun hS => ?_)
    clear hK
    try simp only [Act.put, List.setIfInBounds_toArray, List.set_cons_zero, List.set_cons_succ]
    refine wpAnyH_ready (rs := [3, 4, 5]) (by kernel_rfl) (by simp) ?_
    refine (allReadyH_consD (i := 3) rfl (fun K hK => ?_) (allReadyH_consD (i := 4) rfl (fun K hK => ?_) (allReadyH_consD (i := 5) rfl (fun K hK => ?_) AllReadyH.nil)))
    · skip
      go_simp
      refine Calls.mono (HN2.out _ YHT1.out.b) ?_
      rintro e W2 ⟨u1, u2, rfl, ho1, ho2, hb2⟩
      obtain ⟨D6, xD6, rfl, -⟩ := own_sl ho1
      obtain ⟨D7, xD7, rfl, -⟩ := own_sl ho2
      have HT2 := YHT1.out.word' hb2 ho1 ho2
      clear ho1 ho2 hb2
      have kp0_2 := (HT2.b.cell (p := ⟨w.heap.size, 0, none⟩) (show w.heap.size < wb.heap.size by omega)).trans p0
      have kp1_2 := (HT2.b.cell (p := ⟨w.heap.size, 1, none⟩) (show w.heap.size < wb.heap.size by omega)).trans p1
      have kr0_2 := (HT2.b.cell (p := ⟨w.heap.size + 1, 0, none⟩) (show w.heap.size + 1 < wb.heap.size by omega)).trans r0
      have kr1_2 := (HT2.b.cell (p := ⟨w.heap.size + 1, 1, none⟩) (show w.heap.size + 1 < wb.heap.size by omega)).trans r1
      have YHT2 := Lib.hid HT2
      clear HT2
      go_wp2_with fail
      refine hK.out _ _ ⟨kp0_2, kp1_2, kr0_2, kr1_2⟩ (fun hS => ?_)
      clear hK
      try simp only [Act.put, List.setIfInBounds_toArray, List.set_cons_zero, List.set_cons_succ]
      refine wpAnyH_ready (rs := [4, 5]) (by kernel_rfl) (by simp) ?_
      refine (allReadyH_consD (i := 4) rfl (fun K hK => ?_) (allReadyH_consD (i := 5) rfl (fun K hK => ?_) AllReadyH.nil))
      · skip
        go_simp
        obtain ⟨W3, hw3⟩ : ∃ W, W = W2.alloc (.cells #[.slice none 0 0, .slice none 0 0] 34) := ⟨_, rfl⟩
        have hn3 : W3.heap[W2.heap.size]? = some (.cells #[.slice none 0 0, .slice none 0 0] 34) := by rw [hw3]; exact heap_alloc_new _ _
        have hb3 : Below W2.heap.size W2 W3 := by rw [hw3]; exact (Below.refl _ _).alloc (Nat.le_refl _) _
        rw [← hw3]
        clear hw3
        have HT3 := YHT2.out.al hn3 hb3
        clear hb3 hn3
        have kp0_3 := (HT3.b.cell (p := ⟨w.heap.size, 0, none⟩) (show w.heap.size < wb.heap.size by omega)).trans p0
        have kp1_3 := (HT3.b.cell (p := ⟨w.heap.size, 1, none⟩) (show w.heap.size < wb.heap.size by omega)).trans p1
        have kr0_3 := (HT3.b.cell (p := ⟨w.heap.size + 1, 0, none⟩) (show w.heap.size + 1 < wb.heap.size by omega)).trans r0
        have kr1_3 := (HT3.b.cell (p := ⟨w.heap.size + 1, 1, none⟩) (show w.heap.size + 1 < wb.heap.size by omega)).trans r1
        have YHT3 := Lib.hid HT3
        clear HT3
        refine hK.out _ _ ⟨kp0_3, kp1_3, kr0_3, kr1_3⟩ (fun hS => ?_)
        clear hK
        try simp only [Act.put, List.setIfInBounds_toArray, List.set_cons_zero, List.set_cons_succ]
        refine wpAnyH_oneD (i := 5) rfl (by kernel_rfl) (fun K hK => ?_)
        go_simp
        obtain ⟨W4, hw4⟩ : ∃ W, W = W3.alloc (.cells #[.slice none 0 0, .slice none 0 0] 34) := ⟨_, rfl⟩
        have hn4 : W4.heap[W3.heap.size]? = some (.cells #[.slice none 0 0, .slice none 0 0] 34) := by rw [hw4]; exact heap_alloc_new _ _
        have hb4 : Below W3.heap.size W3 W4 := by rw [hw4]; exact (Below.refl _ _).alloc (Nat.le_refl _) _
        rw [← hw4]
        clear hw4
        have HT4 := YHT3.out.al' hn4 hb4
        clear hb4 hn4
        have kp0_4 := (HT4.b.cell (p := ⟨w.heap.size, 0, none⟩) (show w.heap.size < wb.heap.size by omega)).trans p0
        have kp1_4 := (HT4.b.cell (p := ⟨w.heap.size, 1, none⟩) (show w.heap.size < wb.heap.size by omega)).trans p1
        have kr0_4 := (HT4.b.cell (p := ⟨w.heap.size + 1, 0, none⟩) (show w.heap.size + 1 < wb.heap.size by omega)).trans r0
        have kr1_4 := (HT4.b.cell (p := ⟨w.heap.size + 1, 1, none⟩) (show w.heap.size + 1 < wb.heap.size by omega)).trans r1
        have YHT4 := Lib.hid HT4
        clear HT4
        refine hK.out _ _ ⟨kp0_4, kp1_4, kr0_4, kr1_4⟩ (fun hS => ?_)
        clear hK
        try simp only [Act.put, List.setIfInBounds_toArray, List.set_cons_zero, List.set_cons_succ]
        refine wpAnyH_oneD (i := 6) rfl (by kernel_rfl) (fun K hK => ?_)
        obtain ⟨⟨y0, y1⟩, ⟨z0, z1⟩⟩ := blk2 (YHT4.out.blk _ rfl).1
        go_simp
        obtain ⟨V1, hV1⟩ : ∃ W, W = (W4.setCell ⟨W2.heap.size, 0, none⟩ (.slice A6 l1 xA6)).setCell ⟨W2.heap.size, 1, none⟩ (.slice A7 l2 xA7) := ⟨_, rfl⟩
        rw [← hV1]
        obtain ⟨hm1, hb1w⟩ := YHT4.out.mid hV1
        have HV1 := Lib.hid hV1
        clear hV1
        have kp0_5 := (hb1w.cell (p := ⟨w.heap.size, 0, none⟩) (show w.heap.size < wb.heap.size by omega)).trans p0
        have kp1_5 := (hb1w.cell (p := ⟨w.heap.size, 1, none⟩) (show w.heap.size < wb.heap.size by omega)).trans p1
        have kr0_5 := (hb1w.cell (p := ⟨w.heap.size + 1, 0, none⟩) (show w.heap.size + 1 < wb.heap.size by omega)).trans r0
        have kr1_5 := (hb1w.cell (p := ⟨w.heap.size + 1, 1, none⟩) (show w.heap.size + 1 < wb.heap.size by omega)).trans r1
        clear y0 y1 z0 z1
        refine hK.out _ _ ⟨kp0_5, kp1_5, kr0_5, kr1_5⟩ (fun hS => ?_)
        clear hK
        try simp only [Act.put, List.setIfInBounds_toArray, List.set_cons_zero, List.set_cons_succ]
        refine wpAnyH_oneD (i := 7) rfl (by kernel_rfl) (fun K hK => ?_)
        obtain ⟨⟨y0, y1⟩, ⟨z0, z1⟩⟩ := blk2 hm1
        go_simp
        obtain ⟨V2, hV2⟩ : ∃ W, W = (V1.setCell ⟨W3.heap.size, 0, none⟩ (.slice D6 l1' xD6)).setCell ⟨W3.heap.size, 1, none⟩ (.slice D7 l2' xD7) := ⟨_, rfl⟩
        rw [← hV2]
        have HE := YHT4.out.fin HV1.out hV2
        clear hV2
        have kp0_6 := (HE.b.cell (p := ⟨w.heap.size, 0, none⟩) (show w.heap.size < wb.heap.size by omega)).trans p0
        have kp1_6 := (HE.b.cell (p := ⟨w.heap.size, 1, none⟩) (show w.heap.size < wb.heap.size by omega)).trans p1
        have kr0_6 := (HE.b.cell (p := ⟨w.heap.size + 1, 0, none⟩) (show w.heap.size + 1 < wb.heap.size by omega)).trans r0
        have kr1_6 := (HE.b.cell (p := ⟨w.heap.size + 1, 1, none⟩) (show w.heap.size + 1 < wb.heap.size by omega)).trans r1
        clear y0 y1 z0 z1 HV1
        refine hK.out _ _ ⟨kp0_6, kp1_6, kr0_6, kr1_6⟩ (fun hS => ?_)
        clear hK
        try simp only [Act.put, List.setIfInBounds_toArray, List.set_cons_zero, List.set_cons_succ]
        have hbE := hb.trans (HE.b.mono hzb)
        have HEE := Lib.hid HE
        clear hm1 hb1w HE
        generalize W2.heap.size = kA at *
        generalize W3.heap.size = kB at *
        refine wpAnyH_done (by kernel_rfl) ?_ _
        obtain ⟨⟨aA, aB⟩, -⟩ := blk2 HEE.out.blk
        obtain ⟨⟨bA, bB⟩, -⟩ := blk2 HEE.out.blk'
        have hq1 := equalU_any A6 D6 l1 xA6 l1' xD6 P.1 Q.1 V2 _ _ (sl_own HEE.out.own.1) (sl_own HEE.out.own'.1) HL1.out HL1'.out hB1
        rw [HX1.out] at hq1
        have HQ1 := Lib.hid hq1
        have hq2 := fun nd : Nat => equalU_any A7 D7 l2 xA7 l2' xD7 P.2 Q.2 (V2.drewN nd) _ _ ((sl_own HEE.out.own.2).below (below_drewN (Below.refl _ _) nd) (Nat.le_refl _)) ((sl_own HEE.out.own'.2).below (below_drewN (Below.refl _ _) nd) (Nat.le_refl _)) HL2.out HL2'.out hB2
        rw [HX2.out] at hq2
        have HQ2 := Lib.hid hq2
        clear hq1 hq2 HEE hS
        go_wp2_with fail
        refine Calls.mono HQ1.out ?_
        rintro e _ ⟨rfl, nd, rfl⟩
        cases X1
        · go_wp2
          go_ret
          exact ⟨by rw [HSM.out]; rfl, below_drewN hbE nd⟩
        · go_wp2_with fail
          refine Calls.mono (HQ2.out nd) ?_
          rintro e _ ⟨rfl, nd2, rfl⟩
          go_wp2
          go_ret
          exact ⟨by rw [HSM.out]; cases X2 <;> rfl, below_drewN hbE _⟩
      · skip
        go_simp
        obtain ⟨W7, hw7⟩ : ∃ W, W = W2.alloc (.cells #[.slice none 0 0, .slice none 0 0] 34) := ⟨_, rfl⟩
        have hn7 : W7.heap[W2.heap.size]? = some (.cells #[.slice none 0 0, .slice none 0 0] 34) := by rw [hw7]; exact heap_alloc_new _ _
        have hb7 : Below W2.heap.size W2 W7 := by rw [hw7]; exact (Below.refl _ _).alloc (Nat.le_refl _) _
        rw [← hw7]
        clear hw7
        have HT7 := YHT2.out.al' hn7 hb7
        clear hb7 hn7
        have kp0_7 := (HT7.b.cell (p := ⟨w.heap.size, 0, none⟩) (show w.heap.size < wb.heap.size by omega)).trans p0
        have kp1_7 := (HT7.b.cell (p := ⟨w.heap.size, 1, none⟩) (show w.heap.size < wb.heap.size by omega)).trans p1
        have kr0_7 := (HT7.b.cell (p := ⟨w.heap.size + 1, 0, none⟩) (show w.heap.size + 1 < wb.heap.size by omega)).trans r0
        have kr1_7 := (HT7.b.cell (p := ⟨w.heap.size + 1, 1, none⟩) (show w.heap.size + 1 < wb.heap.size by omega)).trans r1
        have YHT7 := Lib.hid HT7
        clear HT7
        refine hK.out _ _ ⟨kp0_7, kp1_7, kr0_7, kr1_7⟩ (fun hS => ?_)
        clear hK
        try simp only [Act.put, List.setIfInBounds_toArray, List.set_cons_zero, List.set_cons_succ]
        refine wpAnyH_oneD (i := 4) rfl (by kernel_rfl) (fun K hK => ?_)
        go_simp
        obtain ⟨W8, hw8⟩ : ∃ W, W = W7.alloc (.cells #[.slice none 0 0, .slice none 0 0] 34) := ⟨_, rfl⟩
        have hn8 : W8.heap[W7.heap.size]? = some (.cells #[.slice none 0 0, .slice none 0 0] 34) := by rw [hw8]; exact heap_alloc_new _ _
        have hb8 : Below W7.heap.size W7 W8 := by rw [hw8]; exact (Below.refl _ _).alloc (Nat.le_refl _) _
        rw [← hw8]
        clear hw8
        have HT8 := YHT7.out.al hn8 hb8
        clear hb8 hn8
        have kp0_8 := (HT8.b.cell (p := ⟨w.heap.size, 0, none⟩) (show w.heap.size < wb.heap.size by omega)).trans p0
        have kp1_8 := (HT8.b.cell (p := ⟨w.heap.size, 1, none⟩) (show w.heap.size < wb.heap.size by omega)).trans p1
        have kr0_8 := (HT8.b.cell (p := ⟨w.heap.size + 1, 0, none⟩) (show w.heap.size + 1 < wb.heap.size by omega)).trans r0
        have kr1_8 := (HT8.b.cell (p := ⟨w.heap.size + 1, 1, none⟩) (show w.heap.size + 1 < wb.heap.size by omega)).trans r1
        have YHT8 := Lib.hid HT8
        clear HT8
        refine hK.out _ _ ⟨kp0_8, kp1_8, kr0_8, kr1_8⟩ (fun hS => ?_)
        clear hK
        try simp only [Act.put, List.setIfInBounds_toArray, List.set_cons_zero, List.set_cons_succ]
        refine wpAnyH_oneD (i := 6) rfl (by kernel_rfl) (fun K hK => ?_)
        obtain ⟨⟨y0, y1⟩, ⟨z0, z1⟩⟩ := blk2 (YHT8.out.blk _ rfl).1
        go_simp
        obtain ⟨V1, hV1⟩ : ∃ W, W = (W8.setCell ⟨W7.heap.size, 0, none⟩ (.slice A6 l1 xA6)).setCell ⟨W7.heap.size, 1, none⟩ (.slice A7 l2 xA7) := ⟨_, rfl⟩
        rw [← hV1]
        obtain ⟨hm1, hb1w⟩ := YHT8.out.mid hV1
        have HV1 := Lib.hid hV1
        clear hV1
        have kp0_9 := (hb1w.cell (p := ⟨w.heap.size, 0, none⟩) (show w.heap.size < wb.heap.size by omega)).trans p0
        have kp1_9 := (hb1w.cell (p := ⟨w.heap.size, 1, none⟩) (show w.heap.size < wb.heap.size by omega)).trans p1
        have kr0_9 := (hb1w.cell (p := ⟨w.heap.size + 1, 0, none⟩) (show w.heap.size + 1 < wb.heap.size by omega)).trans r0
        have kr1_9 := (hb1w.cell (p := ⟨w.heap.size + 1, 1, none⟩) (show w.heap.size + 1 < wb.heap.size by omega)).trans r1
        clear y0 y1 z0 z1
        refine hK.out _ _ ⟨kp0_9, kp1_9, kr0_9, kr1_9⟩ (fun hS => ?_)
        clear hK
        try simp only [Act.put, List.setIfInBounds_toArray, List.set_cons_zero, List.set_cons_succ]
        refine wpAnyH_oneD (i := 7) rfl (by kernel_rfl) (fun K hK => ?_)
        obtain ⟨⟨y0, y1⟩, ⟨z0, z1⟩⟩ := blk2 hm1
        go_simp
        obtain ⟨V2, hV2⟩ : ∃ W, W = (V1.setCell ⟨W2.heap.size, 0, none⟩ (.slice D6 l1' xD6)).setCell ⟨W2.heap.size, 1, none⟩ (.slice D7 l2' xD7) := ⟨_, rfl⟩
        rw [← hV2]
        have HE := YHT8.out.fin HV1.out hV2
        clear hV2
        have kp0_10 := (HE.b.cell (p := ⟨w.heap.size, 0, none⟩) (show w.heap.size < wb.heap.size by omega)).trans p0
        have kp1_10 := (HE.b.cell (p := ⟨w.heap.size, 1, none⟩) (show w.heap.size < wb.heap.size by omega)).trans p1
        have kr0_10 := (HE.b.cell (p := ⟨w.heap.size + 1, 0, none⟩) (show w.heap.size + 1 < wb.heap.size by omega)).trans r0
        have kr1_10 := (HE.b.cell (p := ⟨w.heap.size + 1, 1, none⟩) (show w.heap.size + 1 < wb.heap.size by omega)).trans r1
        clear y0 y1 z0 z1 HV1
        refine hK.out _ _ ⟨kp0_10, kp1_10, kr0_10, kr1_10⟩ (fun hS => ?_)
        clear hK
        try simp only [Act.put, List.setIfInBounds_toArray, List.set_cons_zero, List.set_cons_succ]
        have hbE := hb.trans (HE.b.mono hzb)
        have HEE := Lib.hid HE
        clear hm1 hb1w HE
        generalize W7.heap.size = kA at *
        generalize W2.heap.size = kB at *
        refine wpAnyH_done (by kernel_rfl) ?_ _
        obtain ⟨⟨aA, aB⟩, -⟩ := blk2 HEE.out.blk
        obtain ⟨⟨bA, bB⟩, -⟩ := blk2 HEE.out.blk'
        have hq1 := equalU_any A6 D6 l1 xA6 l1' xD6 P.1 Q.1 V2 _ _ (sl_own HEE.out.own.1) (sl_own HEE.out.own'.1) HL1.out HL1'.out hB1
        rw [HX1.out] at hq1
        have HQ1 := Lib.hid hq1
        have hq2 := fun nd : Nat => equalU_any A7 D7 l2 xA7 l2' xD7 P.2 Q.2 (V2.drewN nd) _ _ ((sl_own HEE.out.own.2).below (below_drewN (Below.refl _ _) nd) (Nat.le_refl _)) ((sl_own HEE.out.own'.2).below (below_drewN (Below.refl _ _) nd) (Nat.le_refl _)) HL2.out HL2'.out hB2
        rw [HX2.out] at hq2
        have HQ2 := Lib.hid hq2
        clear hq1 hq2 HEE hS
        go_wp2_with fail
        refine Calls.mono HQ1.out ?_
        rintro e _ ⟨rfl, nd, rfl⟩
        cases X1
        · go_wp2
          go_ret
          exact ⟨by rw [HSM.out]; rfl, below_drewN hbE nd⟩
        · go_wp2_with fail
          refine Calls.mono (HQ2.out nd) ?_
          rintro e _ ⟨rfl, nd2, rfl⟩
          go_wp2
          go_ret
          exact ⟨by rw [HSM.out]; cases X2 <;> rfl, below_drewN hbE _⟩
    · skip
      go_simp
      obtain ⟨W11, hw11⟩ : ∃ W, W = W1.alloc (.cells #[.slice none 0 0, .slice none 0 0] 34) := ⟨_, rfl⟩
      have hn11 : W11.heap[W1.heap.size]? = some (.cells #[.slice none 0 0, .slice none 0 0] 34) := by rw [hw11]; exact heap_alloc_new _ _
      have hb11 : Below W1.heap.size W1 W11 := by rw [hw11]; exact (Below.refl _ _).alloc (Nat.le_refl _) _
      rw [← hw11]
      clear hw11
      have HT11 := YHT1.out.al hn11 hb11
      clear hb11 hn11
      have kp0_11 := (HT11.b.cell (p := ⟨w.heap.size, 0, none⟩) (show w.heap.size < wb.heap.size by omega)).trans p0
      have kp1_11 := (HT11.b.cell (p := ⟨w.heap.size, 1, none⟩) (show w.heap.size < wb.heap.size by omega)).trans p1
      have kr0_11 := (HT11.b.cell (p := ⟨w.heap.size + 1, 0, none⟩) (show w.heap.size + 1 < wb.heap.size by omega)).trans r0
      have kr1_11 := (HT11.b.cell (p := ⟨w.heap.size + 1, 1, none⟩) (show w.heap.size + 1 < wb.heap.size by omega)).trans r1
      have YHT11 := Lib.hid HT11
      clear HT11
      refine hK.out _ _ ⟨kp0_11, kp1_11, kr0_11, kr1_11⟩ (fun hS => ?_)
      clear hK
      try simp only [Act.put, List.setIfInBounds_toArray, List.set_cons_zero, List.set_cons_succ]
      refine wpAnyH_ready (rs := [3, 5]) (by kernel_rfl) (by simp) ?_
      refine (allReadyH_consD (i := 3) rfl (fun K hK => ?_) (allReadyH_consD (i := 5) rfl (fun K hK => ?_) AllReadyH.nil))
      · skip
        go_simp
        refine Calls.mono (HN2.out _ YHT11.out.b) ?_
        rintro e W12 ⟨u1, u2, rfl, ho1, ho2, hb12⟩
        obtain ⟨D6, xD6, rfl, -⟩ := own_sl ho1
        obtain ⟨D7, xD7, rfl, -⟩ := own_sl ho2
        have HT12 := YHT11.out.word' hb12 ho1 ho2
        clear ho1 ho2 hb12
        have kp0_12 := (HT12.b.cell (p := ⟨w.heap.size, 0, none⟩) (show w.heap.size < wb.heap.size by omega)).trans p0
        have kp1_12 := (HT12.b.cell (p := ⟨w.heap.size, 1, none⟩) (show w.heap.size < wb.heap.size by omega)).trans p1
        have kr0_12 := (HT12.b.cell (p := ⟨w.heap.size + 1, 0, none⟩) (show w.heap.size + 1 < wb.heap.size by omega)).trans r0
        have kr1_12 := (HT12.b.cell (p := ⟨w.heap.size + 1, 1, none⟩) (show w.heap.size + 1 < wb.heap.size by omega)).trans r1
        have YHT12 := Lib.hid HT12
        clear HT12
        go_wp2_with fail
        refine hK.out _ _ ⟨kp0_12, kp1_12, kr0_12, kr1_12⟩ (fun hS => ?_)
        clear hK
        try simp only [Act.put, List.setIfInBounds_toArray, List.set_cons_zero, List.set_cons_succ]
        refine wpAnyH_oneD (i := 5) rfl (by kernel_rfl) (fun K hK => ?_)
        go_simp
        obtain ⟨W13, hw13⟩ : ∃ W, W = W12.alloc (.cells #[.slice none 0 0, .slice none 0 0] 34) := ⟨_, rfl⟩
        have hn13 : W13.heap[W12.heap.size]? = some (.cells #[.slice none 0 0, .slice none 0 0] 34) := by rw [hw13]; exact heap_alloc_new _ _
        have hb13 : Below W12.heap.size W12 W13 := by rw [hw13]; exact (Below.refl _ _).alloc (Nat.le_refl _) _
        rw [← hw13]
        clear hw13
        have HT13 := YHT12.out.al' hn13 hb13
        clear hb13 hn13
        have kp0_13 := (HT13.b.cell (p := ⟨w.heap.size, 0, none⟩) (show w.heap.size < wb.heap.size by omega)).trans p0
        have kp1_13 := (HT13.b.cell (p := ⟨w.heap.size, 1, none⟩) (show w.heap.size < wb.heap.size by omega)).trans p1
        have kr0_13 := (HT13.b.cell (p := ⟨w.heap.size + 1, 0, none⟩) (show w.heap.size + 1 < wb.heap.size by omega)).trans r0
        have kr1_13 := (HT13.b.cell (p := ⟨w.heap.size + 1, 1, none⟩) (show w.heap.size + 1 < wb.heap.size by omega)).trans r1
        have YHT13 := Lib.hid HT13
        clear HT13
        refine hK.out _ _ ⟨kp0_13, kp1_13, kr0_13, kr1_13⟩ (fun hS => ?_)
        clear hK
        try simp only [Act.put, List.setIfInBounds_toArray, List.set_cons_zero, List.set_cons_succ]
        refine wpAnyH_oneD (i := 6) rfl (by kernel_rfl) (fun K hK => ?_)
        obtain ⟨⟨y0, y1⟩, ⟨z0, z1⟩⟩ := blk2 (YHT13.out.blk _ rfl).1
        go_simp
        obtain ⟨V1, hV1⟩ : ∃ W, W = (W13.setCell ⟨W1.heap.size, 0, none⟩ (.slice A6 l1 xA6)).setCell ⟨W1.heap.size, 1, none⟩ (.slice A7 l2 xA7) := ⟨_, rfl⟩
        rw [← hV1]
        obtain ⟨hm1, hb1w⟩ := YHT13.out.mid hV1
        have HV1 := Lib.hid hV1
        clear hV1
        have kp0_14 := (hb1w.cell (p := ⟨w.heap.size, 0, none⟩) (show w.heap.size < wb.heap.size by omega)).trans p0
        have kp1_14 := (hb1w.cell (p := ⟨w.heap.size, 1, none⟩) (show w.heap.size < wb.heap.size by omega)).trans p1
        have kr0_14 := (hb1w.cell (p := ⟨w.heap.size + 1, 0, none⟩) (show w.heap.size + 1 < wb.heap.size by omega)).trans r0
        have kr1_14 := (hb1w.cell (p := ⟨w.heap.size + 1, 1, none⟩) (show w.heap.size + 1 < wb.heap.size by omega)).trans r1
        clear y0 y1 z0 z1
        refine hK.out _ _ ⟨kp0_14, kp1_14, kr0_14, kr1_14⟩ (fun hS => ?_)
        clear hK
        try simp only [Act.put, List.setIfInBounds_toArray, List.set_cons_zero, List.set_cons_succ]
        refine wpAnyH_oneD (i := 7) rfl (by kernel_rfl) (fun K hK => ?_)
        obtain ⟨⟨y0, y1⟩, ⟨z0, z1⟩⟩ := blk2 hm1
        go_simp
        obtain ⟨V2, hV2⟩ : ∃ W, W = (V1.setCell ⟨W12.heap.size, 0, none⟩ (.slice D6 l1' xD6)).setCell ⟨W12.heap.size, 1, none⟩ (.slice D7 l2' xD7) := ⟨_, rfl⟩
        rw [← hV2]
        have HE := YHT13.out.fin HV1.out hV2
        clear hV2
        have kp0_15 := (HE.b.cell (p := ⟨w.heap.size, 0, none⟩) (show w.heap.size < wb.heap.size by omega)).trans p0
        have kp1_15 := (HE.b.cell (p := ⟨w.heap.size, 1, none⟩) (show w.heap.size < wb.heap.size by omega)).trans p1
        have kr0_15 := (HE.b.cell (p := ⟨w.heap.size + 1, 0, none⟩) (show w.heap.size + 1 < wb.heap.size by omega)).trans r0
        have kr1_15 := (HE.b.cell (p := ⟨w.heap.size + 1, 1, none⟩) (show w.heap.size + 1 < wb.heap.size by omega)).trans r1
        clear y0 y1 z0 z1 HV1
        refine hK.out _ _ ⟨kp0_15, kp1_15, kr0_15, kr1_15⟩ (fun hS => ?_)
        clear hK
        try simp only [Act.put, List.setIfInBounds_toArray, List.set_cons_zero, List.set_cons_succ]
        have hbE := hb.trans (HE.b.mono hzb)
        have HEE := Lib.hid HE
        clear hm1 hb1w HE
        generalize W1.heap.size = kA at *
        generalize W12.heap.size = kB at *
        refine wpAnyH_done (by kernel_rfl) ?_ _
        obtain ⟨⟨aA, aB⟩, -⟩ := blk2 HEE.out.blk
        obtain ⟨⟨bA, bB⟩, -⟩ := blk2 HEE.out.blk'
        have hq1 := equalU_any A6 D6 l1 xA6 l1' xD6 P.1 Q.1 V2 _ _ (sl_own HEE.out.own.1) (sl_own HEE.out.own'.1) HL1.out HL1'.out hB1
        rw [HX1.out] at hq1
        have HQ1 := Lib.hid hq1
        have hq2 := fun nd : Nat => equalU_any A7 D7 l2 xA7 l2' xD7 P.2 Q.2 (V2.drewN nd) _ _ ((sl_own HEE.out.own.2).below (below_drewN (Below.refl _ _) nd) (Nat.le_refl _)) ((sl_own HEE.out.own'.2).below (below_drewN (Below.refl _ _) nd) (Nat.le_refl _)) HL2.out HL2'.out hB2
        rw [HX2.out] at hq2
        have HQ2 := Lib.hid hq2
        clear hq1 hq2 HEE hS
        go_wp2_with fail
        refine Calls.mono HQ1.out ?_
        rintro e _ ⟨rfl, nd, rfl⟩
        cases X1
        · go_wp2
          go_ret
          exact ⟨by rw [HSM.out]; rfl, below_drewN hbE nd⟩
        · go_wp2_with fail
          refine Calls.mono (HQ2.out nd) ?_
          rintro e _ ⟨rfl, nd2, rfl⟩
          go_wp2
          go_ret
          exact ⟨by rw [HSM.out]; cases X2 <;> rfl, below_drewN hbE _⟩
      · skip
        go_simp
        obtain ⟨W16, hw16⟩ : ∃ W, W = W11.alloc (.cells #[.slice none 0 0, .slice none 0 0] 34) := ⟨_, rfl⟩
        have hn16 : W16.heap[W11.heap.size]? = some (.cells #[.slice none 0 0, .slice none 0 0] 34) := by rw [hw16]; exact heap_alloc_new _ _
        have hb16 : Below W11.heap.size W11 W16 := by rw [hw16]; exact (Below.refl _ _).alloc (Nat.le_refl _) _
        rw [← hw16]
        clear hw16
        have HT16 := YHT11.out.al' hn16 hb16
        clear hb16 hn16
        have kp0_16 := (HT16.b.cell (p := ⟨w.heap.size, 0, none⟩) (show w.heap.size < wb.heap.size by omega)).trans p0
        have kp1_16 := (HT16.b.cell (p := ⟨w.heap.size, 1, none⟩) (show w.heap.size < wb.heap.size by omega)).trans p1
        have kr0_16 := (HT16.b.cell (p := ⟨w.heap.size + 1, 0, none⟩) (show w.heap.size + 1 < wb.heap.size by omega)).trans r0
        have kr1_16 := (HT16.b.cell (p := ⟨w.heap.size + 1, 1, none⟩) (show w.heap.size + 1 < wb.heap.size by omega)).trans r1
        have YHT16 := Lib.hid HT16
        clear HT16
        refine hK.out _ _ ⟨kp0_16, kp1_16, kr0_16, kr1_16⟩ (fun hS => ?_)
        clear hK
        try simp only [Act.put, List.setIfInBounds_toArray, List.set_cons_zero, List.set_cons_succ]
        refine wpAnyH_oneD (i := 3) rfl (by kernel_rfl) (fun K hK => ?_)
        go_simp
        refine Calls.mono (HN2.out _ YHT16.out.b) ?_
        rintro e W17 ⟨u1, u2, rfl, ho1, ho2, hb17⟩
        obtain ⟨D6, xD6, rfl, -⟩ := own_sl ho1
        obtain ⟨D7, xD7, rfl, -⟩ := own_sl ho2
        have HT17 := YHT16.out.word' hb17 ho1 ho2
        clear ho1 ho2 hb17
        have kp0_17 := (HT17.b.cell (p := ⟨w.heap.size, 0, none⟩) (show w.heap.size < wb.heap.size by omega)).trans p0
        have kp1_17 := (HT17.b.cell (p := ⟨w.heap.size, 1, none⟩) (show w.heap.size < wb.heap.size by omega)).trans p1
        have kr0_17 := (HT17.b.cell (p := ⟨w.heap.size + 1, 0, none⟩) (show w.heap.size + 1 < wb.heap.size by omega)).trans r0
        have kr1_17 := (HT17.b.cell (p := ⟨w.heap.size + 1, 1, none⟩) (show w.heap.size + 1 < wb.heap.size by omega)).trans r1
        have YHT17 := Lib.hid HT17
        clear HT17
        go_wp2_with fail
        refine hK.out _ _ ⟨kp0_17, kp1_17, kr0_17, kr1_17⟩ (fun hS => ?_)
        clear hK
        try simp only [Act.put, List.setIfInBounds_toArray, List.set_cons_zero, List.set_cons_succ]
        refine wpAnyH_oneD (i := 6) rfl (by kernel_rfl) (fun K hK => ?_)
        obtain ⟨⟨y0, y1⟩, ⟨z0, z1⟩⟩ := blk2 (YHT17.out.blk _ rfl).1
        go_simp
        obtain ⟨V1, hV1⟩ : ∃ W, W = (W17.setCell ⟨W1.heap.size, 0, none⟩ (.slice A6 l1 xA6)).setCell ⟨W1.heap.size, 1, none⟩ (.slice A7 l2 xA7) := ⟨_, rfl⟩
        rw [← hV1]
        obtain ⟨hm1, hb1w⟩ := YHT17.out.mid hV1
        have HV1 := Lib.hid hV1
        clear hV1
        have kp0_18 := (hb1w.cell (p := ⟨w.heap.size, 0, none⟩) (show w.heap.size < wb.heap.size by omega)).trans p0
        have kp1_18 := (hb1w.cell (p := ⟨w.heap.size, 1, none⟩) (show w.heap.size < wb.heap.size by omega)).trans p1
        have kr0_18 := (hb1w.cell (p := ⟨w.heap.size + 1, 0, none⟩) (show w.heap.size + 1 < wb.heap.size by omega)).trans r0
        have kr1_18 := (hb1w.cell (p := ⟨w.heap.size + 1, 1, none⟩) (show w.heap.size + 1 < wb.heap.size by omega)).trans r1
        clear y0 y1 z0 z1
        refine hK.out _ _ ⟨kp0_18, kp1_18, kr0_18, kr1_18⟩ (fun hS => ?_)
        clear hK
        try simp only [Act.put, List.setIfInBounds_toArray, List.set_cons_zero, List.set_cons_succ]
        refine wpAnyH_oneD (i := 7) rfl (by kernel_rfl) (fun K hK => ?_)
        obtain ⟨⟨y0, y1⟩, ⟨z0, z1⟩⟩ := blk2 hm1
        go_simp
        obtain ⟨V2, hV2⟩ : ∃ W, W = (V1.setCell ⟨W11.heap.size, 0, none⟩ (.slice D6 l1' xD6)).setCell ⟨W11.heap.size, 1, none⟩ (.slice D7 l2' xD7) := ⟨_, rfl⟩
        rw [← hV2]
        have HE := YHT17.out.fin HV1.out hV2
        clear hV2
        have kp0_19 := (HE.b.cell (p := ⟨w.heap.size, 0, none⟩) (show w.heap.size < wb.heap.size by omega)).trans p0
        have kp1_19 := (HE.b.cell (p := ⟨w.heap.size, 1, none⟩) (show w.heap.size < wb.heap.size by omega)).trans p1
        have kr0_19 := (HE.b.cell (p := ⟨w.heap.size + 1, 0, none⟩) (show w.heap.size + 1 < wb.heap.size by omega)).trans r0
        have kr1_19 := (HE.b.cell (p := ⟨w.heap.size + 1, 1, none⟩) (show w.heap.size + 1 < wb.heap.size by omega)).trans r1
        clear y0 y1 z0 z1 HV1
        refine hK.out _ _ ⟨kp0_19, kp1_19, kr0_19, kr1_19⟩ (fun hS => ?_)
        clear hK
        try simp only [Act.put, List.setIfInBounds_toArray, List.set_cons_zero, List.set_cons_succ]
        have hbE := hb.trans (HE.b.mono hzb)
        have HEE := Lib.hid HE
        clear hm1 hb1w HE
        generalize W1.heap.size = kA at *
        generalize W11.heap.size = kB at *
        refine wpAnyH_done (by kernel_rfl) ?_ _
        obtain ⟨⟨aA, aB⟩, -⟩ := blk2 HEE.out.blk
        obtain ⟨⟨bA, bB⟩, -⟩ := blk2 HEE.out.blk'
        have hq1 := equalU_any A6 D6 l1 xA6 l1' xD6 P.1 Q.1 V2 _ _ (sl_own HEE.out.own.1) (sl_own HEE.out.own'.1) HL1.out HL1'.out hB1
        rw [HX1.out] at hq1
        have HQ1 := Lib.hid hq1
        have hq2 := fun nd : Nat => equalU_any A7 D7 l2 xA7 l2' xD7 P.2 Q.2 (V2.drewN nd) _ _ ((sl_own HEE.out.own.2).below (below_drewN (Below.refl _ _) nd) (Nat.le_refl _)) ((sl_own HEE.out.own'.2).below (below_drewN (Below.refl _ _) nd) (Nat.le_refl _)) HL2.out HL2'.out hB2
        rw [HX2.out] at hq2
        have HQ2 := Lib.hid hq2
        clear hq1 hq2 HEE hS
        go_wp2_with fail
        refine Calls.mono HQ1.out ?_
        rintro e _ ⟨rfl, nd, rfl⟩
        cases X1
        · go_wp2
          go_ret
          exact ⟨by rw [HSM.out]; rfl, below_drewN hbE nd⟩
        · go_wp2_with fail
          refine Calls.mono (HQ2.out nd) ?_
          rintro e _ ⟨rfl, nd2, rfl⟩
          go_wp2
          go_ret
          exact ⟨by rw [HSM.out]; cases X2 <;> rfl, below_drewN hbE _⟩
    · skip
      go_simp
      obtain ⟨W20, hw20⟩ : ∃ W, W = W1.alloc (.cells #[.slice none 0 0, .slice none 0 0] 34) := ⟨_, rfl⟩
      have hn20 : W20.heap[W1.heap.size]? = some (.cells #[.slice none 0 0, .slice none 0 0] 34) := by rw [hw20]; exact heap_alloc_new _ _
      have hb20 : Below W1.heap.size W1 W20 := by rw [hw20]; exact (Below.refl _ _).alloc (Nat.le_refl _) _
      rw [← hw20]
      clear hw20
      have HT20 := YHT1.out.al' hn20 hb20
      clear hb20 hn20
      have kp0_20 := (HT20.b.cell (p := ⟨w.heap.size, 0, none⟩) (show w.heap.size < wb.heap.size by omega)).trans p0
      have kp1_20 := (HT20.b.cell (p := ⟨w.heap.size, 1, none⟩) (show w.heap.size < wb.heap.size by omega)).trans p1
      have kr0_20 := (HT20.b.cell (p := ⟨w.heap.size + 1, 0, none⟩) (show w.heap.size + 1 < wb.heap.size by omega)).trans r0
      have kr1_20 := (HT20.b.cell (p := ⟨w.heap.size + 1, 1, none⟩) (show w.heap.size + 1 < wb.heap.size by omega)).trans r1
      have YHT20 := Lib.hid HT20
      clear HT20
      refine hK.out _ _ ⟨kp0_20, kp1_20, kr0_20, kr1_20⟩ (fun hS => ?_)
      clear hK
      try simp only [Act.put, List.setIfInBounds_toArray, List.set_cons_zero, List.set_cons_succ]
      refine wpAnyH_ready (rs := [3, 4]) (by kernel_rfl) (by simp) ?_
      refine (allReadyH_consD (i := 3) rfl (fun K hK => ?_) (allReadyH_consD (i := 4) rfl (fun K hK => ?_) AllReadyH.nil))
      · skip
        go_simp
        refine Calls.mono (HN2.out _ YHT20.out.b) ?_
        rintro e W21 ⟨u1, u2, rfl, ho1, ho2, hb21⟩
        obtain ⟨D6, xD6, rfl, -⟩ := own_sl ho1
        obtain ⟨D7, xD7, rfl, -⟩ := own_sl ho2
        have HT21 := YHT20.out.word' hb21 ho1 ho2
        clear ho1 ho2 hb21
        have kp0_21 := (HT21.b.cell (p := ⟨w.heap.size, 0, none⟩) (show w.heap.size < wb.heap.size by omega)).trans p0
        have kp1_21 := (HT21.b.cell (p := ⟨w.heap.size, 1, none⟩) (show w.heap.size < wb.heap.size by omega)).trans p1
        have kr0_21 := (HT21.b.cell (p := ⟨w.heap.size + 1, 0, none⟩) (show w.heap.size + 1 < wb.heap.size by omega)).trans r0
        have kr1_21 := (HT21.b.cell (p := ⟨w.heap.size + 1, 1, none⟩) (show w.heap.size + 1 < wb.heap.size by omega)).trans r1
        have YHT21 := Lib.hid HT21
        clear HT21
        go_wp2_with fail
        refine hK.out _ _ ⟨kp0_21, kp1_21, kr0_21, kr1_21⟩ (fun hS => ?_)
        clear hK
        try simp only [Act.put, List.setIfInBounds_toArray, List.set_cons_zero, List.set_cons_succ]
        refine wpAnyH_oneD (i := 4) rfl (by kernel_rfl) (fun K hK => ?_)
        go_simp
        obtain ⟨W22, hw22⟩ : ∃ W, W = W21.alloc (.cells #[.slice none 0 0, .slice none 0 0] 34) := ⟨_, rfl⟩
        have hn22 : W22.heap[W21.heap.size]? = some (.cells #[.slice none 0 0, .slice none 0 0] 34) := by rw [hw22]; exact heap_alloc_new _ _
        have hb22 : Below W21.heap.size W21 W22 := by rw [hw22]; exact (Below.refl _ _).alloc (Nat.le_refl _) _
        rw [← hw22]
        clear hw22
        have HT22 := YHT21.out.al hn22 hb22
        clear hb22 hn22
        have kp0_22 := (HT22.b.cell (p := ⟨w.heap.size, 0, none⟩) (show w.heap.size < wb.heap.size by omega)).trans p0
        have kp1_22 := (HT22.b.cell (p := ⟨w.heap.size, 1, none⟩) (show w.heap.size < wb.heap.size by omega)).trans p1
        have kr0_22 := (HT22.b.cell (p := ⟨w.heap.size + 1, 0, none⟩) (show w.heap.size + 1 < wb.heap.size by omega)).trans r0
        have kr1_22 := (HT22.b.cell (p := ⟨w.heap.size + 1, 1, none⟩) (show w.heap.size + 1 < wb.heap.size by omega)).trans r1
        have YHT22 := Lib.hid HT22
        clear HT22
        refine hK.out _ _ ⟨kp0_22, kp1_22, kr0_22, kr1_22⟩ (fun hS => ?_)
        clear hK
        try simp only [Act.put, List.setIfInBounds_toArray, List.set_cons_zero, List.set_cons_succ]
        refine wpAnyH_oneD (i := 6) rfl (by kernel_rfl) (fun K hK => ?_)
        obtain ⟨⟨y0, y1⟩, ⟨z0, z1⟩⟩ := blk2 (YHT22.out.blk _ rfl).1
        go_simp
        obtain ⟨V1, hV1⟩ : ∃ W, W = (W22.setCell ⟨W21.heap.size, 0, none⟩ (.slice A6 l1 xA6)).setCell ⟨W21.heap.size, 1, none⟩ (.slice A7 l2 xA7) := ⟨_, rfl⟩
        rw [← hV1]
        obtain ⟨hm1, hb1w⟩ := YHT22.out.mid hV1
        have HV1 := Lib.hid hV1
        clear hV1
        have kp0_23 := (hb1w.cell (p := ⟨w.heap.size, 0, none⟩) (show w.heap.size < wb.heap.size by omega)).trans p0
        have kp1_23 := (hb1w.cell (p := ⟨w.heap.size, 1, none⟩) (show w.heap.size < wb.heap.size by omega)).trans p1
        have kr0_23 := (hb1w.cell (p := ⟨w.heap.size + 1, 0, none⟩) (show w.heap.size + 1 < wb.heap.size by omega)).trans r0
        have kr1_23 := (hb1w.cell (p := ⟨w.heap.size + 1, 1, none⟩) (show w.heap.size + 1 < wb.heap.size by omega)).trans r1
        clear y0 y1 z0 z1
        refine hK.out _ _ ⟨kp0_23, kp1_23, kr0_23, kr1_23⟩ (fun hS => ?_)
        clear hK
        try simp only [Act.put, List.setIfInBounds_toArray, List.set_cons_zero, List.set_cons_succ]
        refine wpAnyH_oneD (i := 7) rfl (by kernel_rfl) (fun K hK => ?_)
        obtain ⟨⟨y0, y1⟩, ⟨z0, z1⟩⟩ := blk2 hm1
        go_simp
        obtain ⟨V2, hV2⟩ : ∃ W, W = (V1.setCell ⟨W1.heap.size, 0, none⟩ (.slice D6 l1' xD6)).setCell ⟨W1.heap.size, 1, none⟩ (.slice D7 l2' xD7) := ⟨_, rfl⟩
        rw [← hV2]
        have HE := YHT22.out.fin HV1.out hV2
        clear hV2
        have kp0_24 := (HE.b.cell (p := ⟨w.heap.size, 0, none⟩) (show w.heap.size < wb.heap.size by omega)).trans p0
        have kp1_24 := (HE.b.cell (p := ⟨w.heap.size, 1, none⟩) (show w.heap.size < wb.heap.size by omega)).trans p1
        have kr0_24 := (HE.b.cell (p := ⟨w.heap.size + 1, 0, none⟩) (show w.heap.size + 1 < wb.heap.size by omega)).trans r0
        have kr1_24 := (HE.b.cell (p := ⟨w.heap.size + 1, 1, none⟩) (show w.heap.size + 1 < wb.heap.size by omega)).trans r1
        clear y0 y1 z0 z1 HV1
        refine hK.out _ _ ⟨kp0_24, kp1_24, kr0_24, kr1_24⟩ (fun hS => ?_)
        clear hK
        try simp only [Act.put, List.setIfInBounds_toArray, List.set_cons_zero, List.set_cons_succ]
        have hbE := hb.trans (HE.b.mono hzb)
        have HEE := Lib.hid HE
        clear hm1 hb1w HE
        generalize W21.heap.size = kA at *
        generalize W1.heap.size = kB at *
        refine wpAnyH_done (by kernel_rfl) ?_ _
        obtain ⟨⟨aA, aB⟩, -⟩ := blk2 HEE.out.blk
        obtain ⟨⟨bA, bB⟩, -⟩ := blk2 HEE.out.blk'
        have hq1 := equalU_any A6 D6 l1 xA6 l1' xD6 P.1 Q.1 V2 _ _ (sl_own HEE.out.own.1) (sl_own HEE.out.own'.1) HL1.out HL1'.out hB1
        rw [HX1.out] at hq1
        have HQ1 := Lib.hid hq1
        have hq2 := fun nd : Nat => equalU_any A7 D7 l2 xA7 l2' xD7 P.2 Q.2 (V2.drewN nd) _ _ ((sl_own HEE.out.own.2).below (below_drewN (Below.refl _ _) nd) (Nat.le_refl _)) ((sl_own HEE.out.own'.2).below (below_drewN (Below.refl _ _) nd) (Nat.le_refl _)) HL2.out HL2'.out hB2
        rw [HX2.out] at hq2
        have HQ2 := Lib.hid hq2
        clear hq1 hq2 HEE hS
        go_wp2_with fail
        refine Calls.mono HQ1.out ?_
        rintro e _ ⟨rfl, nd, rfl⟩
        cases X1
        · go_wp2
          go_ret
          exact ⟨by rw [HSM.out]; rfl, below_drewN hbE nd⟩
        · go_wp2_with fail
          refine Calls.mono (HQ2.out nd) ?_
          rintro e _ ⟨rfl, nd2, rfl⟩
          go_wp2
          go_ret
          exact ⟨by rw [HSM.out]; cases X2 <;> rfl, below_drewN hbE _⟩
      · skip
        go_simp
        obtain ⟨W25, hw25⟩ : ∃ W, W = W20.alloc (.cells #[.slice none 0 0, .slice none 0 0] 34) := ⟨_, rfl⟩
        have hn25 : W25.heap[W20.heap.size]? = some (.cells #[.slice none 0 0, .slice none 0 0] 34) := by rw [hw25]; exact heap_alloc_new _ _
        have hb25 : Below W20.heap.size W20 W25 := by rw [hw25]; exact (Below.refl _ _).alloc (Nat.le_refl _) _
        rw [← hw25]
        clear hw25
        have HT25 := YHT20.out.al hn25 hb25
        clear hb25 hn25
        have kp0_25 := (HT25.b.cell (p := ⟨w.heap.size, 0, none⟩) (show w.heap.size < wb.heap.size by omega)).trans p0
        have kp1_25 := (HT25.b.cell (p := ⟨w.heap.size, 1, none⟩) (show w.heap.size < wb.heap.size by omega)).trans p1
        have kr0_25 := (HT25.b.cell (p := ⟨w.heap.size + 1, 0, none⟩) (show w.heap.size + 1 < wb.heap.size by omega)).trans r0
        have kr1_25 := (HT25.b.cell (p := ⟨w.heap.size + 1, 1, none⟩) (show w.heap.size + 1 < wb.heap.size by omega)).trans r1
        have YHT25 := Lib.hid HT25
        clear HT25
        refine hK.out _ _ ⟨kp0_25, kp1_25, kr0_25, kr1_25⟩ (fun hS => ?_)
        clear hK
        try simp only [Act.put, List.setIfInBounds_toArray, List.set_cons_zero, List.set_cons_succ]
        refine wpAnyH_oneD (i := 3) rfl (by kernel_rfl) (fun K hK => ?_)
        go_simp
        refine Calls.mono (HN2.out _ YHT25.out.b) ?_
        rintro e W26 ⟨u1, u2, rfl, ho1, ho2, hb26⟩
        obtain ⟨D6, xD6, rfl, -⟩ := own_sl ho1
        obtain ⟨D7, xD7, rfl, -⟩ := own_sl ho2
        have HT26 := YHT25.out.word' hb26 ho1 ho2
        clear ho1 ho2 hb26
        have kp0_26 := (HT26.b.cell (p := ⟨w.heap.size, 0, none⟩) (show w.heap.size < wb.heap.size by omega)).trans p0
        have kp1_26 := (HT26.b.cell (p := ⟨w.heap.size, 1, none⟩) (show w.heap.size < wb.heap.size by omega)).trans p1
        have kr0_26 := (HT26.b.cell (p := ⟨w.heap.size + 1, 0, none⟩) (show w.heap.size + 1 < wb.heap.size by omega)).trans r0
        have kr1_26 := (HT26.b.cell (p := ⟨w.heap.size + 1, 1, none⟩) (show w.heap.size + 1 < wb.heap.size by omega)).trans r1
        have YHT26 := Lib.hid HT26
        clear HT26
        go_wp2_with fail
        refine hK.out _ _ ⟨kp0_26, kp1_26, kr0_26, kr1_26⟩ (fun hS => ?_)
        clear hK
        try simp only [Act.put, List.setIfInBounds_toArray, List.set_cons_zero, List.set_cons_succ]
        refine wpAnyH_oneD (i := 6) rfl (by kernel_rfl) (fun K hK => ?_)
        obtain ⟨⟨y0, y1⟩, ⟨z0, z1⟩⟩ := blk2 (YHT26.out.blk _ rfl).1
        go_simp
        obtain ⟨V1, hV1⟩ : ∃ W, W = (W26.setCell ⟨W20.heap.size, 0, none⟩ (.slice A6 l1 xA6)).setCell ⟨W20.heap.size, 1, none⟩ (.slice A7 l2 xA7) := ⟨_, rfl⟩
        rw [← hV1]
        obtain ⟨hm1, hb1w⟩ := YHT26.out.mid hV1
        have HV1 := Lib.hid hV1
        clear hV1
        have kp0_27 := (hb1w.cell (p := ⟨w.heap.size, 0, none⟩) (show w.heap.size < wb.heap.size by omega)).trans p0
        have kp1_27 := (hb1w.cell (p := ⟨w.heap.size, 1, none⟩) (show w.heap.size < wb.heap.size by omega)).trans p1
        have kr0_27 := (hb1w.cell (p := ⟨w.heap.size + 1, 0, none⟩) (show w.heap.size + 1 < wb.heap.size by omega)).trans r0
        have kr1_27 := (hb1w.cell (p := ⟨w.heap.size + 1, 1, none⟩) (show w.heap.size + 1 < wb.heap.size by omega)).trans r1
        clear y0 y1 z0 z1
        refine hK.out _ _ ⟨kp0_27, kp1_27, kr0_27, kr1_27⟩ (fun hS => ?_)
        clear hK
        try simp only [Act.put, List.setIfInBounds_toArray, List.set_cons_zero, List.set_cons_succ]
        refine wpAnyH_oneD (i := 7) rfl (by kernel_rfl) (fun K hK => ?_)
        obtain ⟨⟨y0, y1⟩, ⟨z0, z1⟩⟩ := blk2 hm1
        go_simp
        obtain ⟨V2, hV2⟩ : ∃ W, W = (V1.setCell ⟨W1.heap.size, 0, none⟩ (.slice D6 l1' xD6)).setCell ⟨W1.heap.size, 1, none⟩ (.slice D7 l2' xD7) := ⟨_, rfl⟩
        rw [← hV2]
        have HE := YHT26.out.fin HV1.out hV2
        clear hV2
        have kp0_28 := (HE.b.cell (p := ⟨w.heap.size, 0, none⟩) (show w.heap.size < wb.heap.size by omega)).trans p0
        have kp1_28 := (HE.b.cell (p := ⟨w.heap.size, 1, none⟩) (show w.heap.size < wb.heap.size by omega)).trans p1
        have kr0_28 := (HE.b.cell (p := ⟨w.heap.size + 1, 0, none⟩) (show w.heap.size + 1 < wb.heap.size by omega)).trans r0
        have kr1_28 := (HE.b.cell (p := ⟨w.heap.size + 1, 1, none⟩) (show w.heap.size + 1 < wb.heap.size by omega)).trans r1
        clear y0 y1 z0 z1 HV1
        refine hK.out _ _ ⟨kp0_28, kp1_28, kr0_28, kr1_28⟩ (fun hS => ?_)
        clear hK
        try simp only [Act.put, List.setIfInBounds_toArray, List.set_cons_zero, List.set_cons_succ]
        have hbE := hb.trans (HE.b.mono hzb)
        have HEE := Lib.hid HE
        clear hm1 hb1w HE
        generalize W20.heap.size = kA at *
        generalize W1.heap.size = kB at *
        refine wpAnyH_done (by kernel_rfl) ?_ _
        obtain ⟨⟨aA, aB⟩, -⟩ := blk2 HEE.out.blk
        obtain ⟨⟨bA, bB⟩, -⟩ := blk2 HEE.out.blk'
        have hq1 := equalU_any A6 D6 l1 xA6 l1' xD6 P.1 Q.1 V2 _ _ (sl_own HEE.out.own.1) (sl_own HEE.out.own'.1) HL1.out HL1'.out hB1
        rw [HX1.out] at hq1
        have HQ1 := Lib.hid hq1
        have hq2 := fun nd : Nat => equalU_any A7 D7 l2 xA7 l2' xD7 P.2 Q.2 (V2.drewN nd) _ _ ((sl_own HEE.out.own.2).below (below_drewN (Below.refl _ _) nd) (Nat.le_refl _)) ((sl_own HEE.out.own'.2).below (below_drewN (Below.refl _ _) nd) (Nat.le_refl _)) HL2.out HL2'.out hB2
        rw [HX2.out] at hq2
        have HQ2 := Lib.hid hq2
        clear hq1 hq2 HEE hS
        go_wp2_with fail
        refine Calls.mono HQ1.out ?_
        rintro e _ ⟨rfl, nd, rfl⟩
        cases X1
        · go_wp2
          go_ret
          exact ⟨by rw [HSM.out]; rfl, below_drewN hbE nd⟩
        · go_wp2_with fail
          refine Calls.mono (HQ2.out nd) ?_
          rintro e _ ⟨rfl, nd2, rfl⟩
          go_wp2
          go_ret
          exact ⟨by rw [HSM.out]; cases X2 <;> rfl, below_drewN hbE _⟩
  · skip
    go_simp
    obtain ⟨W29, hw29⟩ : ∃ W, W = (wb.alloc (.cells #[.slice none 0 0, .slice none 0 0] 34)).drew := ⟨_, rfl⟩
    have hn29 : W29.heap[wb.heap.size]? = some (.cells #[.slice none 0 0, .slice none 0 0] 34) := by rw [hw29]; exact heap_alloc_new _ _
    have hb29 : Below wb.heap.size wb W29 := by rw [hw29]; exact ((Below.refl _ _).alloc (Nat.le_refl _) _).drew
    rw [← hw29]
    clear hw29
    have HT29 := TwS.al0 (l1 := l1) (l2 := l2) (l1' := l1') (l2' := l2') (p := P) (p' := Q) hn29 hb29
    clear hb29 hn29
    have kp0_29 := (HT29.b.cell (p := ⟨w.heap.size, 0, none⟩) (show w.heap.size < wb.heap.size by omega)).trans p0
    have kp1_29 := (HT29.b.cell (p := ⟨w.heap.size, 1, none⟩) (show w.heap.size < wb.heap.size by omega)).trans p1
    have kr0_29 := (HT29.b.cell (p := ⟨w.heap.size + 1, 0, none⟩) (show w.heap.size + 1 < wb.heap.size by omega)).trans r0
    have kr1_29 := (HT29.b.cell (p := ⟨w.heap.size + 1, 1, none⟩) (show w.heap.size + 1 < wb.heap.size by omega)).trans r1
    have YHT29 := Lib.hid HT29
    clear HT29
    refine hK.out _ _ ⟨kp0_29, kp1_29, kr0_29, kr1_29⟩ (fun hS => ?_)
    clear hK
    try simp only [Act.put, List.setIfInBounds_toArray, List.set_cons_zero, List.set_cons_succ]
    refine wpAnyH_ready (rs := [1, 5]) (by kernel_rfl) (by simp) ?_
    refine (allReadyH_consD (i := 1) rfl (fun K hK => ?_) (allReadyH_consD (i := 5) rfl (fun K hK => ?_) AllReadyH.nil))
    · skip
      go_simp
      refine Calls.mono (HN1.out _ YHT29.out.b) ?_
      rintro e W30 ⟨u1, u2, rfl, ho1, ho2, hb30⟩
      obtain ⟨A6, xA6, rfl, -⟩ := own_sl ho1
      obtain ⟨A7, xA7, rfl, -⟩ := own_sl ho2
      have HT30 := YHT29.out.word hb30 ho1 ho2
      clear ho1 ho2 hb30
      have kp0_30 := (HT30.b.cell (p := ⟨w.heap.size, 0, none⟩) (show w.heap.size < wb.heap.size by omega)).trans p0
      have kp1_30 := (HT30.b.cell (p := ⟨w.heap.size, 1, none⟩) (show w.heap.size < wb.heap.size by omega)).trans p1
      have kr0_30 := (HT30.b.cell (p := ⟨w.heap.size + 1, 0, none⟩) (show w.heap.size + 1 < wb.heap.size by omega)).trans r0
      have kr1_30 := (HT30.b.cell (p := ⟨w.heap.size + 1, 1, none⟩) (show w.heap.size + 1 < wb.heap.size by omega)).trans r1
      have YHT30 := Lib.hid HT30
      clear HT30
      go_wp2_with fail
      refine hK.out _ _ ⟨kp0_30, kp1_30, kr0_30, kr1_30⟩ (fun hS => ?_)
      clear hK
      try simp only [Act.put, List.setIfInBounds_toArray, List.set_cons_zero, List.set_cons_succ]
      refine wpAnyH_ready (rs := [3, 5]) (by kernel_rfl) (by simp) ?_
      refine (allReadyH_consD (i := 3) rfl (fun K hK => ?_) (allReadyH_consD (i := 5) rfl (fun K hK => ?_) AllReadyH.nil))
      · skip
        go_simp
        refine Calls.mono (HN2.out _ YHT30.out.b) ?_
        rintro e W31 ⟨u1, u2, rfl, ho1, ho2, hb31⟩
        obtain ⟨D6, xD6, rfl, -⟩ := own_sl ho1
        obtain ⟨D7, xD7, rfl, -⟩ := own_sl ho2
        have HT31 := YHT30.out.word' hb31 ho1 ho2
        clear ho1 ho2 hb31
        have kp0_31 := (HT31.b.cell (p := ⟨w.heap.size, 0, none⟩) (show w.heap.size < wb.heap.size by omega)).trans p0
        have kp1_31 := (HT31.b.cell (p := ⟨w.heap.size, 1, none⟩) (show w.heap.size < wb.heap.size by omega)).trans p1
        have kr0_31 := (HT31.b.cell (p := ⟨w.heap.size + 1, 0, none⟩) (show w.heap.size + 1 < wb.heap.size by omega)).trans r0
        have kr1_31 := (HT31.b.cell (p := ⟨w.heap.size + 1, 1, none⟩) (show w.heap.size + 1 < wb.heap.size by omega)).trans r1
        have YHT31 := Lib.hid HT31
        clear HT31
        go_wp2_with fail
        refine hK.out _ _ ⟨kp0_31, kp1_31, kr0_31, kr1_31⟩ (fun hS => ?_)
        clear hK
        try simp only [Act.put, List.setIfInBounds_toArray, List.set_cons_zero, List.set_cons_succ]
        refine wpAnyH_oneD (i := 5) rfl (by kernel_rfl) (fun K hK => ?_)
        go_simp
        obtain ⟨W32, hw32⟩ : ∃ W, W = W31.alloc (.cells #[.slice none 0 0, .slice none 0 0] 34) := ⟨_, rfl⟩
        have hn32 : W32.heap[W31.heap.size]? = some (.cells #[.slice none 0 0, .slice none 0 0] 34) := by rw [hw32]; exact heap_alloc_new _ _
        have hb32 : Below W31.heap.size W31 W32 := by rw [hw32]; exact (Below.refl _ _).alloc (Nat.le_refl _) _
        rw [← hw32]
        clear hw32
        have HT32 := YHT31.out.al' hn32 hb32
        clear hb32 hn32
        have kp0_32 := (HT32.b.cell (p := ⟨w.heap.size, 0, none⟩) (show w.heap.size < wb.heap.size by omega)).trans p0
        have kp1_32 := (HT32.b.cell (p := ⟨w.heap.size, 1, none⟩) (show w.heap.size < wb.heap.size by omega)).trans p1
        have kr0_32 := (HT32.b.cell (p := ⟨w.heap.size + 1, 0, none⟩) (show w.heap.size + 1 < wb.heap.size by omega)).trans r0
        have kr1_32 := (HT32.b.cell (p := ⟨w.heap.size + 1, 1, none⟩) (show w.heap.size + 1 < wb.heap.size by omega)).trans r1
        have YHT32 := Lib.hid HT32
        clear HT32
        refine hK.out _ _ ⟨kp0_32, kp1_32, kr0_32, kr1_32⟩ (fun hS => ?_)
        clear hK
        try simp only [Act.put, List.setIfInBounds_toArray, List.set_cons_zero, List.set_cons_succ]
        refine wpAnyH_oneD (i := 6) rfl (by kernel_rfl) (fun K hK => ?_)
        obtain ⟨⟨y0, y1⟩, ⟨z0, z1⟩⟩ := blk2 (YHT32.out.blk _ rfl).1
        go_simp
        obtain ⟨V1, hV1⟩ : ∃ W, W = (W32.setCell ⟨wb.heap.size, 0, none⟩ (.slice A6 l1 xA6)).setCell ⟨wb.heap.size, 1, none⟩ (.slice A7 l2 xA7) := ⟨_, rfl⟩
        rw [← hV1]
        obtain ⟨hm1, hb1w⟩ := YHT32.out.mid hV1
        have HV1 := Lib.hid hV1
        clear hV1
        have kp0_33 := (hb1w.cell (p := ⟨w.heap.size, 0, none⟩) (show w.heap.size < wb.heap.size by omega)).trans p0
        have kp1_33 := (hb1w.cell (p := ⟨w.heap.size, 1, none⟩) (show w.heap.size < wb.heap.size by omega)).trans p1
        have kr0_33 := (hb1w.cell (p := ⟨w.heap.size + 1, 0, none⟩) (show w.heap.size + 1 < wb.heap.size by omega)).trans r0
        have kr1_33 := (hb1w.cell (p := ⟨w.heap.size + 1, 1, none⟩) (show w.heap.size + 1 < wb.heap.size by omega)).trans r1
        clear y0 y1 z0 z1
        refine hK.out _ _ ⟨kp0_33, kp1_33, kr0_33, kr1_33⟩ (fun hS => ?_)
        clear hK
        try simp only [Act.put, List.setIfInBounds_toArray, List.set_cons_zero, List.set_cons_succ]
        refine wpAnyH_oneD (i := 7) rfl (by kernel_rfl) (fun K hK => ?_)
        obtain ⟨⟨y0, y1⟩, ⟨z0, z1⟩⟩ := blk2 hm1
        go_simp
        obtain ⟨V2, hV2⟩ : ∃ W, W = (V1.setCell ⟨W31.heap.size, 0, none⟩ (.slice D6 l1' xD6)).setCell ⟨W31.heap.size, 1, none⟩ (.slice D7 l2' xD7) := ⟨_, rfl⟩
        rw [← hV2]
        have HE := YHT32.out.fin HV1.out hV2
        clear hV2
        have kp0_34 := (HE.b.cell (p := ⟨w.heap.size, 0, none⟩) (show w.heap.size < wb.heap.size by omega)).trans p0
        have kp1_34 := (HE.b.cell (p := ⟨w.heap.size, 1, none⟩) (show w.heap.size < wb.heap.size by omega)).trans p1
        have kr0_34 := (HE.b.cell (p := ⟨w.heap.size + 1, 0, none⟩) (show w.heap.size + 1 < wb.heap.size by omega)).trans r0
        have kr1_34 := (HE.b.cell (p := ⟨w.heap.size + 1, 1, none⟩) (show w.heap.size + 1 < wb.heap.size by omega)).trans r1
        clear y0 y1 z0 z1 HV1
        refine hK.out _ _ ⟨kp0_34, kp1_34, kr0_34, kr1_34⟩ (fun hS => ?_)
        clear hK
        try simp only [Act.put, List.setIfInBounds_toArray, List.set_cons_zero, List.set_cons_succ]
        have hbE := hb.trans (HE.b.mono hzb)
        have HEE := Lib.hid HE
        clear hm1 hb1w HE
        generalize wb.heap.size = kA at *
        generalize W31.heap.size = kB at *
        refine wpAnyH_done (by kernel_rfl) ?_ _
        obtain ⟨⟨aA, aB⟩, -⟩ := blk2 HEE.out.blk
        obtain ⟨⟨bA, bB⟩, -⟩ := blk2 HEE.out.blk'
        have hq1 := equalU_any A6 D6 l1 xA6 l1' xD6 P.1 Q.1 V2 _ _ (sl_own HEE.out.own.1) (sl_own HEE.out.own'.1) HL1.out HL1'.out hB1
        rw [HX1.out] at hq1
        have HQ1 := Lib.hid hq1
        have hq2 := fun nd : Nat => equalU_any A7 D7 l2 xA7 l2' xD7 P.2 Q.2 (V2.drewN nd) _ _ ((sl_own HEE.out.own.2).below (below_drewN (Below.refl _ _) nd) (Nat.le_refl _)) ((sl_own HEE.out.own'.2).below (below_drewN (Below.refl _ _) nd) (Nat.le_refl _)) HL2.out HL2'.out hB2
        rw [HX2.out] at hq2
        have HQ2 := Lib.hid hq2
        clear hq1 hq2 HEE hS
        go_wp2_with fail
        refine Calls.mono HQ1.out ?_
        rintro e _ ⟨rfl, nd, rfl⟩
        cases X1
        · go_wp2
          go_ret
          exact ⟨by rw [HSM.out]; rfl, below_drewN hbE nd⟩
        · go_wp2_with fail
          refine Calls.mono (HQ2.out nd) ?_
          rintro e _ ⟨rfl, nd2, rfl⟩
          go_wp2
          go_ret
          exact ⟨by rw [HSM.out]; cases X2 <;> rfl, below_drewN hbE _⟩
      · skip
        go_simp
        obtain ⟨W35, hw35⟩ : ∃ W, W = W30.alloc (.cells #[.slice none 0 0, .slice none 0 0] 34) := ⟨_, rfl⟩
        have hn35 : W35.heap[W30.heap.size]? = some (.cells #[.slice none 0 0, .slice none 0 0] 34) := by rw [hw35]; exact heap_alloc_new _ _
        have hb35 : Below W30.heap.size W30 W35 := by rw [hw35]; exact (Below.refl _ _).alloc (Nat.le_refl _) _
        rw [← hw35]
        clear hw35
        have HT35 := YHT30.out.al' hn35 hb35
        clear hb35 hn35
        have kp0_35 := (HT35.b.cell (p := ⟨w.heap.size, 0, none⟩) (show w.heap.size < wb.heap.size by omega)).trans p0
        have kp1_35 := (HT35.b.cell (p := ⟨w.heap.size, 1, none⟩) (show w.heap.size < wb.heap.size by omega)).trans p1
        have kr0_35 := (HT35.b.cell (p := ⟨w.heap.size + 1, 0, none⟩) (show w.heap.size + 1 < wb.heap.size by omega)).trans r0
        have kr1_35 := (HT35.b.cell (p := ⟨w.heap.size + 1, 1, none⟩) (show w.heap.size + 1 < wb.heap.size by omega)).trans r1
        have YHT35 := Lib.hid HT35
        clear HT35
        refine hK.out _ _ ⟨kp0_35, kp1_35, kr0_35, kr1_35⟩ (fun hS => ?_)
        clear hK
        try simp only [Act.put, List.setIfInBounds_toArray, List.set_cons_zero, List.set_cons_succ]
        refine wpAnyH_oneD (i := 3) rfl (by kernel_rfl) (fun K hK => ?_)
        go_simp
        refine Calls.mono (HN2.out _ YHT35.out.b) ?_
        rintro e W36 ⟨u1, u2, rfl, ho1, ho2, hb36⟩
        obtain ⟨D6, xD6, rfl, -⟩ := own_sl ho1
        obtain ⟨D7, xD7, rfl, -⟩ := own_sl ho2
        have HT36 := YHT35.out.word' hb36 ho1 ho2
        clear ho1 ho2 hb36
        have kp0_36 := (HT36.b.cell (p := ⟨w.heap.size, 0, none⟩) (show w.heap.size < wb.heap.size by omega)).trans p0
        have kp1_36 := (HT36.b.cell (p := ⟨w.heap.size, 1, none⟩) (show w.heap.size < wb.heap.size by omega)).trans p1
        have kr0_36 := (HT36.b.cell (p := ⟨w.heap.size + 1, 0, none⟩) (show w.heap.size + 1 < wb.heap.size by omega)).trans r0
        have kr1_36 := (HT36.b.cell (p := ⟨w.heap.size + 1, 1, none⟩) (show w.heap.size + 1 < wb.heap.size by omega)).trans r1
        have YHT36 := Lib.hid HT36
        clear HT36
        go_wp2_with fail
        refine hK.out _ _ ⟨kp0_36, kp1_36, kr0_36, kr1_36⟩ (fun hS => ?_)
        clear hK
        try simp only [Act.put, List.setIfInBounds_toArray, List.set_cons_zero, List.set_cons_succ]
        refine wpAnyH_oneD (i := 6) rfl (by kernel_rfl) (fun K hK => ?_)
        obtain ⟨⟨y0, y1⟩, ⟨z0, z1⟩⟩ := blk2 (YHT36.out.blk _ rfl).1
        go_simp
        obtain ⟨V1, hV1⟩ : ∃ W, W = (W36.setCell ⟨wb.heap.size, 0, none⟩ (.slice A6 l1 xA6)).setCell ⟨wb.heap.size, 1, none⟩ (.slice A7 l2 xA7) := ⟨_, rfl⟩
        rw [← hV1]
        obtain ⟨hm1, hb1w⟩ := YHT36.out.mid hV1
        have HV1 := Lib.hid hV1
        clear hV1
        have kp0_37 := (hb1w.cell (p := ⟨w.heap.size, 0, none⟩) (show w.heap.size < wb.heap.size by omega)).trans p0
        have kp1_37 := (hb1w.cell (p := ⟨w.heap.size, 1, none⟩) (show w.heap.size < wb.heap.size by omega)).trans p1
        have kr0_37 := (hb1w.cell (p := ⟨w.heap.size + 1, 0, none⟩) (show w.heap.size + 1 < wb.heap.size by omega)).trans r0
        have kr1_37 := (hb1w.cell (p := ⟨w.heap.size + 1, 1, none⟩) (show w.heap.size + 1 < wb.heap.size by omega)).trans r1
        clear y0 y1 z0 z1
        refine hK.out _ _ ⟨kp0_37, kp1_37, kr0_37, kr1_37⟩ (fun hS => ?_)
        clear hK
        try simp only [Act.put, List.setIfInBounds_toArray, List.set_cons_zero, List.set_cons_succ]
        refine wpAnyH_oneD (i := 7) rfl (by kernel_rfl) (fun K hK => ?_)
        obtain ⟨⟨y0, y1⟩, ⟨z0, z1⟩⟩ := blk2 hm1
        go_simp
        obtain ⟨V2, hV2⟩ : ∃ W, W = (V1.setCell ⟨W30.heap.size, 0, none⟩ (.slice D6 l1' xD6)).setCell ⟨W30.heap.size, 1, none⟩ (.slice D7 l2' xD7) := ⟨_, rfl⟩
        rw [← hV2]
        have HE := YHT36.out.fin HV1.out hV2
        clear hV2
        have kp0_38 := (HE.b.cell (p := ⟨w.heap.size, 0, none⟩) (show w.heap.size < wb.heap.size by omega)).trans p0
        have kp1_38 := (HE.b.cell (p := ⟨w.heap.size, 1, none⟩) (show w.heap.size < wb.heap.size by omega)).trans p1
        have kr0_38 := (HE.b.cell (p := ⟨w.heap.size + 1, 0, none⟩) (show w.heap.size + 1 < wb.heap.size by omega)).trans r0
        have kr1_38 := (HE.b.cell (p := ⟨w.heap.size + 1, 1, none⟩) (show w.heap.size + 1 < wb.heap.size by omega)).trans r1
        clear y0 y1 z0 z1 HV1
        refine hK.out _ _ ⟨kp0_38, kp1_38, kr0_38, kr1_38⟩ (fun hS => ?_)
        clear hK
        try simp only [Act.put, List.setIfInBounds_toArray, List.set_cons_zero, List.set_cons_succ]
        have hbE := hb.trans (HE.b.mono hzb)
        have HEE := Lib.hid HE
        clear hm1 hb1w HE
        generalize wb.heap.size = kA at *
        generalize W30.heap.size = kB at *
        refine wpAnyH_done (by kernel_rfl) ?_ _
        obtain ⟨⟨aA, aB⟩, -⟩ := blk2 HEE.out.blk
        obtain ⟨⟨bA, bB⟩, -⟩ := blk2 HEE.out.blk'
        have hq1 := equalU_any A6 D6 l1 xA6 l1' xD6 P.1 Q.1 V2 _ _ (sl_own HEE.out.own.1) (sl_own HEE.out.own'.1) HL1.out HL1'.out hB1
        rw [HX1.out] at hq1
        have HQ1 := Lib.hid hq1
        have hq2 := fun nd : Nat => equalU_any A7 D7 l2 xA7 l2' xD7 P.2 Q.2 (V2.drewN nd) _ _ ((sl_own HEE.out.own.2).below (below_drewN (Below.refl _ _) nd) (Nat.le_refl _)) ((sl_own HEE.out.own'.2).below (below_drewN (Below.refl _ _) nd) (Nat.le_refl _)) HL2.out HL2'.out hB2
        rw [HX2.out] at hq2
        have HQ2 := Lib.hid hq2
        clear hq1 hq2 HEE hS
        go_wp2_with fail
        refine Calls.mono HQ1.out ?_
        rintro e _ ⟨rfl, nd, rfl⟩
        cases X1
        · go_wp2
          go_ret
          exact ⟨by rw [HSM.out]; rfl, below_drewN hbE nd⟩
        · go_wp2_with fail
          refine Calls.mono (HQ2.out nd) ?_
          rintro e _ ⟨rfl, nd2, rfl⟩
          go_wp2
          go_ret
          exact ⟨by rw [HSM.out]; cases X2 <;> rfl, below_drewN hbE _⟩
    · skip
      go_simp
      obtain ⟨W39, hw39⟩ : ∃ W, W = W29.alloc (.cells #[.slice none 0 0, .slice none 0 0] 34) := ⟨_, rfl⟩
      have hn39 : W39.heap[W29.heap.size]? = some (.cells #[.slice none 0 0, .slice none 0 0] 34) := by rw [hw39]; exact heap_alloc_new _ _
      have hb39 : Below W29.heap.size W29 W39 := by rw [hw39]; exact (Below.refl _ _).alloc (Nat.le_refl _) _
      rw [← hw39]
      clear hw39
      have HT39 := YHT29.out.al' hn39 hb39
      clear hb39 hn39
      have kp0_39 := (HT39.b.cell (p := ⟨w.heap.size, 0, none⟩) (show w.heap.size < wb.heap.size by omega)).trans p0
      have kp1_39 := (HT39.b.cell (p := ⟨w.heap.size, 1, none⟩) (show w.heap.size < wb.heap.size by omega)).trans p1
      have kr0_39 := (HT39.b.cell (p := ⟨w.heap.size + 1, 0, none⟩) (show w.heap.size + 1 < wb.heap.size by omega)).trans r0
      have kr1_39 := (HT39.b.cell (p := ⟨w.heap.size + 1, 1, none⟩) (show w.heap.size + 1 < wb.heap.size by omega)).trans r1
      have YHT39 := Lib.hid HT39
      clear HT39
      refine hK.out _ _ ⟨kp0_39, kp1_39, kr0_39, kr1_39⟩ (fun hS => ?_)
      clear hK
      try simp only [Act.put, List.setIfInBounds_toArray, List.set_cons_zero, List.set_cons_succ]
      refine wpAnyH_oneD (i := 1) rfl (by kernel_rfl) (fun K hK => ?_)
      go_simp
      refine Calls.mono (HN1.out _ YHT39.out.b) ?_
      rintro e W40 ⟨u1, u2, rfl, ho1, ho2, hb40⟩
      obtain ⟨A6, xA6, rfl, -⟩ := own_sl ho1
      obtain ⟨A7, xA7, rfl, -⟩ := own_sl ho2
      have HT40 := YHT39.out.word hb40 ho1 ho2
      clear ho1 ho2 hb40
      have kp0_40 := (HT40.b.cell (p := ⟨w.heap.size, 0, none⟩) (show w.heap.size < wb.heap.size by omega)).trans p0
      have kp1_40 := (HT40.b.cell (p := ⟨w.heap.size, 1, none⟩) (show w.heap.size < wb.heap.size by omega)).trans p1
      have kr0_40 := (HT40.b.cell (p := ⟨w.heap.size + 1, 0, none⟩) (show w.heap.size + 1 < wb.heap.size by omega)).trans r0
      have kr1_40 := (HT40.b.cell (p := ⟨w.heap.size + 1, 1, none⟩) (show w.heap.size + 1 < wb.heap.size by omega)).trans r1
      have YHT40 := Lib.hid HT40
      clear HT40
      go_wp2_with fail
      refine hK.out _ _ ⟨kp0_40, kp1_40, kr0_40, kr1_40⟩ (fun hS => ?_)
      clear hK
      try simp only [Act.put, List.setIfInBounds_toArray, List.set_cons_zero, List.set_cons_succ]
      refine wpAnyH_oneD (i := 3) rfl (by kernel_rfl) (fun K hK => ?_)
      go_simp
      refine Calls.mono (HN2.out _ YHT40.out.b) ?_
      rintro e W41 ⟨u1, u2, rfl, ho1, ho2, hb41⟩
      obtain ⟨D6, xD6, rfl, -⟩ := own_sl ho1
      obtain ⟨D7, xD7, rfl, -⟩ := own_sl ho2
      have HT41 := YHT40.out.word' hb41 ho1 ho2
      clear ho1 ho2 hb41
      have kp0_41 := (HT41.b.cell (p := ⟨w.heap.size, 0, none⟩) (show w.heap.size < wb.heap.size by omega)).trans p0
      have kp1_41 := (HT41.b.cell (p := ⟨w.heap.size, 1, none⟩) (show w.heap.size < wb.heap.size by omega)).trans p1
      have kr0_41 := (HT41.b.cell (p := ⟨w.heap.size + 1, 0, none⟩) (show w.heap.size + 1 < wb.heap.size by omega)).trans r0
      have kr1_41 := (HT41.b.cell (p := ⟨w.heap.size + 1, 1, none⟩) (show w.heap.size + 1 < wb.heap.size by omega)).trans r1
      have YHT41 := Lib.hid HT41
      clear HT41
      go_wp2_with fail
      refine hK.out _ _ ⟨kp0_41, kp1_41, kr0_41, kr1_41⟩ (fun hS => ?_)
      clear hK
      try simp only [Act.put, List.setIfInBounds_toArray, List.set_cons_zero, List.set_cons_succ]
      refine wpAnyH_oneD (i := 6) rfl (by kernel_rfl) (fun K hK => ?_)
      obtain ⟨⟨y0, y1⟩, ⟨z0, z1⟩⟩ := blk2 (YHT41.out.blk _ rfl).1
      go_simp
      obtain ⟨V1, hV1⟩ : ∃ W, W = (W41.setCell ⟨wb.heap.size, 0, none⟩ (.slice A6 l1 xA6)).setCell ⟨wb.heap.size, 1, none⟩ (.slice A7 l2 xA7) := ⟨_, rfl⟩
      rw [← hV1]
      obtain ⟨hm1, hb1w⟩ := YHT41.out.mid hV1
      have HV1 := Lib.hid hV1
      clear hV1
      have kp0_42 := (hb1w.cell (p := ⟨w.heap.size, 0, none⟩) (show w.heap.size < wb.heap.size by omega)).trans p0
      have kp1_42 := (hb1w.cell (p := ⟨w.heap.size, 1, none⟩) (show w.heap.size < wb.heap.size by omega)).trans p1
      have kr0_42 := (hb1w.cell (p := ⟨w.heap.size + 1, 0, none⟩) (show w.heap.size + 1 < wb.heap.size by omega)).trans r0
      have kr1_42 := (hb1w.cell (p := ⟨w.heap.size + 1, 1, none⟩) (show w.heap.size + 1 < wb.heap.size by omega)).trans r1
      clear y0 y1 z0 z1
      refine hK.out _ _ ⟨kp0_42, kp1_42, kr0_42, kr1_42⟩ (fun hS => ?_)
      clear hK
      try simp only [Act.put, List.setIfInBounds_toArray, List.set_cons_zero, List.set_cons_succ]
      refine wpAnyH_oneD (i := 7) rfl (by kernel_rfl) (fun K hK => ?_)
      obtain ⟨⟨y0, y1⟩, ⟨z0, z1⟩⟩ := blk2 hm1
      go_simp
      obtain ⟨V2, hV2⟩ : ∃ W, W = (V1.setCell ⟨W29.heap.size, 0, none⟩ (.slice D6 l1' xD6)).setCell ⟨W29.heap.size, 1, none⟩ (.slice D7 l2' xD7) := ⟨_, rfl⟩
      rw [← hV2]
      have HE := YHT41.out.fin HV1.out hV2
      clear hV2
      have kp0_43 := (HE.b.cell (p := ⟨w.heap.size, 0, none⟩) (show w.heap.size < wb.heap.size by omega)).trans p0
      have kp1_43 := (HE.b.cell (p := ⟨w.heap.size, 1, none⟩) (show w.heap.size < wb.heap.size by omega)).trans p1
      have kr0_43 := (HE.b.cell (p := ⟨w.heap.size + 1, 0, none⟩) (show w.heap.size + 1 < wb.heap.size by omega)).trans r0
      have kr1_43 := (HE.b.cell (p := ⟨w.heap.size + 1, 1, none⟩) (show w.heap.size + 1 < wb.heap.size by omega)).trans r1
      clear y0 y1 z0 z1 HV1
      refine hK.out _ _ ⟨kp0_43, kp1_43, kr0_43, kr1_43⟩ (fun hS => ?_)
      clear hK
      try simp only [Act.put, List.setIfInBounds_toArray, List.set_cons_zero, List.set_cons_succ]
      have hbE := hb.trans (HE.b.mono hzb)
      have HEE := Lib.hid HE
      clear hm1 hb1w HE
      generalize wb.heap.size = kA at *
      generalize W29.heap.size = kB at *
      refine wpAnyH_done (by kernel_rfl) ?_ _
      obtain ⟨⟨aA, aB⟩, -⟩ := blk2 HEE.out.blk
      obtain ⟨⟨bA, bB⟩, -⟩ := blk2 HEE.out.blk'
      have hq1 := equalU_any A6 D6 l1 xA6 l1' xD6 P.1 Q.1 V2 _ _ (sl_own HEE.out.own.1) (sl_own HEE.out.own'.1) HL1.out HL1'.out hB1
      rw [HX1.out] at hq1
      have HQ1 := Lib.hid hq1
      have hq2 := fun nd : Nat => equalU_any A7 D7 l2 xA7 l2' xD7 P.2 Q.2 (V2.drewN nd) _ _ ((sl_own HEE.out.own.2).below (below_drewN (Below.refl _ _) nd) (Nat.le_refl _)) ((sl_own HEE.out.own'.2).below (below_drewN (Below.refl _ _) nd) (Nat.le_refl _)) HL2.out HL2'.out hB2
      rw [HX2.out] at hq2
      have HQ2 := Lib.hid hq2
      clear hq1 hq2 HEE hS
      go_wp2_with fail
      refine Calls.mono HQ1.out ?_
      rintro e _ ⟨rfl, nd, rfl⟩
      cases X1
      · go_wp2
        go_ret
        exact ⟨by rw [HSM.out]; rfl, below_drewN hbE nd⟩
      · go_wp2_with fail
        refine Calls.mono (HQ2.out nd) ?_
        rintro e _ ⟨rfl, nd2, rfl⟩
        go_wp2
        go_ret
        exact ⟨by rw [HSM.out]; cases X2 <;> rfl, below_drewN hbE _⟩
  · skip
    go_simp
    obtain ⟨W44, hw44⟩ : ∃ W, W = (wb.alloc (.cells #[.slice none 0 0, .slice none 0 0] 34)).drew := ⟨_, rfl⟩
    have hn44 : W44.heap[wb.heap.size]? = some (.cells #[.slice none 0 0, .slice none 0 0] 34) := by rw [hw44]; exact heap_alloc_new _ _
    have hb44 : Below wb.heap.size wb W44 := by rw [hw44]; exact ((Below.refl _ _).alloc (Nat.le_refl _) _).drew
    rw [← hw44]
    clear hw44
    have HT44 := TwS.al0' (l1 := l1) (l2 := l2) (l1' := l1') (l2' := l2') (p := P) (p' := Q) hn44 hb44
    clear hb44 hn44
    have kp0_44 := (HT44.b.cell (p := ⟨w.heap.size, 0, none⟩) (show w.heap.size < wb.heap.size by omega)).trans p0
    have kp1_44 := (HT44.b.cell (p := ⟨w.heap.size, 1, none⟩) (show w.heap.size < wb.heap.size by omega)).trans p1
    have kr0_44 := (HT44.b.cell (p := ⟨w.heap.size + 1, 0, none⟩) (show w.heap.size + 1 < wb.heap.size by omega)).trans r0
    have kr1_44 := (HT44.b.cell (p := ⟨w.heap.size + 1, 1, none⟩) (show w.heap.size + 1 < wb.heap.size by omega)).trans r1
    have YHT44 := Lib.hid HT44
    clear HT44
    refine hK.out _ _ ⟨kp0_44, kp1_44, kr0_44, kr1_44⟩ (fun hS => ?_)
    clear hK
    try simp only [Act.put, List.setIfInBounds_toArray, List.set_cons_zero, List.set_cons_succ]
    refine wpAnyH_ready (rs := [1, 4]) (by kernel_rfl) (by simp) ?_
    refine (allReadyH_consD (i := 1) rfl (fun K hK => ?_) (allReadyH_consD (i := 4) rfl (fun K hK => ?_) AllReadyH.nil))
    · skip
      go_simp
      refine Calls.mono (HN1.out _ YHT44.out.b) ?_
      rintro e W45 ⟨u1, u2, rfl, ho1, ho2, hb45⟩
      obtain ⟨A6, xA6, rfl, -⟩ := own_sl ho1
      obtain ⟨A7, xA7, rfl, -⟩ := own_sl ho2
      have HT45 := YHT44.out.word hb45 ho1 ho2
      clear ho1 ho2 hb45
      have kp0_45 := (HT45.b.cell (p := ⟨w.heap.size, 0, none⟩) (show w.heap.size < wb.heap.size by omega)).trans p0
      have kp1_45 := (HT45.b.cell (p := ⟨w.heap.size, 1, none⟩) (show w.heap.size < wb.heap.size by omega)).trans p1
      have kr0_45 := (HT45.b.cell (p := ⟨w.heap.size + 1, 0, none⟩) (show w.heap.size + 1 < wb.heap.size by omega)).trans r0
      have kr1_45 := (HT45.b.cell (p := ⟨w.heap.size + 1, 1, none⟩) (show w.heap.size + 1 < wb.heap.size by omega)).trans r1
      have YHT45 := Lib.hid HT45
      clear HT45
      go_wp2_with fail
      refine hK.out _ _ ⟨kp0_45, kp1_45, kr0_45, kr1_45⟩ (fun hS => ?_)
      clear hK
      try simp only [Act.put, List.setIfInBounds_toArray, List.set_cons_zero, List.set_cons_succ]
      refine wpAnyH_ready (rs := [3, 4]) (by kernel_rfl) (by simp) ?_
      refine (allReadyH_consD (i := 3) rfl (fun K hK => ?_) (allReadyH_consD (i := 4) rfl (fun K hK => ?_) AllReadyH.nil))
      · skip
        go_simp
        refine Calls.mono (HN2.out _ YHT45.out.b) ?_
        rintro e W46 ⟨u1, u2, rfl, ho1, ho2, hb46⟩
        obtain ⟨D6, xD6, rfl, -⟩ := own_sl ho1
        obtain ⟨D7, xD7, rfl, -⟩ := own_sl ho2
        have HT46 := YHT45.out.word' hb46 ho1 ho2
        clear ho1 ho2 hb46
        have kp0_46 := (HT46.b.cell (p := ⟨w.heap.size, 0, none⟩) (show w.heap.size < wb.heap.size by omega)).trans p0
        have kp1_46 := (HT46.b.cell (p := ⟨w.heap.size, 1, none⟩) (show w.heap.size < wb.heap.size by omega)).trans p1
        have kr0_46 := (HT46.b.cell (p := ⟨w.heap.size + 1, 0, none⟩) (show w.heap.size + 1 < wb.heap.size by omega)).trans r0
        have kr1_46 := (HT46.b.cell (p := ⟨w.heap.size + 1, 1, none⟩) (show w.heap.size + 1 < wb.heap.size by omega)).trans r1
        have YHT46 := Lib.hid HT46
        clear HT46
        go_wp2_with fail
        refine hK.out _ _ ⟨kp0_46, kp1_46, kr0_46, kr1_46⟩ (fun hS => ?_)
        clear hK
        try simp only [Act.put, List.setIfInBounds_toArray, List.set_cons_zero, List.set_cons_succ]
        refine wpAnyH_oneD (i := 4) rfl (by kernel_rfl) (fun K hK => ?_)
        go_simp
        obtain ⟨W47, hw47⟩ : ∃ W, W = W46.alloc (.cells #[.slice none 0 0, .slice none 0 0] 34) := ⟨_, rfl⟩
        have hn47 : W47.heap[W46.heap.size]? = some (.cells #[.slice none 0 0, .slice none 0 0] 34) := by rw [hw47]; exact heap_alloc_new _ _
        have hb47 : Below W46.heap.size W46 W47 := by rw [hw47]; exact (Below.refl _ _).alloc (Nat.le_refl _) _
        rw [← hw47]
        clear hw47
        have HT47 := YHT46.out.al hn47 hb47
        clear hb47 hn47
        have kp0_47 := (HT47.b.cell (p := ⟨w.heap.size, 0, none⟩) (show w.heap.size < wb.heap.size by omega)).trans p0
        have kp1_47 := (HT47.b.cell (p := ⟨w.heap.size, 1, none⟩) (show w.heap.size < wb.heap.size by omega)).trans p1
        have kr0_47 := (HT47.b.cell (p := ⟨w.heap.size + 1, 0, none⟩) (show w.heap.size + 1 < wb.heap.size by omega)).trans r0
        have kr1_47 := (HT47.b.cell (p := ⟨w.heap.size + 1, 1, none⟩) (show w.heap.size + 1 < wb.heap.size by omega)).trans r1
        have YHT47 := Lib.hid HT47
        clear HT47
        refine hK.out _ _ ⟨kp0_47, kp1_47, kr0_47, kr1_47⟩ (fun hS => ?_)
        clear hK
        try simp only [Act.put, List.setIfInBounds_toArray, List.set_cons_zero, List.set_cons_succ]
        refine wpAnyH_oneD (i := 6) rfl (by kernel_rfl) (fun K hK => ?_)
        obtain ⟨⟨y0, y1⟩, ⟨z0, z1⟩⟩ := blk2 (YHT47.out.blk _ rfl).1
        go_simp
        obtain ⟨V1, hV1⟩ : ∃ W, W = (W47.setCell ⟨W46.heap.size, 0, none⟩ (.slice A6 l1 xA6)).setCell ⟨W46.heap.size, 1, none⟩ (.slice A7 l2 xA7) := ⟨_, rfl⟩
        rw [← hV1]
        obtain ⟨hm1, hb1w⟩ := YHT47.out.mid hV1
        have HV1 := Lib.hid hV1
        clear hV1
        have kp0_48 := (hb1w.cell (p := ⟨w.heap.size, 0, none⟩) (show w.heap.size < wb.heap.size by omega)).trans p0
        have kp1_48 := (hb1w.cell (p := ⟨w.heap.size, 1, none⟩) (show w.heap.size < wb.heap.size by omega)).trans p1
        have kr0_48 := (hb1w.cell (p := ⟨w.heap.size + 1, 0, none⟩) (show w.heap.size + 1 < wb.heap.size by omega)).trans r0
        have kr1_48 := (hb1w.cell (p := ⟨w.heap.size + 1, 1, none⟩) (show w.heap.size + 1 < wb.heap.size by omega)).trans r1
        clear y0 y1 z0 z1
        refine hK.out _ _ ⟨kp0_48, kp1_48, kr0_48, kr1_48⟩ (fun hS => ?_)
        clear hK
        try simp only [Act.put, List.setIfInBounds_toArray, List.set_cons_zero, List.set_cons_succ]
        refine wpAnyH_oneD (i := 7) rfl (by kernel_rfl) (fun K hK => ?_)
        obtain ⟨⟨y0, y1⟩, ⟨z0, z1⟩⟩ := blk2 hm1
        go_simp
        obtain ⟨V2, hV2⟩ : ∃ W, W = (V1.setCell ⟨wb.heap.size, 0, none⟩ (.slice D6 l1' xD6)).setCell ⟨wb.heap.size, 1, none⟩ (.slice D7 l2' xD7) := ⟨_, rfl⟩
        rw [← hV2]
        have HE := YHT47.out.fin HV1.out hV2
        clear hV2
        have kp0_49 := (HE.b.cell (p := ⟨w.heap.size, 0, none⟩) (show w.heap.size < wb.heap.size by omega)).trans p0
        have kp1_49 := (HE.b.cell (p := ⟨w.heap.size, 1, none⟩) (show w.heap.size < wb.heap.size by omega)).trans p1
        have kr0_49 := (HE.b.cell (p := ⟨w.heap.size + 1, 0, none⟩) (show w.heap.size + 1 < wb.heap.size by omega)).trans r0
        have kr1_49 := (HE.b.cell (p := ⟨w.heap.size + 1, 1, none⟩) (show w.heap.size + 1 < wb.heap.size by omega)).trans r1
        clear y0 y1 z0 z1 HV1
        refine hK.out _ _ ⟨kp0_49, kp1_49, kr0_49, kr1_49⟩ (fun hS => ?_)
        clear hK
        try simp only [Act.put, List.setIfInBounds_toArray, List.set_cons_zero, List.set_cons_succ]
        have hbE := hb.trans (HE.b.mono hzb)
        have HEE := Lib.hid HE
        clear hm1 hb1w HE
        generalize W46.heap.size = kA at *
        generalize wb.heap.size = kB at *
        refine wpAnyH_done (by kernel_rfl) ?_ _
        obtain ⟨⟨aA, aB⟩, -⟩ := blk2 HEE.out.blk
        obtain ⟨⟨bA, bB⟩, -⟩ := blk2 HEE.out.blk'
        have hq1 := equalU_any A6 D6 l1 xA6 l1' xD6 P.1 Q.1 V2 _ _ (sl_own HEE.out.own.1) (sl_own HEE.out.own'.1) HL1.out HL1'.out hB1
        rw [HX1.out] at hq1
        have HQ1 := Lib.hid hq1
        have hq2 := fun nd : Nat => equalU_any A7 D7 l2 xA7 l2' xD7 P.2 Q.2 (V2.drewN nd) _ _ ((sl_own HEE.out.own.2).below (below_drewN (Below.refl _ _) nd) (Nat.le_refl _)) ((sl_own HEE.out.own'.2).below (below_drewN (Below.refl _ _) nd) (Nat.le_refl _)) HL2.out HL2'.out hB2
        rw [HX2.out] at hq2
        have HQ2 := Lib.hid hq2
        clear hq1 hq2 HEE hS
        go_wp2_with fail
        refine Calls.mono HQ1.out ?_
        rintro e _ ⟨rfl, nd, rfl⟩
        cases X1
        · go_wp2
          go_ret
          exact ⟨by rw [HSM.out]; rfl, below_drewN hbE nd⟩
        · go_wp2_with fail
          refine Calls.mono (HQ2.out nd) ?_
          rintro e _ ⟨rfl, nd2, rfl⟩
          go_wp2
          go_ret
          exact ⟨by rw [HSM.out]; cases X2 <;> rfl, below_drewN hbE _⟩
      · skip
        go_simp
        obtain ⟨W50, hw50⟩ : ∃ W, W = W45.alloc (.cells #[.slice none 0 0, .slice none 0 0] 34) := ⟨_, rfl⟩
        have hn50 : W50.heap[W45.heap.size]? = some (.cells #[.slice none 0 0, .slice none 0 0] 34) := by rw [hw50]; exact heap_alloc_new _ _
        have hb50 : Below W45.heap.size W45 W50 := by rw [hw50]; exact (Below.refl _ _).alloc (Nat.le_refl _) _
        rw [← hw50]
        clear hw50
        have HT50 := YHT45.out.al hn50 hb50
        clear hb50 hn50
        have kp0_50 := (HT50.b.cell (p := ⟨w.heap.size, 0, none⟩) (show w.heap.size < wb.heap.size by omega)).trans p0
        have kp1_50 := (HT50.b.cell (p := ⟨w.heap.size, 1, none⟩) (show w.heap.size < wb.heap.size by omega)).trans p1
        have kr0_50 := (HT50.b.cell (p := ⟨w.heap.size + 1, 0, none⟩) (show w.heap.size + 1 < wb.heap.size by omega)).trans r0
        have kr1_50 := (HT50.b.cell (p := ⟨w.heap.size + 1, 1, none⟩) (show w.heap.size + 1 < wb.heap.size by omega)).trans r1
        have YHT50 := Lib.hid HT50
        clear HT50
        refine hK.out _ _ ⟨kp0_50, kp1_50, kr0_50, kr1_50⟩ (fun hS => ?_)
        clear hK
        try simp only [Act.put, List.setIfInBounds_toArray, List.set_cons_zero, List.set_cons_succ]
        refine wpAnyH_oneD (i := 3) rfl (by kernel_rfl) (fun K hK => ?_)
        go_simp
        refine Calls.mono (HN2.out _ YHT50.out.b) ?_
        rintro e W51 ⟨u1, u2, rfl, ho1, ho2, hb51⟩
        obtain ⟨D6, xD6, rfl, -⟩ := own_sl ho1
        obtain ⟨D7, xD7, rfl, -⟩ := own_sl ho2
        have HT51 := YHT50.out.word' hb51 ho1 ho2
        clear ho1 ho2 hb51
        have kp0_51 := (HT51.b.cell (p := ⟨w.heap.size, 0, none⟩) (show w.heap.size < wb.heap.size by omega)).trans p0
        have kp1_51 := (HT51.b.cell (p := ⟨w.heap.size, 1, none⟩) (show w.heap.size < wb.heap.size by omega)).trans p1
        have kr0_51 := (HT51.b.cell (p := ⟨w.heap.size + 1, 0, none⟩) (show w.heap.size + 1 < wb.heap.size by omega)).trans r0
        have kr1_51 := (HT51.b.cell (p := ⟨w.heap.size + 1, 1, none⟩) (show w.heap.size + 1 < wb.heap.size by omega)).trans r1
        have YHT51 := Lib.hid HT51
        clear HT51
        go_wp2_with fail
        refine hK.out _ _ ⟨kp0_51, kp1_51, kr0_51, kr1_51⟩ (fun hS => ?_)
        clear hK
        try simp only [Act.put, List.setIfInBounds_toArray, List.set_cons_zero, List.set_cons_succ]
        refine wpAnyH_oneD (i := 6) rfl (by kernel_rfl) (fun K hK => ?_)
        obtain ⟨⟨y0, y1⟩, ⟨z0, z1⟩⟩ := blk2 (YHT51.out.blk _ rfl).1
        go_simp
        obtain ⟨V1, hV1⟩ : ∃ W, W = (W51.setCell ⟨W45.heap.size, 0, none⟩ (.slice A6 l1 xA6)).setCell ⟨W45.heap.size, 1, none⟩ (.slice A7 l2 xA7) := ⟨_, rfl⟩
        rw [← hV1]
        obtain ⟨hm1, hb1w⟩ := YHT51.out.mid hV1
        have HV1 := Lib.hid hV1
        clear hV1
        have kp0_52 := (hb1w.cell (p := ⟨w.heap.size, 0, none⟩) (show w.heap.size < wb.heap.size by omega)).trans p0
        have kp1_52 := (hb1w.cell (p := ⟨w.heap.size, 1, none⟩) (show w.heap.size < wb.heap.size by omega)).trans p1
        have kr0_52 := (hb1w.cell (p := ⟨w.heap.size + 1, 0, none⟩) (show w.heap.size + 1 < wb.heap.size by omega)).trans r0
        have kr1_52 := (hb1w.cell (p := ⟨w.heap.size + 1, 1, none⟩) (show w.heap.size + 1 < wb.heap.size by omega)).trans r1
        clear y0 y1 z0 z1
        refine hK.out _ _ ⟨kp0_52, kp1_52, kr0_52, kr1_52⟩ (fun hS => ?_)
        clear hK
        try simp only [Act.put, List.setIfInBounds_toArray, List.set_cons_zero, List.set_cons_succ]
        refine wpAnyH_oneD (i := 7) rfl (by kernel_rfl) (fun K hK => ?_)
        obtain ⟨⟨y0, y1⟩, ⟨z0, z1⟩⟩ := blk2 hm1
        go_simp
        obtain ⟨V2, hV2⟩ : ∃ W, W = (V1.setCell ⟨wb.heap.size, 0, none⟩ (.slice D6 l1' xD6)).setCell ⟨wb.heap.size, 1, none⟩ (.slice D7 l2' xD7) := ⟨_, rfl⟩
        rw [← hV2]
        have HE := YHT51.out.fin HV1.out hV2
        clear hV2
        have kp0_53 := (HE.b.cell (p := ⟨w.heap.size, 0, none⟩) (show w.heap.size < wb.heap.size by omega)).trans p0
        have kp1_53 := (HE.b.cell (p := ⟨w.heap.size, 1, none⟩) (show w.heap.size < wb.heap.size by omega)).trans p1
        have kr0_53 := (HE.b.cell (p := ⟨w.heap.size + 1, 0, none⟩) (show w.heap.size + 1 < wb.heap.size by omega)).trans r0
        have kr1_53 := (HE.b.cell (p := ⟨w.heap.size + 1, 1, none⟩) (show w.heap.size + 1 < wb.heap.size by omega)).trans r1
        clear y0 y1 z0 z1 HV1
        refine hK.out _ _ ⟨kp0_53, kp1_53, kr0_53, kr1_53⟩ (fun hS => ?_)
        clear hK
        try simp only [Act.put, List.setIfInBounds_toArray, List.set_cons_zero, List.set_cons_succ]
        have hbE := hb.trans (HE.b.mono hzb)
        have HEE := Lib.hid HE
        clear hm1 hb1w HE
        generalize W45.heap.size = kA at *
        generalize wb.heap.size = kB at *
        refine wpAnyH_done (by kernel_rfl) ?_ _
        obtain ⟨⟨aA, aB⟩, -⟩ := blk2 HEE.out.blk
        obtain ⟨⟨bA, bB⟩, -⟩ := blk2 HEE.out.blk'
        have hq1 := equalU_any A6 D6 l1 xA6 l1' xD6 P.1 Q.1 V2 _ _ (sl_own HEE.out.own.1) (sl_own HEE.out.own'.1) HL1.out HL1'.out hB1
        rw [HX1.out] at hq1
        have HQ1 := Lib.hid hq1
        have hq2 := fun nd : Nat => equalU_any A7 D7 l2 xA7 l2' xD7 P.2 Q.2 (V2.drewN nd) _ _ ((sl_own HEE.out.own.2).below (below_drewN (Below.refl _ _) nd) (Nat.le_refl _)) ((sl_own HEE.out.own'.2).below (below_drewN (Below.refl _ _) nd) (Nat.le_refl _)) HL2.out HL2'.out hB2
        rw [HX2.out] at hq2
        have HQ2 := Lib.hid hq2
        clear hq1 hq2 HEE hS
        go_wp2_with fail
        refine Calls.mono HQ1.out ?_
        rintro e _ ⟨rfl, nd, rfl⟩
        cases X1
        · go_wp2
          go_ret
          exact ⟨by rw [HSM.out]; rfl, below_drewN hbE nd⟩
        · go_wp2_with fail
          refine Calls.mono (HQ2.out nd) ?_
          rintro e _ ⟨rfl, nd2, rfl⟩
          go_wp2
          go_ret
          exact ⟨by rw [HSM.out]; cases X2 <;> rfl, below_drewN hbE _⟩
    · skip
      go_simp
      obtain ⟨W54, hw54⟩ : ∃ W, W = W44.alloc (.cells #[.slice none 0 0, .slice none 0 0] 34) := ⟨_, rfl⟩
      have hn54 : W54.heap[W44.heap.size]? = some (.cells #[.slice none 0 0, .slice none 0 0] 34) := by rw [hw54]; exact heap_alloc_new _ _
      have hb54 : Below W44.heap.size W44 W54 := by rw [hw54]; exact (Below.refl _ _).alloc (Nat.le_refl _) _
      rw [← hw54]
      clear hw54
      have HT54 := YHT44.out.al hn54 hb54
      clear hb54 hn54
      have kp0_54 := (HT54.b.cell (p := ⟨w.heap.size, 0, none⟩) (show w.heap.size < wb.heap.size by omega)).trans p0
      have kp1_54 := (HT54.b.cell (p := ⟨w.heap.size, 1, none⟩) (show w.heap.size < wb.heap.size by omega)).trans p1
      have kr0_54 := (HT54.b.cell (p := ⟨w.heap.size + 1, 0, none⟩) (show w.heap.size + 1 < wb.heap.size by omega)).trans r0
      have kr1_54 := (HT54.b.cell (p := ⟨w.heap.size + 1, 1, none⟩) (show w.heap.size + 1 < wb.heap.size by omega)).trans r1
      have YHT54 := Lib.hid HT54
      clear HT54
      refine hK.out _ _ ⟨kp0_54, kp1_54, kr0_54, kr1_54⟩ (fun hS => ?_)
      clear hK
      try simp only [Act.put, List.setIfInBounds_toArray, List.set_cons_zero, List.set_cons_succ]
      refine wpAnyH_oneD (i := 1) rfl (by kernel_rfl) (fun K hK => ?_)
      go_simp
      refine Calls.mono (HN1.out _ YHT54.out.b) ?_
      rintro e W55 ⟨u1, u2, rfl, ho1, ho2, hb55⟩
      obtain ⟨A6, xA6, rfl, -⟩ := own_sl ho1
      obtain ⟨A7, xA7, rfl, -⟩ := own_sl ho2
      have HT55 := YHT54.out.word hb55 ho1 ho2
      clear ho1 ho2 hb55
      have kp0_55 := (HT55.b.cell (p := ⟨w.heap.size, 0, none⟩) (show w.heap.size < wb.heap.size by omega)).trans p0
      have kp1_55 := (HT55.b.cell (p := ⟨w.heap.size, 1, none⟩) (show w.heap.size < wb.heap.size by omega)).trans p1
      have kr0_55 := (HT55.b.cell (p := ⟨w.heap.size + 1, 0, none⟩) (show w.heap.size + 1 < wb.heap.size by omega)).trans r0
      have kr1_55 := (HT55.b.cell (p := ⟨w.heap.size + 1, 1, none⟩) (show w.heap.size + 1 < wb.heap.size by omega)).trans r1
      have YHT55 := Lib.hid HT55
      clear HT55
      go_wp2_with fail
      refine hK.out _ _ ⟨kp0_55, kp1_55, kr0_55, kr1_55⟩ (fun hS => ?_)
      clear hK
      try simp only [Act.put, List.setIfInBounds_toArray, List.set_cons_zero, List.set_cons_succ]
      refine wpAnyH_oneD (i := 3) rfl (by kernel_rfl) (fun K hK => ?_)
      go_simp
      refine Calls.mono (HN2.out _ YHT55.out.b) ?_
      rintro e W56 ⟨u1, u2, rfl, ho1, ho2, hb56⟩
      obtain ⟨D6, xD6, rfl, -⟩ := own_sl ho1
      obtain ⟨D7, xD7, rfl, -⟩ := own_sl ho2
      have HT56 := YHT55.out.word' hb56 ho1 ho2
      clear ho1 ho2 hb56
      have kp0_56 := (HT56.b.cell (p := ⟨w.heap.size, 0, none⟩) (show w.heap.size < wb.heap.size by omega)).trans p0
      have kp1_56 := (HT56.b.cell (p := ⟨w.heap.size, 1, none⟩) (show w.heap.size < wb.heap.size by omega)).trans p1
      have kr0_56 := (HT56.b.cell (p := ⟨w.heap.size + 1, 0, none⟩) (show w.heap.size + 1 < wb.heap.size by omega)).trans r0
      have kr1_56 := (HT56.b.cell (p := ⟨w.heap.size + 1, 1, none⟩) (show w.heap.size + 1 < wb.heap.size by omega)).trans r1
      have YHT56 := Lib.hid HT56
      clear HT56
      go_wp2_with fail
      refine hK.out _ _ ⟨kp0_56, kp1_56, kr0_56, kr1_56⟩ (fun hS => ?_)
      clear hK
      try simp only [Act.put, List.setIfInBounds_toArray, List.set_cons_zero, List.set_cons_succ]
      refine wpAnyH_oneD (i := 6) rfl (by kernel_rfl) (fun K hK => ?_)
      obtain ⟨⟨y0, y1⟩, ⟨z0, z1⟩⟩ := blk2 (YHT56.out.blk _ rfl).1
      go_simp
      obtain ⟨V1, hV1⟩ : ∃ W, W = (W56.setCell ⟨W44.heap.size, 0, none⟩ (.slice A6 l1 xA6)).setCell ⟨W44.heap.size, 1, none⟩ (.slice A7 l2 xA7) := ⟨_, rfl⟩
      rw [← hV1]
      obtain ⟨hm1, hb1w⟩ := YHT56.out.mid hV1
      have HV1 := Lib.hid hV1
      clear hV1
      have kp0_57 := (hb1w.cell (p := ⟨w.heap.size, 0, none⟩) (show w.heap.size < wb.heap.size by omega)).trans p0
      have kp1_57 := (hb1w.cell (p := ⟨w.heap.size, 1, none⟩) (show w.heap.size < wb.heap.size by omega)).trans p1
      have kr0_57 := (hb1w.cell (p := ⟨w.heap.size + 1, 0, none⟩) (show w.heap.size + 1 < wb.heap.size by omega)).trans r0
      have kr1_57 := (hb1w.cell (p := ⟨w.heap.size + 1, 1, none⟩) (show w.heap.size + 1 < wb.heap.size by omega)).trans r1
      clear y0 y1 z0 z1
      refine hK.out _ _ ⟨kp0_57, kp1_57, kr0_57, kr1_57⟩ (fun hS => ?_)
      clear hK
      try simp only [Act.put, List.setIfInBounds_toArray, List.set_cons_zero, List.set_cons_succ]
      refine wpAnyH_oneD (i := 7) rfl (by kernel_rfl) (fun K hK => ?_)
      obtain ⟨⟨y0, y1⟩, ⟨z0, z1⟩⟩ := blk2 hm1
      go_simp
      obtain ⟨V2, hV2⟩ : ∃ W, W = (V1.setCell ⟨wb.heap.size, 0, none⟩ (.slice D6 l1' xD6)).setCell ⟨wb.heap.size, 1, none⟩ (.slice D7 l2' xD7) := ⟨_, rfl⟩
      rw [← hV2]
      have HE := YHT56.out.fin HV1.out hV2
      clear hV2
      have kp0_58 := (HE.b.cell (p := ⟨w.heap.size, 0, none⟩) (show w.heap.size < wb.heap.size by omega)).trans p0
      have kp1_58 := (HE.b.cell (p := ⟨w.heap.size, 1, none⟩) (show w.heap.size < wb.heap.size by omega)).trans p1
      have kr0_58 := (HE.b.cell (p := ⟨w.heap.size + 1, 0, none⟩) (show w.heap.size + 1 < wb.heap.size by omega)).trans r0
      have kr1_58 := (HE.b.cell (p := ⟨w.heap.size + 1, 1, none⟩) (show w.heap.size + 1 < wb.heap.size by omega)).trans r1
      clear y0 y1 z0 z1 HV1
      refine hK.out _ _ ⟨kp0_58, kp1_58, kr0_58, kr1_58⟩ (fun hS => ?_)
      clear hK
      try simp only [Act.put, List.setIfInBounds_toArray, List.set_cons_zero, List.set_cons_succ]
      have hbE := hb.trans (HE.b.mono hzb)
      have HEE := Lib.hid HE
      clear hm1 hb1w HE
      generalize W44.heap.size = kA at *
      generalize wb.heap.size = kB at *
      refine wpAnyH_done (by kernel_rfl) ?_ _
      obtain ⟨⟨aA, aB⟩, -⟩ := blk2 HEE.out.blk
      obtain ⟨⟨bA, bB⟩, -⟩ := blk2 HEE.out.blk'
      have hq1 := equalU_any A6 D6 l1 xA6 l1' xD6 P.1 Q.1 V2 _ _ (sl_own HEE.out.own.1) (sl_own HEE.out.own'.1) HL1.out HL1'.out hB1
      rw [HX1.out] at hq1
      have HQ1 := Lib.hid hq1
      have hq2 := fun nd : Nat => equalU_any A7 D7 l2 xA7 l2' xD7 P.2 Q.2 (V2.drewN nd) _ _ ((sl_own HEE.out.own.2).below (below_drewN (Below.refl _ _) nd) (Nat.le_refl _)) ((sl_own HEE.out.own'.2).below (below_drewN (Below.refl _ _) nd) (Nat.le_refl _)) HL2.out HL2'.out hB2
      rw [HX2.out] at hq2
      have HQ2 := Lib.hid hq2
      clear hq1 hq2 HEE hS
      go_wp2_with fail
      refine Calls.mono HQ1.out ?_
      rintro e _ ⟨rfl, nd, rfl⟩
      cases X1
      · go_wp2
        go_ret
        exact ⟨by rw [HSM.out]; rfl, below_drewN hbE nd⟩
      · go_wp2_with fail
        refine Calls.mono (HQ2.out nd) ?_
        rintro e _ ⟨rfl, nd2, rfl⟩
        go_wp2
        go_ret
        exact ⟨by rw [HSM.out]; cases X2 <;> rfl, below_drewN hbE _⟩
end Go.Proofs.Ytkikkplpalabhaa
