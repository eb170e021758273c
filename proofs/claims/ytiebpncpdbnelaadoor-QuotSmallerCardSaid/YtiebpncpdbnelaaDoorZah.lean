/- Texts that stand one behind the other, in one file. -/
import Derived.Test.YtiebpncpdbnelaaDoorZag
import Derived.Deep.LoopGhost
set_option maxHeartbeats 1000000
namespace Go.Proofs.YtiebpncpdbnelaaDoor
open Go.RowKit
def QRel (Q B ne : Nat) (L : List Int) (w : World) : Prop :=
 ∃ v, w.1[Q]? = some (.cells #[.bool true, .int .i64 ne, v] 134 (0, 0)) ∧ w.ownsRow B 3 1 v L.length (icells L) ∧ Q < B
section
variable {Q B ne : Nat} {L : List Int} {w w' w1 : World}
theorem QRel.below (h : QRel Q B ne L w) (hb : Below w.1.size w w') : QRel Q B ne L w' := by
 obtain ⟨v, h1, h2, h3⟩ := h
 exact ⟨v, (hb.block Q (lt_of_block h1)).trans h1, own_below h2 hb, h3⟩
theorem QRel.set {v' : Value} {L' : List Int} {a b c : Value} (h1 : w.1[Q]? = some (.cells #[a, b, c] 134 (0, 0))) (ha : a = .bool true) (hb : b = .int .i64 ne) (h2 : w.ownsRow B 3 1 v' L'.length (icells L')) (h3 : Q < B) :
  QRel Q B ne L' (w.setCell ⟨Q, 2, none⟩ v') := by
 subst ha; subst hb
 have ht : Tch (fun k => k = Q) w (w.setCell ⟨Q, 2, none⟩ v') := Tch.setCell (S := fun k => k = Q) (p := ⟨Q, 2, none⟩) (Tch.refl _ w) (fun _ => rfl) _
 refine ⟨v', ?_, own_tch h2 ht (fun k hk e => by have := (h2.lt k hk).1; omega), h3⟩
 rw [heap_setCell_same w Q 2 _ _ v' h1]; rfl
theorem tch_up {base : Nat} {e n : Nat} {v : Value} {xs : List Value} (h : w.ownsRow B e 1 v n xs) (ht : Tch (fun k => v.ownBlock = some k) w w') : Tch (fun k => k = base ∨ B ≤ k) w w' :=
 ht.mono (fun _ _ hk => .inr (h.lt _ hk).1)
theorem tch_below {base : Nat} (hb : Below w.1.size w w') : Tch (fun k => k = base ∨ B ≤ k) w w' := (Tch.of_below hb).mono (fun i hi h => by omega)
theorem tch_set {base : Nat} (w : World) (o : Nat) (v : Value) : Tch (fun k => k = base ∨ B ≤ k) w (w.setCell ⟨base, o, none⟩ v) := Tch.setCell (S := fun k => k = base ∨ B ≤ k) (p := ⟨base, o, none⟩) (Tch.refl _ w) (fun _ => .inl rfl) v
end
def QPost (Q B ne : Nat) (L : List Int) (v : Value) (w : World) (en : Ending) (w' : World) : Prop := en = .returned v ∧ QRel Q B ne L w' ∧ Tch (fun k => k = Q ∨ B ≤ k) w w'
theorem qlen_any (Q B ne : Nat) (L : List Int) (w : World) (h : QRel Q B ne L w) : Calls Tryd.prog 128 #[.pointer (some ⟨Q, 0, none⟩)] w (Num w (L.length : Int)) := by
 obtain ⟨v, h1, h2, h3⟩ := h
 obtain ⟨⟨c0, c1, c2⟩, _, hQ⟩ := blk3 h1
 obtain ⟨A, c, rfl, hs⟩ := own_sl h2
 clear h1 h2
 go_enter Tryd.func128, Tryd.ntmps128
 go_wp2
 go_ret
 exact ⟨rfl, bR⟩
theorem qfull_any (Q B ne : Nat) (L : List Int) (w : World) (h : QRel Q B ne L w) (hl : L.length < ne) : Calls Tryd.prog 122 #[.pointer (some ⟨Q, 0, none⟩)] w (Tru w false) := by
 obtain ⟨v, h1, h2, h3⟩ := h
 obtain ⟨⟨c0, c1, c2⟩, _, hQ⟩ := blk3 h1
 obtain ⟨A, c, rfl, hs⟩ := own_sl h2
 clear h1 h2
 have d1 : decide ((ne : Int) ≤ (L.length : Int)) = false := by simp; omega
 go_enter Tryd.func122, Tryd.ntmps122
 go_wp2_with fail
 refine wp_region_held_drew (S := fun w' => w'.cell? ⟨Q, 0, none⟩ = some (.bool true) ∧ w'.cell? ⟨Q, 1, none⟩ = some (.int .i64 ne) ∧ w'.cell? ⟨Q, 2, none⟩ = some (.slice A L.length c)) (by kernel_rfl) ⟨c0, c1, c2⟩ (fun hS => ?_)
 refine tkH 0 ?_
 refine tkH 1 ?_
 refine tkH 2 ?_
 refine tkH 3 ?_
 refine tkH 4 ?_
 refine tkH 5 ?_
 refine tkH 6 ?_
 refine tkH 7 ?_
 refine tkH 8 ?_
 refine tkH 9 ?_
 refine tkH 10 ?_
 refine tkH 11 ?_
 refine tkH 12 ?_
 refine tkH 13 ?_
 refine tkH 14 ?_
 refine tkH 15 ?_
 refine tkH 16 ?_
 refine tkH 17 ?_
 refine tkH 18 ?_
 refine tkH 19 ?_
 refine tkH 20 ?_
 refine tkH 21 ?_
 refine wpAnyH_done (by kernel_rfl) ?_ _
 go_wp2
 go_ret
 exact ⟨ret_bool (by simp; omega), Below.drew bR⟩
theorem qput_any (Q B ne : Nat) (L : List Int) (x : Int) (w : World) (h : QRel Q B ne L w) (hl : L.length < ne) (hne : ne ≤ 1000000000) (hB : B ≤ w.1.size) : Calls Tryd.prog 110 #[.pointer (some ⟨Q, 0, none⟩), .int .i64 x] w (QPost Q B ne (L ++ [x]) (.bool true) w) := by
 have HH := dh h
 have h' := h
 obtain ⟨v, h1, h2, h3⟩ := h'
 have HF := dh h1
 clear h1 h2 h
 go_enter Tryd.func110, Tryd.ntmps110
 go_wp2_with fail
 refine (qfull_any Q B ne L _ HH.out hl).mono ?_
 rintro e w1 ⟨rfl, hb1⟩
 have hz1 := hb1.size
 obtain ⟨v1, h1, h2, _⟩ := HH.out.below hb1
 obtain ⟨⟨c0, c1, c2⟩, ⟨f0, f1, f2⟩, hQ⟩ := blk3 h1
 have H1 := dh h1
 clear h1
 have hne3 : ∀ (w3 : World), Tch (fun k => v1.ownBlock = some k) (w1.alloc (.cells #[.int .i64 x] 3)) w3 → w3.1[Q]? = some (.cells #[.bool true, .int .i64 ne, v1] 134 (0, 0)) := fun w3 ht =>
  ht.blk ((Below.heap_alloc _ _ _ hQ).trans H1.out) (fun hk => by have := (h2.lt _ hk).1; omega)
 go_wp2_with (at_builtin; refine wpList_push rfl (.tmp 11) (.tmp 13) 22 rfl B 3 1 8 sliceInt _ _ _ (h2.alloc _) rfl w1.1.size #[.int .i64 x] rfl (heap_alloc_new w1 _) rfl (by simp [Value.oneCell']) (by omega) (by omega) (by simp; omega) ?_; intro v3 w3 hown3 ht3 hat3 hnn3; obtain ⟨g', cap', rfl, _⟩ := own_form hown3 (by omega); have hb3 := hne3 w3 ht3; obtain ⟨⟨d0, d1, d2⟩, ⟨e0, e1, e2⟩, hQ3⟩ := blk3 hb3; have HB3 := dh hb3; clear hb3 hne3)
 go_ret
 refine ⟨rfl, QRel.set HB3.out rfl rfl (by rw [icells_append, lA]; exact hown3) h3, ?_⟩
 exact Tch.trans (Tch.trans (Tch.trans (tch_below hb1) ((Tch.refl (fun k => k = Q ∨ B ≤ k) w1).alloc _) (fun _ _ h => h)) (tch_up (h2.alloc _) ht3) (fun _ _ h => h)) (tch_set w3 2 _) (fun _ _ h => h)
theorem qout0_any (Q B ne : Nat) (w : World) (h : QRel Q B ne [] w) : Calls Tryd.prog 123 #[.pointer (some ⟨Q, 0, none⟩), .int .i64 0] w (QPost Q B ne [] (.tuple #[.int .i64 0, .bool false]) w) := by
 have HH := dh h
 clear h
 go_enter Tryd.func123, Tryd.ntmps123
 go_wp2_with fail
 refine (qlen_any Q B ne [] _ HH.out).mono ?_
 rintro e w1 ⟨rfl, hb1⟩
 go_wp2
 go_ret2
 exact ⟨rfl, HH.out.below hb1, tch_below hb1⟩
theorem qout_any (Q B ne : Nat) (x : Int) (L : List Int) (w : World) (h : QRel Q B ne (x :: L) w) : Calls Tryd.prog 123 #[.pointer (some ⟨Q, 0, none⟩), .int .i64 0] w (QPost Q B ne L (.tuple #[.int .i64 x, .bool true]) w) := by
 have HH := dh h
 have h' := h
 obtain ⟨v, h1, h2, h3⟩ := h'
 clear h1 h2 h v
 go_enter Tryd.func123, Tryd.ntmps123
 go_wp2_with fail
 refine (qlen_any Q B ne (x :: L) _ HH.out).mono ?_
 rintro e w1 ⟨rfl, hb1⟩
 obtain ⟨v1, h1, h2, _⟩ := HH.out.below hb1
 obtain ⟨⟨c0, c1, c2⟩, ⟨f0, f1, f2⟩, hQ⟩ := blk3 h1
 obtain ⟨g, c, rfl, hg, hg2, hc, hmx⟩ := own_form h2 (by simp)
 unfold maxLen at hmx
 have x0 := h2.cellAt 0 (by simp)
 simp [icells] at x0
 have HD := dh (delete1_any B g c L.length (.int .i64 x) (icells L) w1 (by simp [icells]) (icells_one L) (by simpa [icells] using h2))
 have H1 := dh h1
 have hlen : ((L.length : Int) + 1 == 0) = false := by simp; omega
 clear h1 h2
 simp only [List.length_cons] at c2
 simp only [List.length_cons] at hc
 go_wp2_with fail
 refine Calls.mono HD.out ?_
 rintro e w2 ⟨rfl, hown, ht⟩
 have hb2 := ht.blk H1.out (show ¬ (Q = g) by omega)
 obtain ⟨⟨d0, d1, d2⟩, ⟨e0, e1, e2⟩, hQ2⟩ := blk3 hb2
 have HB2 := dh hb2
 clear hb2
 go_wp2
 go_ret2
 refine ⟨rfl, QRel.set HB2.out rfl rfl hown h3, ?_⟩
 exact Tch.trans (Tch.trans (tch_below hb1) (ht.mono (S' := fun k => k = Q ∨ B ≤ k) (fun i _ hi => .inr (by omega))) (fun _ _ h => h)) (tch_set w2 2 _) (fun _ _ h => h)
theorem qtake0_any (Q B ne : Nat) (w : World) (h : QRel Q B ne [] w) : Calls Tryd.prog 111 #[.pointer (some ⟨Q, 0, none⟩)] w (QPost Q B ne [] (.tuple #[.int .i64 0, .bool false]) w) := by
 have HH := dh h
 clear h
 go_enter Tryd.func111, Tryd.ntmps111
 go_wp2_with fail
 refine (qout0_any Q B ne _ HH.out).mono ?_
 rintro e w1 ⟨rfl, hb1, ht⟩
 go_wp2
 go_ret2
 exact ⟨rfl, hb1, ht⟩
theorem qtake_any (Q B ne : Nat) (x : Int) (L : List Int) (w : World) (h : QRel Q B ne (x :: L) w) : Calls Tryd.prog 111 #[.pointer (some ⟨Q, 0, none⟩)] w (QPost Q B ne L (.tuple #[.int .i64 x, .bool true]) w) := by
 have HH := dh h
 clear h
 go_enter Tryd.func111, Tryd.ntmps111
 go_wp2_with fail
 refine (qout_any Q B ne x L _ HH.out).mono ?_
 rintro e w1 ⟨rfl, hb1, ht⟩
 go_wp2
 go_ret2
 exact ⟨rfl, hb1, ht⟩
end Go.Proofs.YtiebpncpdbnelaaDoor
namespace Go.Proofs.YtiebpncpdbnelaaDoor
open Go.RowKit
def FNum (Bg b3 b7 b8 Q qm B : Nat) : Prop := (Bg ≤ qm ∧ Bg ≤ Q ∧ Bg ≤ B) ∧ (b3 ≠ qm ∧ b3 ≠ Q ∧ b3 < B) ∧ (b7 ≠ qm ∧ b7 ≠ Q ∧ b7 < B) ∧ (b8 ≠ qm ∧ b8 ≠ Q ∧ b8 < B) ∧ qm ≠ Q ∧ qm < B ∧ Q < B
structure FRel (b3 b7 b8 Q qm B ne : Nat) (s : List Bool × List Int) (w : World) : Prop where
 c3 : w.cell? ⟨b3, 0, none⟩ = some (.int .i64 ne)
 c7 : w.cell? ⟨b7, 0, none⟩ = some (.slice (some ⟨qm, 0, none⟩) ne ne)
 c8 : w.cell? ⟨b8, 0, none⟩ = some (.pointer (some ⟨Q, 0, none⟩))
 q : QRel Q B ne s.2 w
 m : w.ownsRow 0 4 1 (.slice (some ⟨qm, 0, none⟩) ne ne) ne (s.1.map .bool)
def FS (Q qm B : Nat) : Nat → Prop := fun k => k = Q ∨ k = qm ∨ B ≤ k
section
variable {Bg b3 b7 b8 Q qm B ne : Nat} {s : List Bool × List Int} {L : List Int} {w w' w1 : World}
theorem FRel.below (h : FRel b3 b7 b8 Q qm B ne s w) (hb : Below w.1.size w w') : FRel b3 b7 b8 Q qm B ne s w' :=
 ⟨(hb.cell (World.block_lt_of_cell? w _ h.c3)).trans h.c3, (hb.cell (World.block_lt_of_cell? w _ h.c7)).trans h.c7, (hb.cell (World.block_lt_of_cell? w _ h.c8)).trans h.c8, h.q.below hb, own_below h.m hb⟩
theorem cell_tch {S : Nat → Prop} {b o : Nat} {v : Value} (h : w.cell? ⟨b, o, none⟩ = some v) (ht : Tch S w w') (hn : ¬ S b) : w'.cell? ⟨b, o, none⟩ = some v := by
 have hb := World.block_lt_of_cell? w _ h
 rw [World.cell?_of_block (a := ⟨b, o, none⟩) (ht.block b hb hn)]; exact h
theorem FRel.put (hN : FNum Bg b3 b7 b8 Q qm B) (h : FRel b3 b7 b8 Q qm B ne s w) (hq : QRel Q B ne L w') (ht : Tch (fun k => k = Q ∨ B ≤ k) w w') : FRel b3 b7 b8 Q qm B ne (s.1, L) w' := by
 obtain ⟨_, n3, n7, n8, n1, n2, _⟩ := hN
 exact ⟨cell_tch h.c3 ht (by omega), cell_tch h.c7 ht (by omega), cell_tch h.c8 ht (by omega), hq, own_tch h.m ht (fun g hg => by simp [Value.ownBlock] at hg; subst hg; omega)⟩
theorem own_at {base base' e g n c : Nat} {xs : List Value} (h : w.ownsRow base e 1 (.slice (some ⟨g, 0, none⟩) n c) n xs) (hb : base' ≤ g) : w.ownsRow base' e 1 (.slice (some ⟨g, 0, none⟩) n c) n xs := by
 obtain ⟨h1, h2⟩ := h
 refine ⟨h1, ?_⟩
 rcases h2 with ⟨h0, _⟩ | ⟨g', cap, cur, hv, hg, r⟩
 ·cases h0
 ·cases hv; exact .inr ⟨g, c, cur, rfl, hb, r⟩
theorem FRel.mark {t : Nat} (hN : FNum Bg b3 b7 b8 Q qm B) (h : FRel b3 b7 b8 Q qm B ne s w) : FRel b3 b7 b8 Q qm B ne (s.1.set t true, s.2) (w.setCell ⟨qm, t, none⟩ (.bool true)) ∧ Tch (FS Q qm B) w (w.setCell ⟨qm, t, none⟩ (.bool true)) := by
 obtain ⟨_, n3, n7, n8, n1, n2, n4⟩ := hN
 have ht : Tch (fun k => k = qm) w (w.setCell ⟨qm, t, none⟩ (.bool true)) := Tch.setCell (S := fun k => k = qm) (p := ⟨qm, t, none⟩) (Tch.refl _ w) (fun _ => rfl) _
 refine ⟨⟨cell_tch h.c3 ht (by omega), cell_tch h.c7 ht (by omega), cell_tch h.c8 ht (by omega), ?_, ?_⟩, ht.mono (fun _ _ h => .inr (.inl h))⟩
 ·obtain ⟨v, q1, q2, q3⟩ := h.q
  exact ⟨v, ht.blk q1 (by omega), own_tch q2 ht (fun g hg => by have := (q2.lt g hg).1; omega), q3⟩
 ·have := (h.m.stored t (.bool true)).1
  rw [List.map_set]; exact this
theorem FRel.at_ {t : Nat} (h : FRel b3 b7 b8 Q qm B ne s w) (ht : t < ne) : w.cell? ⟨qm, t, none⟩ = some (.bool (s.1.getD t false)) ∧ w.frozen? ⟨qm, t, none⟩ = false := by
 have hl : s.1.length = ne := by have := h.m.1; simpa using this
 refine ⟨?_, h.m.frozenAt t⟩
 rw [h.m.cellAt t (by omega)]
 exact bcells'_at (by omega)
theorem vis_app {n : Nat} (m : List Bool) (T L : List Int) (x : Int) : vis n (m, T ++ L) x = ((vis n (m, L) x).1, T ++ (vis n (m, L) x).2) := by
 unfold vis
 dsimp only
 split <;> simp
theorem visF_app {n : Nat} : ∀ (l : List Int) (m : List Bool) (T L : List Int), l.foldl (vis n) (m, T ++ L) = ((l.foldl (vis n) (m, L)).1, T ++ (l.foldl (vis n) (m, L)).2)
 | [], _, _, _ => rfl
 | x :: l, m, T, L => by rw [List.foldl_cons, vis_app, visF_app l, List.foldl_cons]
end
def FPost (b3 b7 b8 Q qm B ne : Nat) (s : List Bool × List Int) (w : World) (en : Ending) (w' : World) : Prop := en = .returned (.tuple #[]) ∧ FRel b3 b7 b8 Q qm B ne s w' ∧ Tch (FS Q qm B) w w'
theorem visit_any (Bg b3 b7 b8 Q qm B ne : Nat) (s : List Bool × List Int) (x : Int) (w : World) (hN : FNum Bg b3 b7 b8 Q qm B) (h : FRel b3 b7 b8 Q qm B ne s w) (hne : ne ≤ 1000000000) (hB : B ≤ w.1.size)
  (hroom : ∀ t : Nat, t < ne → s.1.getD t false = false → s.2.length < ne) (hl : s.1.length = ne) :
  Calls Tryd.prog 109 #[.int .i64 x, .pointer (some ⟨b3, 0, none⟩), .pointer (some ⟨b7, 0, none⟩), .pointer (some ⟨b8, 0, none⟩)] w (FPost b3 b7 b8 Q qm B ne (vis ne s x) w) := by
 have c3 := h.c3
 have c7 := h.c7
 have c8 := h.c8
 by_cases h0 : 0 ≤ x
 ·have d0 : decide (0 ≤ x) = true := by simpa using h0
  by_cases h1 : x < (ne : Int)
  ·have d1 : decide (x < (ne : Int)) = true := by simpa using h1
   obtain ⟨t, rfl⟩ := Int.eq_ofNat_of_zero_le h0
   have htn : t < ne := by omega
   have hnd : isNd ne (t : Int) = true := isNd_iff.2 ⟨h0, h1⟩
   obtain ⟨m0, m1⟩ := h.at_ htn
   have hrm := hroom t htn
   cases hmk : s.1.getD t false
   ·rw [hmk] at m0
    have HX := dh (vis_new (s := s) hnd hmk (by omega))
    have hsz := hrm hmk
    obtain ⟨k1, k2⟩ := FRel.mark (t := t) hN h
    have HQ := dh (k1.q)
    have hz : (w.setCell ⟨qm, t, none⟩ (.bool true)).1.size = w.1.size := by simp [World.setCell]
    have hp := qput_any Q B ne s.2 (t : Int) (w.setCell ⟨qm, t, none⟩ (.bool true)) HQ.out hsz hne (by omega)
    have c7' := k1.c7
    have c8' := k1.c8
    have HP := dh hp
    have HK1 := dh k1
    have HK2 := dh k2
    clear hmk hnd hrm hroom k1 k2 hp hz d0 d1
    go_enter Tryd.func109, Tryd.ntmps109
    go_wp2_with fail
    refine Calls.mono HP.out ?_
    rintro e w2 ⟨rfl, hq, ht⟩
    go_wp2
    go_end0
    refine ⟨rfl, ?_, ?_⟩
    ·rw [HX.out]; exact FRel.put hN HK1.out hq ht
    ·exact Tch.trans HK2.out ht (fun i _ hi => by rcases hi with hi | hi; exact .inl hi; exact .inr (.inr hi))
   ·rw [hmk] at m0
    have HX := dh (vis_old (n := ne) (s := s) hmk (by omega))
    have HH := dh h
    clear hmk hnd hrm hroom d0 d1 h
    go_enter Tryd.func109, Tryd.ntmps109
    go_wp2
    go_end0
    exact ⟨rfl, by rw [HX.out]; exact HH.out, Tch.refl _ _⟩
  ·have d1 : decide (x < (ne : Int)) = false := by simpa using h1
   have HX := dh (vis_out (s := s) (show isNd ne x = false by simp [isNd, h1]))
   have HH := dh h
   clear h hroom
   go_enter Tryd.func109, Tryd.ntmps109
   go_wp2
   go_end0
   exact ⟨rfl, by rw [HX.out]; exact HH.out, Tch.refl _ _⟩
 ·have d0 : decide (0 ≤ x) = false := by simpa using h0
  have HX := dh (vis_out (s := s) (show isNd ne x = false by simp [isNd, h0]))
  have HH := dh h
  clear h hroom
  go_enter Tryd.func109, Tryd.ntmps109
  go_wp2
  go_end0
  exact ⟨rfl, by rw [HX.out]; exact HH.out, Tch.refl _ _⟩
end Go.Proofs.YtiebpncpdbnelaaDoor
