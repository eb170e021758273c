/- Texts that stand one behind the other, in one file. -/
import Derived.Test.YtiebpncpdbnelaaGreatDoorZag
import Derived.Deep.LoopGhost
set_option maxHeartbeats 1000000
namespace Go.Proofs.YtiebpncpdbnelaaGreatDoor
open Go.RowKit
def QRel (Q B ne : Nat) (L : List Int) (w : World) : Prop :=
 ∃ v, w.1[Q]? = some (.cells #[.bool true, .int .i64 ne, v] 117 (0, 0)) ∧ w.ownsRow B 3 1 v L.length (icells L) ∧ Q < B
section
variable {Q B ne : Nat} {L : List Int} {w w' w1 : World}
theorem QRel.below (h : QRel Q B ne L w) (hb : Below w.1.size w w') : QRel Q B ne L w' := by
 obtain ⟨v, h1, h2, h3⟩ := h
 exact ⟨v, (hb.block Q (lt_of_block h1)).trans h1, own_below h2 hb, h3⟩
theorem QRel.set {v' : Value} {L' : List Int} {a b c : Value} (h1 : w.1[Q]? = some (.cells #[a, b, c] 117 (0, 0))) (ha : a = .bool true) (hb : b = .int .i64 ne) (h2 : w.ownsRow B 3 1 v' L'.length (icells L')) (h3 : Q < B) :
  QRel Q B ne L' (w.setCell ⟨Q, 2, none⟩ v') := by
 subst ha; subst hb
 have ht : Tch (fun k => k = Q) w (w.setCell ⟨Q, 2, none⟩ v') := Tch.setCell (S := fun k => k = Q) (p := ⟨Q, 2, none⟩) (Tch.refl _ w) (fun _ => rfl) _
 refine ⟨v', ?_, own_tch h2 ht (fun k hk e => by have := (h2.lt k hk).1; omega), h3⟩
 rw [heap_setCell_same w Q 2 _ _ v' h1]; rfl
theorem tch_up {base : Nat} {e n : Nat} {v : Value} {xs : List Value} (h : w.ownsRow B e 1 v n xs) (ht : Tch (fun k => v.ownBlock = some k) w w') : Tch (fun k => k = base ∨ B ≤ k) w w' :=
 ht.mono (fun _ _ hk => .inr (h.lt _ hk).1)
theorem tch_below {base : Nat} (hb : Below w.1.size w w') : Tch (fun k => k = base ∨ B ≤ k) w w' := (Tch.of_below hb).mono (fun i hi h => by omega)
theorem tch_set {base : Nat} (w : World) (o : Nat) (v : Value) : Tch (fun k => k = base ∨ B ≤ k) w (w.setCell ⟨base, o, none⟩ v) := Tch.setCell (S := fun k => k = base ∨ B ≤ k) (p := ⟨base, o, none⟩) (Tch.refl _ w) (fun _ => .inl rfl) v
end
def QPost (Q B ne : Nat) (L : List Int) (v : Value) (w : World) (en : Ending) (w' : World) : Prop := en = .returned v ∧ QRel Q B ne L w' ∧ Tch (fun k => k = Q ∨ B ≤ k) w w'
theorem qlen_any (Q B ne : Nat) (L : List Int) (w : World) (h : QRel Q B ne L w) : Calls Tryz.prog 91 #[.pointer (some ⟨Q, 0, none⟩)] w (Num w (L.length : Int)) := by
 obtain ⟨v, h1, h2, h3⟩ := h
 obtain ⟨⟨c0, c1, c2⟩, _, hQ⟩ := blk3 h1
 obtain ⟨A, c, rfl, hs⟩ := own_sl h2
 clear h1 h2
 go_enter Tryz.func91, Tryz.ntmps91
 go_wp2
 go_ret
 exact ⟨rfl, bR⟩
theorem qfull_any (Q B ne : Nat) (L : List Int) (w : World) (h : QRel Q B ne L w) (hl : L.length < ne) : Calls Tryz.prog 82 #[.pointer (some ⟨Q, 0, none⟩)] w (Tru w false) := by
 obtain ⟨v, h1, h2, h3⟩ := h
 obtain ⟨⟨c0, c1, c2⟩, _, hQ⟩ := blk3 h1
 obtain ⟨A, c, rfl, hs⟩ := own_sl h2
 clear h1 h2
 have d1 : decide ((ne : Int) ≤ (L.length : Int)) = false := by simp; omega
 go_enter Tryz.func82, Tryz.ntmps82
 go_wp2_with fail
 refine wp_region_held_drew (S := fun w' => w'.cell? ⟨Q, 0, none⟩ = some (.bool true) ∧ w'.cell? ⟨Q, 1, none⟩ = some (.int .i64 ne) ∧ w'.cell? ⟨Q, 2, none⟩ = some (.slice A L.length c)) (by kernel_rfl) ⟨c0, c1, c2⟩ (fun hS => ?_)
 refine tkH 0 ?_
 refine tkH 1 ?_
 refine tkH 2 ?_
 refine tkH 3 ?_
 refine tkH 4 ?_
 refine tkH 5 ?_
 refine tkH 6 ?_
 refine tkH 7 ?_
 refine tkH 8 ?_
 refine tkH 9 ?_
 refine tkH 10 ?_
 refine tkH 11 ?_
 refine tkH 12 ?_
 refine tkH 13 ?_
 refine tkH 14 ?_
 refine tkH 15 ?_
 refine tkH 16 ?_
 refine tkH 17 ?_
 refine tkH 18 ?_
 refine tkH 19 ?_
 refine tkH 20 ?_
 refine tkH 21 ?_
 refine wpAnyH_done (by kernel_rfl) ?_ _
 go_wp2
 go_ret
 exact ⟨ret_bool (by simp; omega), Below.drew bR⟩
theorem qput_any (Q B ne : Nat) (L : List Int) (x : Int) (w : World) (h : QRel Q B ne L w) (hl : L.length < ne) (hne : ne ≤ 1000000000) (hB : B ≤ w.1.size) : Calls Tryz.prog 67 #[.pointer (some ⟨Q, 0, none⟩), .int .i64 x] w (QPost Q B ne (L ++ [x]) (.bool true) w) := by
 have HH := dh h
 have h' := h
 obtain ⟨v, h1, h2, h3⟩ := h'
 have HF := dh h1
 clear h1 h2 h
 go_enter Tryz.func67, Tryz.ntmps67
 go_wp2_with fail
 refine (qfull_any Q B ne L _ HH.out hl).mono ?_
 rintro e w1 ⟨rfl, hb1⟩
 have hz1 := hb1.size
 obtain ⟨v1, h1, h2, _⟩ := HH.out.below hb1
 obtain ⟨⟨c0, c1, c2⟩, ⟨f0, f1, f2⟩, hQ⟩ := blk3 h1
 have H1 := dh h1
 clear h1
 have hne3 : ∀ (w3 : World), Tch (fun k => v1.ownBlock = some k) (w1.alloc (.cells #[.int .i64 x] 3)) w3 → w3.1[Q]? = some (.cells #[.bool true, .int .i64 ne, v1] 117 (0, 0)) := fun w3 ht =>
  ht.blk ((Below.heap_alloc _ _ _ hQ).trans H1.out) (fun hk => by have := (h2.lt _ hk).1; omega)
 go_wp2_with (at_builtin; refine wpList_push rfl (.tmp 11) (.tmp 13) 22 rfl B 3 1 8 sliceInt _ _ _ (h2.alloc _) rfl w1.1.size #[.int .i64 x] rfl (heap_alloc_new w1 _) rfl (by simp [Value.oneCell']) (by omega) (by omega) (by simp; omega) ?_; intro v3 w3 hown3 ht3 hat3 hnn3; obtain ⟨g', cap', rfl, _⟩ := own_form hown3 (by omega); have hb3 := hne3 w3 ht3; obtain ⟨⟨d0, d1, d2⟩, ⟨e0, e1, e2⟩, hQ3⟩ := blk3 hb3; have HB3 := dh hb3; clear hb3 hne3)
 go_ret
 refine ⟨rfl, QRel.set HB3.out rfl rfl (by rw [icells_append, lA]; exact hown3) h3, ?_⟩
 exact Tch.trans (Tch.trans (Tch.trans (tch_below hb1) ((Tch.refl (fun k => k = Q ∨ B ≤ k) w1).alloc _) (fun _ _ h => h)) (tch_up (h2.alloc _) ht3) (fun _ _ h => h)) (tch_set w3 2 _) (fun _ _ h => h)
theorem qout0_any (Q B ne : Nat) (w : World) (h : QRel Q B ne [] w) : Calls Tryz.prog 83 #[.pointer (some ⟨Q, 0, none⟩), .int .i64 0] w (QPost Q B ne [] (.tuple #[.int .i64 0, .bool false]) w) := by
 have HH := dh h
 clear h
 go_enter Tryz.func83, Tryz.ntmps83
 go_wp2_with fail
 refine (qlen_any Q B ne [] _ HH.out).mono ?_
 rintro e w1 ⟨rfl, hb1⟩
 go_wp2
 go_ret2
 exact ⟨rfl, HH.out.below hb1, tch_below hb1⟩
theorem qout_any (Q B ne : Nat) (x : Int) (L : List Int) (w : World) (h : QRel Q B ne (x :: L) w) : Calls Tryz.prog 83 #[.pointer (some ⟨Q, 0, none⟩), .int .i64 0] w (QPost Q B ne L (.tuple #[.int .i64 x, .bool true]) w) := by
 have HH := dh h
 have h' := h
 obtain ⟨v, h1, h2, h3⟩ := h'
 clear h1 h2 h v
 go_enter Tryz.func83, Tryz.ntmps83
 go_wp2_with fail
 refine (qlen_any Q B ne (x :: L) _ HH.out).mono ?_
 rintro e w1 ⟨rfl, hb1⟩
 obtain ⟨v1, h1, h2, _⟩ := HH.out.below hb1
 obtain ⟨⟨c0, c1, c2⟩, ⟨f0, f1, f2⟩, hQ⟩ := blk3 h1
 obtain ⟨g, c, rfl, hg, hg2, hc, hmx⟩ := own_form h2 (by simp)
 unfold maxLen at hmx
 have x0 := h2.cellAt 0 (by simp)
 simp [icells] at x0
 have HD := dh (delete1_any B g c L.length (.int .i64 x) (icells L) w1 (by simp [icells]) (icells_one L) (by simpa [icells] using h2))
 have H1 := dh h1
 have hlen : ((L.length : Int) + 1 == 0) = false := by simp; omega
 clear h1 h2
 simp only [List.length_cons] at c2
 simp only [List.length_cons] at hc
 go_wp2_with fail
 refine Calls.mono HD.out ?_
 rintro e w2 ⟨rfl, hown, ht⟩
 have hb2 := ht.blk H1.out (show ¬ (Q = g) by omega)
 obtain ⟨⟨d0, d1, d2⟩, ⟨e0, e1, e2⟩, hQ2⟩ := blk3 hb2
 have HB2 := dh hb2
 clear hb2
 go_wp2
 go_ret2
 refine ⟨rfl, QRel.set HB2.out rfl rfl hown h3, ?_⟩
 exact Tch.trans (Tch.trans (tch_below hb1) (ht.mono (S' := fun k => k = Q ∨ B ≤ k) (fun i _ hi => .inr (by omega))) (fun _ _ h => h)) (tch_set w2 2 _) (fun _ _ h => h)
theorem qtake0_any (Q B ne : Nat) (w : World) (h : QRel Q B ne [] w) : Calls Tryz.prog 68 #[.pointer (some ⟨Q, 0, none⟩)] w (QPost Q B ne [] (.tuple #[.int .i64 0, .bool false]) w) := by
 have HH := dh h
 clear h
 go_enter Tryz.func68, Tryz.ntmps68
 go_wp2_with fail
 refine (qout0_any Q B ne _ HH.out).mono ?_
 rintro e w1 ⟨rfl, hb1, ht⟩
 go_wp2
 go_ret2
 exact ⟨rfl, hb1, ht⟩
theorem qtake_any (Q B ne : Nat) (x : Int) (L : List Int) (w : World) (h : QRel Q B ne (x :: L) w) : Calls Tryz.prog 68 #[.pointer (some ⟨Q, 0, none⟩)] w (QPost Q B ne L (.tuple #[.int .i64 x, .bool true]) w) := by
 have HH := dh h
 clear h
 go_enter Tryz.func68, Tryz.ntmps68
 go_wp2_with fail
 refine (qout_any Q B ne x L _ HH.out).mono ?_
 rintro e w1 ⟨rfl, hb1, ht⟩
 go_wp2
 go_ret2
 exact ⟨rfl, hb1, ht⟩
end Go.Proofs.YtiebpncpdbnelaaGreatDoor
namespace Go.Proofs.YtiebpncpdbnelaaGreatDoor
open Go.RowKit
def FNum (Bg b3 b7 b8 Q qm B : Nat) : Prop := (Bg ≤ qm ∧ Bg ≤ Q ∧ Bg ≤ B) ∧ (b3 ≠ qm ∧ b3 ≠ Q ∧ b3 < B) ∧ (b7 ≠ qm ∧ b7 ≠ Q ∧ b7 < B) ∧ (b8 ≠ qm ∧ b8 ≠ Q ∧ b8 < B) ∧ qm ≠ Q ∧ qm < B ∧ Q < B
structure FRel (b3 b7 b8 Q qm B ne : Nat) (s : List Bool × List Int) (w : World) : Prop where
 c3 : w.cell? ⟨b3, 0, none⟩ = some (.int .i64 ne)
 c7 : w.cell? ⟨b7, 0, none⟩ = some (.slice (some ⟨qm, 0, none⟩) ne ne)
 c8 : w.cell? ⟨b8, 0, none⟩ = some (.pointer (some ⟨Q, 0, none⟩))
 q : QRel Q B ne s.2 w
 m : w.ownsRow 0 4 1 (.slice (some ⟨qm, 0, none⟩) ne ne) ne (s.1.map .bool)
def FS (Q qm B : Nat) : Nat → Prop := fun k => k = Q ∨ k = qm ∨ B ≤ k
section
variable {Bg b3 b7 b8 Q qm B ne : Nat} {s : List Bool × List Int} {L : List Int} {w w' w1 : World}
theorem FRel.below (h : FRel b3 b7 b8 Q qm B ne s w) (hb : Below w.1.size w w') : FRel b3 b7 b8 Q qm B ne s w' :=
 ⟨(hb.cell (World.block_lt_of_cell? w _ h.c3)).trans h.c3, (hb.cell (World.block_lt_of_cell? w _ h.c7)).trans h.c7, (hb.cell (World.block_lt_of_cell? w _ h.c8)).trans h.c8, h.q.below hb, own_below h.m hb⟩
theorem cell_tch {S : Nat → Prop} {b o : Nat} {v : Value} (h : w.cell? ⟨b, o, none⟩ = some v) (ht : Tch S w w') (hn : ¬ S b) : w'.cell? ⟨b, o, none⟩ = some v := by
 have hb := World.block_lt_of_cell? w _ h
 rw [World.cell?_of_block (a := ⟨b, o, none⟩) (ht.block b hb hn)]; exact h
theorem FRel.put (hN : FNum Bg b3 b7 b8 Q qm B) (h : FRel b3 b7 b8 Q qm B ne s w) (hq : QRel Q B ne L w') (ht : Tch (fun k => k = Q ∨ B ≤ k) w w') : FRel b3 b7 b8 Q qm B ne (s.1, L) w' := by
 obtain ⟨_, n3, n7, n8, n1, n2, _⟩ := hN
 exact ⟨cell_tch h.c3 ht (by omega), cell_tch h.c7 ht (by omega), cell_tch h.c8 ht (by omega), hq, own_tch h.m ht (fun g hg => by simp [Value.ownBlock] at hg; subst hg; omega)⟩
theorem own_at {base base' e g n c : Nat} {xs : List Value} (h : w.ownsRow base e 1 (.slice (some ⟨g, 0, none⟩) n c) n xs) (hb : base' ≤ g) : w.ownsRow base' e 1 (.slice (some ⟨g, 0, none⟩) n c) n xs := by
 obtain ⟨h1, h2⟩ := h
 refine ⟨h1, ?_⟩
 rcases h2 with ⟨h0, _⟩ | ⟨g', cap, cur, hv, hg, r⟩
 ·cases h0
 ·cases hv; exact .inr ⟨g, c, cur, rfl, hb, r⟩
theorem FRel.mark {t : Nat} (hN : FNum Bg b3 b7 b8 Q qm B) (h : FRel b3 b7 b8 Q qm B ne s w) : FRel b3 b7 b8 Q qm B ne (s.1.set t true, s.2) (w.setCell ⟨qm, t, none⟩ (.bool true)) ∧ Tch (FS Q qm B) w (w.setCell ⟨qm, t, none⟩ (.bool true)) := by
 obtain ⟨_, n3, n7, n8, n1, n2, n4⟩ := hN
 have ht : Tch (fun k => k = qm) w (w.setCell ⟨qm, t, none⟩ (.bool true)) := Tch.setCell (S := fun k => k = qm) (p := ⟨qm, t, none⟩) (Tch.refl _ w) (fun _ => rfl) _
 refine ⟨⟨cell_tch h.c3 ht (by omega), cell_tch h.c7 ht (by omega), cell_tch h.c8 ht (by omega), ?_, ?_⟩, ht.mono (fun _ _ h => .inr (.inl h))⟩
 ·obtain ⟨v, q1, q2, q3⟩ := h.q
  exact ⟨v, ht.blk q1 (by omega), own_tch q2 ht (fun g hg => by have := (q2.lt g hg).1; omega), q3⟩
 ·have := (h.m.stored t (.bool true)).1
  rw [List.map_set]; exact this
theorem FRel.at_ {t : Nat} (h : FRel b3 b7 b8 Q qm B ne s w) (ht : t < ne) : w.cell? ⟨qm, t, none⟩ = some (.bool (s.1.getD t false)) ∧ w.frozen? ⟨qm, t, none⟩ = false := by
 have hl : s.1.length = ne := by have := h.m.1; simpa using this
 refine ⟨?_, h.m.frozenAt t⟩
 rw [h.m.cellAt t (by omega)]
 exact bcells'_at (by omega)
theorem vis_app {n : Nat} (m : List Bool) (T L : List Int) (x : Int) : vis n (m, T ++ L) x = ((vis n (m, L) x).1, T ++ (vis n (m, L) x).2) := by
 unfold vis
 dsimp only
 split <;> simp
theorem visF_app {n : Nat} : ∀ (l : List Int) (m : List Bool) (T L : List Int), l.foldl (vis n) (m, T ++ L) = ((l.foldl (vis n) (m, L)).1, T ++ (l.foldl (vis n) (m, L)).2)
 | [], _, _, _ => rfl
 | x :: l, m, T, L => by rw [List.foldl_cons, vis_app, visF_app l, List.foldl_cons]
end
def FPost (b3 b7 b8 Q qm B ne : Nat) (s : List Bool × List Int) (w : World) (en : Ending) (w' : World) : Prop := en = .returned (.tuple #[]) ∧ FRel b3 b7 b8 Q qm B ne s w' ∧ Tch (FS Q qm B) w w'
theorem visit_any (Bg b3 b7 b8 Q qm B ne : Nat) (s : List Bool × List Int) (x : Int) (w : World) (hN : FNum Bg b3 b7 b8 Q qm B) (h : FRel b3 b7 b8 Q qm B ne s w) (hne : ne ≤ 1000000000) (hB : B ≤ w.1.size)
  (hroom : ∀ t : Nat, t < ne → s.1.getD t false = false → s.2.length < ne) (hl : s.1.length = ne) :
  Calls Tryz.prog 66 #[.int .i64 x, .pointer (some ⟨b3, 0, none⟩), .pointer (some ⟨b7, 0, none⟩), .pointer (some ⟨b8, 0, none⟩)] w (FPost b3 b7 b8 Q qm B ne (vis ne s x) w) := by
 have c3 := h.c3
 have c7 := h.c7
 have c8 := h.c8
 by_cases h0 : 0 ≤ x
 ·have d0 : decide (0 ≤ x) = true := by simpa using h0
  by_cases h1 : x < (ne : Int)
  ·have d1 : decide (x < (ne : Int)) = true := by simpa using h1
   obtain ⟨t, rfl⟩ := Int.eq_ofNat_of_zero_le h0
   have htn : t < ne := by omega
   have hnd : isNd ne (t : Int) = true := isNd_iff.2 ⟨h0, h1⟩
   obtain ⟨m0, m1⟩ := h.at_ htn
   have hrm := hroom t htn
   cases hmk : s.1.getD t false
   ·rw [hmk] at m0
    have HX := dh (vis_new (s := s) hnd hmk (by omega))
    have hsz := hrm hmk
    obtain ⟨k1, k2⟩ := FRel.mark (t := t) hN h
    have HQ := dh (k1.q)
    have hz : (w.setCell ⟨qm, t, none⟩ (.bool true)).1.size = w.1.size := by simp [World.setCell]
    have hp := qput_any Q B ne s.2 (t : Int) (w.setCell ⟨qm, t, none⟩ (.bool true)) HQ.out hsz hne (by omega)
    have c7' := k1.c7
    have c8' := k1.c8
    have HP := dh hp
    have HK1 := dh k1
    have HK2 := dh k2
    clear hmk hnd hrm hroom k1 k2 hp hz d0 d1
    go_enter Tryz.func66, Tryz.ntmps66
    go_wp2_with fail
    refine Calls.mono HP.out ?_
    rintro e w2 ⟨rfl, hq, ht⟩
    go_wp2
    go_end0
    refine ⟨rfl, ?_, ?_⟩
    ·rw [HX.out]; exact FRel.put hN HK1.out hq ht
    ·exact Tch.trans HK2.out ht (fun i _ hi => by rcases hi with hi | hi; exact .inl hi; exact .inr (.inr hi))
   ·rw [hmk] at m0
    have HX := dh (vis_old (n := ne) (s := s) hmk (by omega))
    have HH := dh h
    clear hmk hnd hrm hroom d0 d1 h
    go_enter Tryz.func66, Tryz.ntmps66
    go_wp2
    go_end0
    exact ⟨rfl, by rw [HX.out]; exact HH.out, Tch.refl _ _⟩
  ·have d1 : decide (x < (ne : Int)) = false := by simpa using h1
   have HX := dh (vis_out (s := s) (show isNd ne x = false by simp [isNd, h1]))
   have HH := dh h
   clear h hroom
   go_enter Tryz.func66, Tryz.ntmps66
   go_wp2
   go_end0
   exact ⟨rfl, by rw [HX.out]; exact HH.out, Tch.refl _ _⟩
 ·have d0 : decide (0 ≤ x) = false := by simpa using h0
  have HX := dh (vis_out (s := s) (show isNd ne x = false by simp [isNd, h0]))
  have HH := dh h
  clear h hroom
  go_enter Tryz.func66, Tryz.ntmps66
  go_wp2
  go_end0
  exact ⟨rfl, by rw [HX.out]; exact HH.out, Tch.refl _ _⟩
end Go.Proofs.YtiebpncpdbnelaaGreatDoor
namespace Go.Proofs.YtiebpncpdbnelaaGreatDoor
open Go.RowKit
theorem fs_below {Q qm B Bg : Nat} {w w' : World} (ht : Tch (FS Q qm B) w w') (h1 : Bg ≤ Q) (h2 : Bg ≤ qm) (h3 : Bg ≤ B) (hB : Bg ≤ w.1.size) : Below Bg w w' :=
 ht.below hB (fun k hk hS => by rcases hS with e | e | e <;> omega)
section
variable (ai ae al : Option Addr) (ni ci ne ce nl cl : Nat)
theorem reach1_any (G : Gph) (a bg Bg b3 b7 b8 Q qm B : Nat) (s : List Bool × List Int) (T : List Int) (w : World) (h : GrRd w Bg ai ni ci ae ne ce al nl cl G) (hg : w.cell? ⟨bg, 1, none⟩ = some (.slice ae ne ce)) (_hbg : bg < Bg) (ha : a < ne)
  (hN : FNum Bg b3 b7 b8 Q qm B) (hF : FRel b3 b7 b8 Q qm B ne s w) (hok : VOk ne (s.1, T ++ s.2)) (hne : ne ≤ 1000000000) (hr : ∀ l ∈ G.edges, l.length ≤ 1000000000) (hB : B ≤ w.1.size) (hBg : Bg ≤ w.1.size) :
  Calls Tryz.prog 52 #[.int .i64 (a : Int), .func (.func 66) #[] #[.pointer (some ⟨b3, 0, none⟩), .pointer (some ⟨b7, 0, none⟩), .pointer (some ⟨b8, 0, none⟩)], .pointer (some ⟨bg, 0, none⟩)] w
   (FPost b3 b7 b8 Q qm B ne ((tgts (G.edges.getD a [])).foldl (vis ne) s) w) := by
 obtain ⟨L1, L2, L3⟩ := h.lens
 have hal : a < G.edges.length := by omega
 obtain ⟨b, o, A', n', c', rfl, hbb, hc0, hrow⟩ := h.he.at_ (ed_take hal)
 have hlen := hr G.edges[a] (mM hal)
 have hnx : n' = G.edges[a].length := by have := hrow.len; rw [ncells_len] at this; omega
 have hxr : G.edges.getD a [] = G.edges[a] := by simp [List.getD, hal]
 rw [hxr]
 clear hxr
 generalize G.edges[a] = x at *
 subst hnx
 have hN' := hN
 obtain ⟨⟨g1, g2, g3⟩, n3, n7, n8, n1, n2, n4⟩ := hN'
 have i0 : (0 : Int) ≤ (a : Int) := by omega
 have i1 : (a : Int) < (ne : Int) := by omega
 have HF := dh hF
 clear hF L1 L2 L3
 go_enter Tryz.func52, Tryz.ntmps52
 go_wp2
 go_loopw [13] (fun i wr => ∃ m : Nat, m ≤ x.length ∧ i = .int .i64 m ∧ FRel b3 b7 b8 Q qm B ne (((tgts x).take m).foldl (vis ne) s) wr ∧ Tch (FS Q qm B) w wr) (fun i _ => x.length - (intOf i).toNat)
 case atStart => exact ⟨0, by omega, rfl, HF.out, Tch.refl _ _⟩
 case round =>
  obtain ⟨m, hm, rfl, hV, ht⟩ := hrel
  have hz := ht.size
  have hbr := fs_below ht g2 g1 g3 hBg
  have HT := dh ht
  have HV := dh hV
  clear ht hV
  by_cases hlt : m < x.length
  ·obtain ⟨bb, oo, rfl, hbbb, hd0, hd1⟩ := rd_nd (hrow.rd.below hbr lR) hlt
   have hsn := tF_snoc (n := ne) hlt s
   have hokm : VOk ne ((((tgts x).take m).foldl (vis ne) s).1, T ++ (((tgts x).take m).foldl (vis ne) s).2) := by
    have := fold_ok ((tgts x).take m) hok
    rw [visF_app] at this; exact this
   generalize ((tgts x).take m).foldl (vis ne) s = s' at *
   generalize x[m] = e at *
   obtain ⟨op, act⟩ := e
   dsimp only at *
   have HS := dh hsn
   have hFa := HV.out.below ((Below.refl wr.1.size wr).alloc lR (.cells #[.int .i64 op, .int .i64 act] 83))
   have hvis := visit_any Bg b3 b7 b8 Q qm B ne s' op (wr.alloc (.cells #[.int .i64 op, .int .i64 act] 83)) hN hFa hne (by simp; omega)
    (fun t ht hf => by have := hokm.lt ht (by simp only [List.getD, gE (show t < s'.1.length by rw [hokm.len]; exact ht), Option.getD_some] at hf ⊢; exact hf); simp only [lA] at this; omega) hokm.len
   have HVI := dh hvis
   have HO := dh hokm
   clear hsn hFa hvis hokm
   go_wp2_with fail
   refine Calls.mono HVI.out ?_
   rintro e w2 ⟨rfl, hF2, ht2⟩
   have HF2 := dh hF2
   have ht3 : Tch (FS Q qm B) w w2 := Tch.trans HT.out (Tch.trans ((Tch.refl (FS Q qm B) wr).alloc _) ht2 (fun _ _ h => h)) (fun _ _ h => h)
   clear hF2 ht2
   go_wp2
   go_roundw
   case rel => exact ⟨m + 1, by omega, by go_num, by rw [HS.out]; exact HF2.out, ht3⟩
   case measure => simp [intOf]; omega
  ·have hml : m = x.length := by omega
   have hV := HV.out
   rw [tL (by rw [tgts, List.length_map]; omega)] at hV
   have HV1 := dh hV
   clear hV HV hml
   go_wp2
   go_end0
   exact ⟨rfl, HV1.out, HT.out⟩
theorem qnew_any (w : World) (hne : ne ≤ 65536) : Calls Tryz.prog 65 #[.int .i64 (ne : Int)] w fun e w' => e = .returned (.pointer (some ⟨w.1.size, 0, none⟩)) ∧ w' = w.alloc (.cells #[.bool true, .int .i64 (ne : Int), .slice none 0 0] 117) := by
 have h1 : (if (ne : Int) ≤ 65536 then (ne : Int) else 65536) = ne := by rw [if_pos (by omega)]
 have h2 : min (ne : Int) 65536 = (ne : Int) := by omega
 go_enter Tryz.func65, Tryz.ntmps65
 go_wp2
 go_ret
 exact ⟨rfl, rfl⟩
theorem five_new (w : World) (o0 o1 o2 o3 o4 : Obj) : ∃ W, W = ((((w.alloc o0).alloc o1).alloc o2).alloc o3).alloc o4 ∧ W.1[w.1.size]? = some o0 ∧ W.1[w.1.size + 1]? = some o1 ∧ W.1[w.1.size + 2]? = some o2 ∧ W.1[w.1.size + 3]? = some o3 ∧ W.1[w.1.size + 4]? = some o4 ∧ W.1.size = w.1.size + 5 ∧ Below w.1.size w W := by
 refine ⟨_, rfl, ?_, ?_, ?_, ?_, ?_, by simp, ?_⟩
 ·exact heap_old (by simp; omega) (heap_old (by simp; omega) (heap_old (by simp; omega) (heap_old (by simp) (heap_alloc_new w o0))))
 ·exact heap_old (by simp) (heap_old (by simp) (heap_old (by simp) (heap_new (by simp))))
 ·exact heap_old (by simp) (heap_old (by simp) (heap_new (by simp)))
 ·exact heap_old (by simp) (heap_new (by simp))
 ·exact heap_new (by simp)
 ·exact ((((bR.alloc lR _).alloc (by simp) _).alloc (by simp; omega) _).alloc (by simp; omega) _).alloc (by simp; omega) _
theorem frel_start (w : World) (hne : ne ≤ 1000000000) : ∃ W, W = ((((w.alloc (.cells #[.int .i64 (ne : Int)] 3)).alloc (.cells (madeCells #[.bool false] ne) 4)).alloc (.cells #[.slice (some ⟨w.1.size + 1, 0, none⟩) ne ne] 48)).alloc (.cells #[.bool true, .int .i64 (ne : Int), .slice none 0 0] 117)).alloc (.cells #[.pointer (some ⟨w.1.size + 3, 0, none⟩)] 101) ∧
  FRel w.1.size (w.1.size + 2) (w.1.size + 4) (w.1.size + 3) (w.1.size + 1) (w.1.size + 5) ne (List.replicate ne false, []) W ∧ W.1.size = w.1.size + 5 ∧ Below w.1.size w W := by
 obtain ⟨W, hW, h0, h1, h2, h3, h4, h5, h6⟩ := five_new w (.cells #[.int .i64 (ne : Int)] 3) (.cells (madeCells #[.bool false] ne) 4) (.cells #[.slice (some ⟨w.1.size + 1, 0, none⟩) ne ne] 48) (.cells #[.bool true, .int .i64 (ne : Int), .slice none 0 0] 117) (.cells #[.pointer (some ⟨w.1.size + 3, 0, none⟩)] 101)
 refine ⟨W, hW, ⟨by rw [cell_of_row W _ 0 _ _ _ h0]; rfl, by rw [cell_of_row W _ 0 _ _ _ h2]; rfl, by rw [cell_of_row W _ 0 _ _ _ h4]; rfl, ⟨.slice none 0 0, h3, World.ownsRow_nil _ _ _ _, by omega⟩, ?_⟩, h5, h6⟩
 have hm : (madeCells #[Value.bool false] ne).toList = List.replicate ne (.bool false) := toList_madeCells_one _ _
 have hs : (madeCells #[Value.bool false] ne).size = ne := by have := congrArg List.length hm; simpa using this
 refine ⟨by simp, .inr ⟨w.1.size + 1, ne, _, rfl, Nat.zero_le _, h1, lR, by unfold maxLen; omega, by rw [hs, Nat.mul_one], ?_⟩⟩
 rw [tL (by rw [Array.length_toList, hs]; omega), List.map_replicate]
 exact hm
theorem flood_any (G : Gph) (from_ : List Int) (A : Option Addr) (n c bg Bg : Nat) (w : World) (h : GrRd w Bg ai ni ci ae ne ce al nl cl G) (hg : w.cell? ⟨bg, 1, none⟩ = some (.slice ae ne ce)) (hbg : bg < Bg) (hf : Sl w Bg 1 A n c (icells from_)) (hn : n = from_.length) (hBg : Bg ≤ w.1.size)
  (hne : ne ≤ 65536) (hl : n ≤ 1000000000) (hr : ∀ l ∈ G.edges, l.length ≤ 1000000000) :
  Calls Tryz.prog 51 #[.int .i64 (ne : Int), .slice A n c, .func (.func 52) #[] #[.pointer (some ⟨bg, 0, none⟩)]] w (NewRow w 4 1 ne ((reachG ne G.edges from_).map .bool) False) := by
 subst hn
 obtain ⟨W, hW, hF0, hzW, hbW⟩ := frel_start (ne := ne) w (by omega)
 have hmk := run_make_row' (P := Tryz.prog) 48 4 (.bool false) 1 Tryz.underlying48 infoBool rfl .i64 .i64 ne (by omega) (by omega)
 have HQN := dh (fun w => qnew_any ne w hne)
 have HW := dh hW
 have HF0 := dh hF0
 have hg' := (hbW.cell (show bg < w.1.size by omega)).trans hg
 have HZ := dh hzW
 clear hW hF0 hg hzW
 go_enter Tryz.func51, Tryz.ntmps51
 go_wp2_with fail
 refine Calls.mono (HQN.out _) ?_
 rintro e w1 ⟨rfl, rfl⟩
 go_wp2
 simp only [Nat.add_assoc, Nat.reduceAdd]
 rw [← HW.out]
 have hN : FNum w.1.size w.1.size (w.1.size + 2) (w.1.size + 4) (w.1.size + 3) (w.1.size + 1) (w.1.size + 5) := by unfold FNum; omega
 have h' := (h.up hBg).below hbW lR
 have hf' := (hf.up hBg).below hbW lR
 have hzW : w.1.size + 5 ≤ W.1.size := Nat.le_of_eq HZ.out.symm
 clear HW HQN hmk h hf HZ
 generalize w.1.size + 1 = qm at *
 generalize w.1.size + 2 = b7 at *
 generalize w.1.size + 3 = Q at *
 generalize w.1.size + 4 = b8 at *
 generalize w.1.size + 5 = B at *
 have hN2 := hN
 obtain ⟨⟨n1, n2, n3⟩, n4, n5, n6, n7, n8, n9⟩ := hN2
 have hF00 : FRel w.1.size b7 b8 Q qm B ne ((from_.take 0).foldl (vis ne) (List.replicate ne false, [])) W := HF0.out
 clear HF0
 go_loopw [21] (fun i wr => ∃ k : Nat, k ≤ from_.length ∧ i = .int .i64 k ∧ FRel w.1.size b7 b8 Q qm B ne ((from_.take k).foldl (vis ne) (List.replicate ne false, [])) wr ∧ Tch (FS Q qm B) W wr) (fun i _ => from_.length - (intOf i).toNat)
 case atStart => exact ⟨0, by omega, rfl, hF00, Tch.refl _ _⟩
 case round =>
  obtain ⟨k, hk, rfl, hF, ht⟩ := hrel
  clear hF00
  have hz := ht.size
  have hbr := fs_below ht n2 n1 n3 (show w.1.size ≤ W.1.size by omega)
  have HT := dh ht
  have HF := dh hF
  clear ht hF
  have hok : VOk ne ((from_.take k).foldl (vis ne) (List.replicate ne false, [])) := fold_ok _ (st0_ok ne)
  by_cases hlt : k < from_.length
  ·obtain ⟨b, o, rfl, hbb, hc0⟩ := rd_int (hf'.rd.below hbr lR) hlt
   have hsn := vF_snoc (n := ne) hlt (List.replicate ne false, [])
   generalize (from_.take k).foldl (vis ne) (List.replicate ne false, []) = s at *
   generalize from_[k] = x at *
   have hvis := visit_any w.1.size w.1.size b7 b8 Q qm B ne s x wr hN HF.out (by omega) (by omega)
    (fun t ht hf => hok.lt ht (by simp only [List.getD, gE (show t < s.1.length by rw [hok.len]; exact ht), Option.getD_some] at hf ⊢; exact hf)) hok.len
   have HVI := dh hvis
   have HS := dh hsn
   have HO := dh hok
   clear hvis hsn hok
   go_wp2_with fail
   refine Calls.mono HVI.out ?_
   rintro e w2 ⟨rfl, hF2, ht2⟩
   have HF2 := dh hF2
   have ht3 : Tch (FS Q qm B) W w2 := Tch.trans HT.out ht2 (fun _ _ h => h)
   clear hF2 ht2
   go_wp2
   go_roundw
   case rel => exact ⟨k + 1, by omega, by go_num, by rw [HS.out]; exact HF2.out, ht3⟩
   case measure => simp [intOf]; omega
  ·have hkl : k = from_.length := by omega
   have hF := HF.out
   rw [tL (by omega)] at hF
   have hF1 : FRel w.1.size b7 b8 Q qm B ne ((stN ne G.edges from_ 0).1, (stN ne G.edges from_ 0).2.drop 0) wr := hF
   have HF1 := dh hF1
   clear hF hF1 HF hkl hok
   go_wp2
   go_loopg [12] (ne + 1) (fun gk _ wr => ∃ k : Nat, k + gk = ne + 1 ∧ k ≤ (stN ne G.edges from_ k).2.length ∧ FRel w.1.size b7 b8 Q qm B ne ((stN ne G.edges from_ k).1, (stN ne G.edges from_ k).2.drop k) wr ∧ Tch (FS Q qm B) W wr)
   case atStart => exact ⟨0, by omega, by omega, HF1.out, HT.out⟩
   case round =>
    clear HF1 HT hbr hz
    obtain ⟨k, hkg, hk, hF, ht⟩ := hrel
    have hz := ht.size
    have hbr := fs_below ht n2 n1 n3 (show w.1.size ≤ W.1.size by omega)
    have HT := dh ht
    have hok := stN_ok ne G.edges from_ k
    have hle := hok.le
    by_cases hlt : k < (stN ne G.edges from_ k).2.length
    ·have hnd := hok.rng _ (mM hlt)
     have hnx := stN_next (n := ne) (E := G.edges) (from_ := from_) (k := k) (gE hlt)
     have hdr := List.drop_eq_getElem_cons hlt
     rw [hdr] at hF
     have hsp : stN ne G.edges from_ k = ((stN ne G.edges from_ k).1, (stN ne G.edges from_ k).2.take (k + 1) ++ (stN ne G.edges from_ k).2.drop (k + 1)) := by rw [List.take_append_drop]
     have htl : ((stN ne G.edges from_ k).2.take (k + 1)).length = k + 1 := by rw [List.length_take]; omega
     generalize (stN ne G.edges from_ k).2[k] = x at *
     obtain ⟨a, rfl, han⟩ := isNd_nat hnd
     generalize (stN ne G.edges from_ k).2.take (k + 1) = T at *
     generalize (stN ne G.edges from_ k).2.drop (k + 1) = L at *
     rw [hsp] at hok
     rw [hsp, tN] at hnx
     generalize (stN ne G.edges from_ k).1 = mk at *
     rw [visF_app] at hnx
     have HX := dh hnx
     have HTL := dh htl
     have HO := dh hok
     have HTK := dh (qtake_any Q B ne (a : Int) L wr hF.q)
     have c8 := hF.c8
     have HF := dh hF
     have HN := dh hN
     clear hnx htl hok hsp hdr hF ht hnd
     go_wp2_with fail
     refine Calls.mono HTK.out ?_
     rintro e w2 ⟨rfl, hq, ht2⟩
     have hF2 := FRel.put hN HF.out hq ht2
     have ht3 : Tch (FS Q qm B) W w2 := Tch.trans HT.out ht2 (fun i _ hi => by rcases hi with hi | hi; exact .inl hi; exact .inr (.inr hi))
     have hb2 := fs_below ht3 n2 n1 n3 (show w.1.size ≤ W.1.size by omega)
     have hz2 := ht3.size
     have hg2 := (hb2.cell (show bg < w.1.size by omega)).trans hg'
     have hre := reach1_any ai ae al ni ci ne ce nl cl G a bg w.1.size w.1.size b7 b8 Q qm B (mk, L) T w2 (h'.below hb2 lR) hg2 (by omega) han hN hF2 HO.out (by omega) hr (by omega) (by omega)
     have HR := dh hre
     clear hre hF2 hq ht2 hg2
     go_wp2_with fail
     refine Calls.mono HR.out ?_
     rintro e w3 ⟨rfl, hF3, ht4⟩
     have HF3 := dh hF3
     have ht5 : Tch (FS Q qm B) W w3 := Tch.trans ht3 ht4 (fun _ _ h => h)
     clear hF3 ht4
     go_wp2
     go_roundg (gk - 1)
     case rel =>
      refine ⟨k + 1, by omega, ?_, ?_, ht5⟩
      ·rw [HX.out, lA, HTL.out]; omega
      ·rw [HX.out]
       simp only
       rw [List.drop_left' HTL.out]
       exact HF3.out
     case measure => omega
    ·have hend := reachG_end (n := ne) (E := G.edges) (from_ := from_) (k := k) hk (by omega)
     have hnil : (stN ne G.edges from_ k).2.drop k = [] := List.drop_eq_nil_of_le (by omega)
     rw [hnil] at hF
     generalize (stN ne G.edges from_ k).1 = mk at *
     have HE := dh hend
     have HTK := dh (qtake0_any Q B ne wr hF.q)
     have c8 := hF.c8
     have HF := dh hF
     clear hend hnil hF ht hok
     go_wp2_with fail
     refine Calls.mono HTK.out ?_
     rintro e w2 ⟨rfl, hq, ht2⟩
     have hF2 := FRel.put hN HF.out hq ht2
     have ht3 : Tch (FS Q qm B) W w2 := Tch.trans HT.out ht2 (fun i _ hi => by rcases hi with hi | hi; exact .inl hi; exact .inr (.inr hi))
     have c7 := hF2.c7
     have HF2 := dh hF2
     clear hF2 hq ht2
     go_wp2
     go_ret
     exact ⟨_, rfl, by rw [HE.out]; exact own_at HF2.out.m n1, (hbW.trans ((fs_below ht3 n2 n1 n3 (show w.1.size ≤ W.1.size by omega)))), by simp⟩
theorem large_any (w : World) (hne : ne ≤ 65536) : Calls Tryz.prog 49 #[.agg #[.slice ai ni ci, .slice ae ne ce, .slice al nl cl]] w (Tru w false) := by
 have d1 : decide ((65536 : Int) < (ne : Int)) = false := by simp; omega
 go_enter Tryz.func49, Tryz.ntmps49
 go_wp2
 go_ret
 exact ⟨rfl, bR.alloc lR _⟩
theorem reachP_any (G : Gph) (from_ : List Int) (A : Option Addr) (n c : Nat) (w : World) (B : Nat) (h : GrRd w B ai ni ci ae ne ce al nl cl G) (hf : Sl w B 1 A n c (icells from_)) (hn : n = from_.length) (hB : B ≤ w.1.size) (he : ne ≤ 65536) (hl : n ≤ 1000000000) (hr : ∀ l ∈ G.edges, l.length ≤ 1000000000) :
  Calls Tryz.prog 28 #[.agg #[.slice ai ni ci, .slice ae ne ce, .slice al nl cl], .slice A n c] w (NewRow w 4 1 ne ((reachG ne G.edges from_).map .bool) False) := by
 subst hn
 obtain ⟨w0, hw0, hb0, hz0, hx0, hx1, hx2⟩ := boxed3 w (.slice ai ni ci) (.slice ae ne ce) (.slice al nl cl) 55
 have HW0 := dh hw0
 have h' := (h.below hb0 hB).up (show B ≤ w.1.size by omega)
 have hf' := (hf.below hb0 hB).up (show B ≤ w.1.size by omega)
 have hzw : w.1.size + 1 ≤ w0.1.size := by omega
 clear hw0 hz0
 go_enter Tryz.func28, Tryz.ntmps28
 go_wp2_with fail
 rw [← HW0.out]
 refine (large_any ai ae al ni ci ne ce nl cl w0 he).mono ?_
 rintro e w1 ⟨rfl, hb1⟩
 have hz1 := hb1.size
 have g1 := bC hb1 (by omega) hx1
 have hfl := flood_any ai ae al ni ci ne ce nl cl G from_ A _ c w.1.size (w.1.size + 1) w1 ((h'.below hb1 (by omega)).up (by omega)) g1 (by omega) ((hf'.below hb1 (by omega)).up (by omega)) rfl (by omega) he hl hr
 have HFL := dh hfl
 clear hfl HW0 h h' hf hf'
 go_wp2_with fail
 refine Calls.mono HFL.out ?_
 rintro e w2 ⟨v, rfl, hown, hb2, hnil⟩
 have HNI := dh hnil
 clear hnil
 go_wp2
 go_ret
 exact ⟨v, rfl, own_base hown (by omega), (hb0.trans (hb1.mono (by omega))).trans (hb2.mono (by omega)), HNI.out⟩
end
end Go.Proofs.YtiebpncpdbnelaaGreatDoor
