/- The walks of layer 28's reference: ahead, Same. -/
import Derived.Test.YtedohmcnjlhdnaaCr1
import Derived.Test.YtedohmcnjlhdnaaEqI28
namespace Go.Proofs.Ytedohmcnjlhdnaa
open Go.RowKit

set_option maxHeartbeats 4000000 in
set_option maxRecDepth 100000 in
theorem ahead1_any (A : Option Addr) (m c : Nat) (l : List Nat) (a : Nat) (w : World) (B : Nat) (hm : m = l.length) (hs : Sl w B 1 A m c (icells (natI l))) (hB : B ≤ w.heap.size) (hl : m ≤ 1000000) :
    Calls Try.prog 67 #[.slice A m c, .int .i64 (a : Int), .int .i64 (-1)] w (OwnI w (a :: l)) := by
  subst hm
  have d1 : decide ((0 : Int) ≤ (a : Int)) = true := by simp
  have h0 := World.ownsRow_nil w w.heap.size 3 1
  go_enter Try.func67, Try.ntmps67
  go_wp2_with (at_builtin; first
    | (refine wpList_push rfl (.tmp 10) (.tmp 12) 28 rfl w.heap.size 3 1 8 sliceInt _ _ _ (h0.alloc _) rfl w.heap.size #[.int .i64 a] rfl (heap_alloc_new w _) rfl (by simp [Value.oneCell']) (by omega) (by omega) (by simp) ?_
       intro v3 w3 hown3 ht3 hat3 hne3
       have hz3 := ht3.size
       simp only [World.size_alloc] at hz3
       have hb3 : Below w.heap.size w w3 := ((Below.refl w.heap.size w).alloc (Nat.le_refl _) _).trans (ht3.below (by simp) (fun g hg h => by simp [Value.ownBlock] at h))
       clear ht3 hat3 hne3)
    | (refine wpList_extend rfl (.tmp 20) (.tmp 21) 28 rfl w.heap.size 3 1 8 sliceInt _ _ _ hown3 rfl B A l.length c (icells (natI l)) rfl (hs.below hb3 hB) (icells_one' _) (by omega) (by omega) (by omega) ?_
       intro v4 w4 hown4 ht4 hat4 hne4))
  go_ret
  refine ⟨_, rfl, ?_, hb3.trans (ht4.below (by omega) (fun g hg h => by have := (hown3.lt g h).1; omega))⟩
  rw [show icells (natI (a :: l)) = [] ++ [.int .i64 (a : Int)] ++ icells (natI l) by simp [icells, natI], show (a :: l).length = 0 + 1 + l.length by simp; omega]; exact hown4
set_option maxHeartbeats 4000000 in
set_option maxRecDepth 100000 in
theorem ahead2_any (A : Option Addr) (m c : Nat) (l : List Nat) (a b : Nat) (w : World) (B : Nat) (hm : m = l.length) (hs : Sl w B 1 A m c (icells (natI l))) (hB : B ≤ w.heap.size) (hl : m ≤ 1000000) :
    Calls Try.prog 67 #[.slice A m c, .int .i64 (a : Int), .int .i64 (b : Int)] w (OwnI w (a :: b :: l)) := by
  subst hm
  have d1 : decide ((0 : Int) ≤ (a : Int)) = true := by simp
  have d2 : decide ((0 : Int) ≤ (b : Int)) = true := by simp
  have h0 := World.ownsRow_nil w w.heap.size 3 1
  go_enter Try.func67, Try.ntmps67
  go_wp2_with (at_builtin; first
    | (refine wpList_push rfl (.tmp 10) (.tmp 12) 28 rfl w.heap.size 3 1 8 sliceInt _ _ _ (h0.alloc _) rfl w.heap.size #[.int .i64 a] rfl (heap_alloc_new w _) rfl (by simp [Value.oneCell']) (by omega) (by omega) (by simp) ?_
       intro v3 w3 hown3 ht3 hat3 hne3
       have hz3 := ht3.size
       simp only [World.size_alloc] at hz3
       have hb3 : Below w.heap.size w w3 := ((Below.refl w.heap.size w).alloc (Nat.le_refl _) _).trans (ht3.below (by simp) (fun g hg h => by simp [Value.ownBlock] at h))
       clear ht3 hat3 hne3)
    | (refine wpList_push rfl (.tmp 16) (.tmp 18) 28 rfl w.heap.size 3 1 8 sliceInt _ _ _ (hown3.alloc _) rfl w3.heap.size #[.int .i64 b] rfl (heap_alloc_new w3 _) rfl (by simp [Value.oneCell']) (by omega) (by omega) (by simp; omega) ?_
       intro v5 w5 hown5 ht5 hat5 hne5
       have hz5 := ht5.size
       simp only [World.size_alloc] at hz5
       have hb5 : Below w.heap.size w w5 := (hb3.alloc (by omega) _).trans (ht5.below (by simp; omega) (fun g hg h => by have := (hown3.lt g h).1; omega))
       clear ht5 hat5 hne5)
    | (refine wpList_extend rfl (.tmp 20) (.tmp 21) 28 rfl w.heap.size 3 1 8 sliceInt _ _ _ hown5 rfl B A l.length c (icells (natI l)) rfl (hs.below hb5 hB) (icells_one' _) (by omega) (by omega) (by omega) ?_
       intro v4 w4 hown4 ht4 hat4 hne4))
  go_ret
  refine ⟨_, rfl, ?_, hb5.trans (ht4.below (by omega) (fun g hg h => by have := (hown5.lt g h).1; omega))⟩
  rw [show icells (natI (a :: b :: l)) = [] ++ [.int .i64 (a : Int)] ++ [.int .i64 (b : Int)] ++ icells (natI l) by simp [icells, natI], show (a :: b :: l).length = 0 + 1 + 1 + l.length by simp; omega]; exact hown4
theorem below_drewN (w : World) (n : Nat) : Below w.heap.size w (w.drewN n) := have h := Below.refl w.heap.size w; ⟨h.os, h.tape, h.output, h.size, h.block⟩
theorem tru_of_said {w : World} {b : Bool} {en : Ending} {w' : World} (h : Said w b en w') : Tru w b en w' := by
  obtain ⟨e, n, rfl⟩ := h
  exact ⟨e, below_drewN w n⟩
set_option maxHeartbeats 4000000 in
set_option maxRecDepth 100000 in
theorem sameR_any (a b a' b' : Int) (A1 A2 D1 D2 : Option Addr) (n1 n2 m1 m2 c1 c2 d1 d2 : Nat) (k1 k2 l1 l2 : List Int) (w : World) (B : Nat) (h1 : Sl w B 1 A1 n1 c1 (icells k1)) (h2 : Sl w B 1 A2 n2 c2 (icells k2)) (h3 : Sl w B 1 D1 m1 d1 (icells l1)) (h4 : Sl w B 1 D2 m2 d2 (icells l2))
    (hB : B ≤ w.heap.size) (e1 : n1 = k1.length) (e2 : n2 = k2.length) (e3 : m1 = l1.length) (e4 : m2 = l2.length) (hl1 : n1 ≤ 1000000) (hl2 : n2 ≤ 1000000) :
    Calls Try.prog 30 #[.agg #[.int .u64 a, .int .u64 b, .slice A1 n1 c1, .slice A2 n2 c2], .agg #[.int .u64 a', .int .u64 b', .slice D1 m1 d1, .slice D2 m2 d2]] w (Tru w (decide (a = a' ∧ b = b' ∧ k1 = l1 ∧ k2 = l2))) := by
  obtain ⟨hb0, p0, q0, z0⟩ : Below w.heap.size w ((w.alloc (.cells #[.int .u64 a, .int .u64 b, .slice A1 n1 c1, .slice A2 n2 c2] 47)).alloc (.cells #[.int .u64 a', .int .u64 b', .slice D1 m1 d1, .slice D2 m2 d2] 47)) ∧ _ := box5 w (.cells #[.int .u64 a, .int .u64 b, .slice A1 n1 c1, .slice A2 n2 c2] 47) (.cells #[.int .u64 a', .int .u64 b', .slice D1 m1 d1, .slice D2 m2 d2] 47)
  have HE1 := Lib.hid (fun (w' : World) (hb : Below w.heap.size w w') => eqI28_any A1 D1 n1 c1 m1 d1 k1 l1 w' B B (h1.below hb hB) (h3.below hb hB) e1 e3 (by omega) |>.mono (fun _ _ h => tru_of_said h))
  have HE2 := Lib.hid (fun (w' : World) (hb : Below w.heap.size w w') => eqI28_any A2 D2 n2 c2 m2 d2 k2 l2 w' B B (h2.below hb hB) (h4.below hb hB) e2 e4 (by omega) |>.mono (fun _ _ h => tru_of_said h))
  obtain ⟨W0, hW0⟩ : ∃ W0, (w.alloc (.cells #[.int .u64 a, .int .u64 b, .slice A1 n1 c1, .slice A2 n2 c2] 47)).alloc (.cells #[.int .u64 a', .int .u64 b', .slice D1 m1 d1, .slice D2 m2 d2] 47) = W0 := ⟨_, rfl⟩
  rw [hW0] at hb0 p0 q0 z0
  have HW0 := Lib.hid hW0
  clear hW0 h1 h2 h3 h4 e1 e2 e3 e4
  generalize hq : decide (a = a' ∧ b = b' ∧ k1 = l1 ∧ k2 = l2) = q
  by_cases ea : a = a'
  · subst ea
    by_cases eb : b = b'
    · subst eb
      have hgo : Hid (q = (decide (k1 = l1) && decide (k2 = l2))) := Lib.hid (by rw [← hq]; rw [Bool.eq_iff_iff]; simp)
      have HA := Lib.hid (HE1.out W0 hb0)
      clear hq
      generalize decide (k1 = l1) = b1 at *
      go_enter Try.func30, Try.ntmps30
      go_wp2_with fail
      rw [HW0.out]
      refine Calls.mono HA.out ?_
      rintro e w1 ⟨rfl, hb1⟩
      have hb01 := hb0.trans (hb1.mono (by omega))
      cases b1
      · go_wp2_with fail
        go_ret
        exact ⟨by rw [hgo.out]; rfl, hb01⟩
      · have p1 := (hb1.block w.heap.size (by omega)).trans p0
        have q1 := (hb1.block (w.heap.size + 1) (by omega)).trans q0
        have f1 : w1.cell? ⟨w.heap.size, 3, none⟩ = some (.slice A2 n2 c2) := by rw [cell_of_row _ _ 3 _ _ (0, 0) p1]; rfl
        have f2 : w1.cell? ⟨w.heap.size + 1, 3, none⟩ = some (.slice D2 m2 d2) := by rw [cell_of_row _ _ 3 _ _ (0, 0) q1]; rfl
        have HB := Lib.hid (HE2.out w1 hb01)
        clear p1 q1 p0 q0 HE1 HE2
        generalize decide (k2 = l2) = b2 at *
        go_wp2_with fail
        refine Calls.mono HB.out ?_
        rintro e w2 ⟨rfl, hb2⟩
        go_wp2_with fail
        go_ret
        exact ⟨by rw [hgo.out]; rfl, hb01.trans (hb2.mono hb01.size)⟩
    · have hgo : Hid (q = false) := Lib.hid (by rw [← hq]; simp [eb])
      have hE : (b == b') = false := by simpa using eb
      clear eb hq
      go_enter Try.func30, Try.ntmps30
      go_wp2_with fail
      go_ret
      exact ⟨by rw [hgo.out]; rfl, by rw [HW0.out]; exact hb0⟩
  · have hgo : Hid (q = false) := Lib.hid (by rw [← hq]; simp [ea])
    have hE : (a == a') = false := by simpa using ea
    clear ea hq
    go_enter Try.func30, Try.ntmps30
    go_wp2_with fail
    go_ret
    exact ⟨by rw [hgo.out]; rfl, by rw [HW0.out]; exact hb0⟩
end Go.Proofs.Ytedohmcnjlhdnaa
