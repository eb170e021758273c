/- Law BitsNobody: what sets are that are not there, and that no call made. -/
import Derived.Test.YtikhlcdgibnolaaDoorTz4
import Derived.Test.YtikhlcdgibnolaaDoorTn2
import Derived.Test.YtikhlcdgibnolaaDoorBw5
namespace Go.Proofs.YtikhlcdgibnolaaDoor
open Go.RowKit Go.Shelf

attribute [local go_sem] Oper.semAt_some

set_option maxRecDepth 100000 in
set_option maxHeartbeats 1000000 in
theorem nobodyBig (m : Nat) (hm : 6 ≤ m) (i : Int) (A : Option Addr) (k c : Nat) (w : World) (h : 100 < k) :
    CallsIn Fence.wide m Tryd.prog 7 #[.int .i64 i, .slice A k c] w (Tru w true) := by
  have h1m : 1 ≤ m := by omega
  have d1 : (100 : Int) < (k : Int) := by omega
  refine callsIn_of_wp_marks Tryd.func7 rfl trivial ?_ rfl
  simp only [Tryd.ntmps7, List.size_toArray, List.length_cons, List.length_nil, Nat.reduceAdd, Nat.reduceSub, Array.replicate_succ, Array.replicate_zero, List.push_toArray, List.append_toArray, List.nil_append, List.cons_append]
  gi_wp2_with fail
  refine ⟨trivial, (callsIn_wide.2 (bawake_any _)).mono ?_⟩
  rintro e wz ⟨rfl, hbz⟩
  have bR := Boxed.new w 4 (.bool false)
  have bR2 : Boxed wz w.heap.size 4 (.bool false) := (hbz.block _ (by simp)).trans bR
  have cR := Boxed.cell bR2
  have fR := Boxed.frozen bR2
  have cR2 := fun u => (Boxed.set u bR2).cell
  gi_wp2
  exact ⟨.bool true, by simp [results, Tryd.results7, go_sem, cR2], rfl, (((Below.refl _ w).alloc (Nat.le_refl _) _).trans (hbz.mono (by simp))).setCell (p := ⟨w.heap.size, 0, none⟩) (Nat.le_refl _) _⟩
set_option maxRecDepth 100000 in
set_option maxHeartbeats 8000000 in
theorem nobodyIn (m : Nat) (hm : 6 ≤ m) (i : Int) (A : Option Addr) (k c : Nat) (l : List Int) (w : World) (hk : k = l.length) (hs : Sl w w.heap.size 1 A k c (icells l)) (h : k ≤ 100) :
    CallsIn Fence.wide m Tryd.prog 7 #[.int .i64 i, .slice A k c] w (Tru w true) := by
  have h1m : 1 ≤ m := by omega
  have d1 : decide ((100 : Int) < (k : Int)) = false := by simp; omega
  have hne := func_ne_nil 39
  obtain ⟨wB, hwB⟩ : ∃ wB, (w.alloc (.cells #[.bool false] 4)).alloc (.cells #[.int .i64 0, .slice none 0 0] 59) = wB := ⟨_, rfl⟩
  have bR : Boxed wB w.heap.size 4 (.bool false) := by rw [← hwB]; exact (Boxed.new w _ _).alloc _
  have zB : ZSet (w.heap.size + 1) wB := by rw [← hwB]; exact heap_new (by simp)
  have hbB : Below w.heap.size w wB := by rw [← hwB]; exact ((Below.refl _ w).alloc (Nat.le_refl _) _).alloc (by simp) _
  have hzB : wB.heap.size = w.heap.size + 2 := by rw [← hwB]; simp
  have HW := Lib.hid hwB
  have HA := Lib.hid (bof_any 300 A k c l wB w.heap.size (by omega) hk (hs.below hbB (Nat.le_refl _)) (by omega))
  generalize putsI 300 l (List.replicate ((300 + 63) / 64) 0) = X at *
  clear hwB hk hs
  refine callsIn_of_wp_marks Tryd.func7 rfl trivial ?_ rfl
  simp only [Tryd.ntmps7, List.size_toArray, List.length_cons, List.length_nil, Nat.reduceAdd, Nat.reduceSub, Array.replicate_succ, Array.replicate_zero, List.push_toArray, List.append_toArray, List.nil_append, List.cons_append]
  gi_wp2_with fail
  rw [HW.out]
  refine ⟨trivial, (callsIn_wide.2 HA.out).mono ?_⟩
  rintro e w1 ⟨S, q, rfl, hS1, _, _, hb1⟩
  clear HW HA
  gi_wp2_with fail
  refine ⟨trivial, (callsIn_wide.2 (all_any _ _)).mono ?_⟩
  rintro e w2 ⟨rfl, hw2⟩
  have hb2 : Below w1.heap.size w1 w2 := by rw [hw2]; exact (Below.refl _ _).alloc (Nat.le_refl _) _
  clear hw2
  gi_wp2_with fail
  refine ⟨trivial, (callsIn_wide.2 (all_any _ _)).mono ?_⟩
  rintro e w3 ⟨rfl, hw3⟩
  have hb3 : Below w2.heap.size w2 w3 := by rw [hw3]; exact (Below.refl _ _).alloc (Nat.le_refl _) _
  clear hw3
  gi_wp2_with fail
  refine ⟨trivial, (callsIn_wide.2 (all_any _ _)).mono ?_⟩
  rintro e w4 ⟨rfl, hw4⟩
  have hb4 : Below w3.heap.size w3 w4 := by rw [hw4]; exact (Below.refl _ _).alloc (Nat.le_refl _) _
  have bx4 : Boxed w4 w3.heap.size 32 (.pointer none) := by rw [hw4]; exact Boxed.new _ _ _
  clear hw4
  gi_wp2_with fail
  refine wpIn_rangeFunc_T rfl h1m (gf := 39) (lb := #[.pointer (some ⟨w3.heap.size, 0, none⟩)]) rfl trivial (enters_of Tryd.func39 (by kernel_rfl) rfl)
    (allNil_T (m - 1) w3.heap.size (fun _ => False) w4 bx4.cell bx4.lt) (fun _ e => e.elim) (fun _ => rfl)
    (fun s V => Below w4.heap.size w4 V) (fun _ _ _ => False) (ownFrom_below (Nat.le_refl _) (Nat.le_refl _)) (fun _ _ _ _ _ hs _ _ => hs) (Below.refl _ _) (fun _ _ _ => True) (fun _ _ _ _ _ _ _ _ _ => trivial)
    (fun _ _ _ _ _ _ _ hlen _ => absurd hlen.length_le (by simp)) (fun _ _ _ _ _ _ _ _ _ _ _ _ hlen => absurd hlen.length_le (by simp)) ?_ (fun _ _ _ _ _ _ _ _ h _ => h.elim)
  intro D1 N1 w5 hD1 _ hb5 hD1v
  gi_wp2_with fail
  refine ⟨trivial, (callsIn_wide.2 (all_any _ _)).mono ?_⟩
  rintro e w6 ⟨rfl, hw6⟩
  have hb6 : Below w5.heap.size w5 w6 := by rw [hw6]; exact (Below.refl _ _).alloc (Nat.le_refl _) _
  have bx6 : Boxed w6 w5.heap.size 32 (.pointer (some ⟨w.heap.size + 1, 0, none⟩)) := by rw [hw6]; exact Boxed.new _ _ _
  have hD16 : w6.heap[D1]? = some (.deferred (some [])) := (hb6.block _ (Array.getElem?_eq_some_iff.1 hD1v).1).trans hD1v
  clear hw6 hD1v
  have hz1 := hb1.size
  have hz2 := hb2.size
  have hz3 := hb3.size
  have hz4 := hb4.size
  have hz5 := hb5.size
  have hz6 := hb6.size
  have hb16 : Below w1.heap.size w1 w6 := ((((hb2.trans (hb3.mono hz2)).trans (hb4.mono (by omega))).trans (hb5.mono (by omega))).trans (hb6.mono (by omega)))
  have hbB6 : Below wB.heap.size wB w6 := hb1.trans (hb16.mono hz1)
  have z6 : ZSet (w.heap.size + 1) w6 := zB.below hbB6
  have hS6 := hS1.below hb16
  have bR6 : Boxed w6 w.heap.size 4 (.bool false) := (hbB6.block _ (by omega)).trans bR
  have hb06 : Below w.heap.size w w6 := hbB.trans (hbB6.mono (by omega))
  clear hb1 hb2 hb3 hb4 hb5 hb6 hb16 hbB6 zB hS1 bR hbB bx4
  obtain ⟨⟨_, c61⟩, _, hzl⟩ := blk2 z6
  gi_wp2_with fail
  refine wpIn_rangeFunc_T rfl h1m (gf := 39) (lb := #[.pointer (some ⟨w5.heap.size, 0, none⟩)]) rfl trivial (enters_of Tryd.func39 (by kernel_rfl) rfl)
    (allZero_T (m - 1) w5.heap.size (w.heap.size + 1) (fun _ => False) w6 bx6.cell bx6.lt c61 hzl) (fun _ e => e.elim) (fun _ => rfl)
    (fun s V => Below w6.heap.size w6 V) (fun _ _ _ => False) (ownFrom_below (Nat.le_refl _) (Nat.le_refl _)) (fun _ _ _ _ _ hs _ _ => hs) (Below.refl _ _) (fun _ _ _ => True) (fun _ _ _ _ _ _ _ _ _ => trivial)
    (fun _ _ _ _ _ _ _ hlen _ => absurd hlen.length_le (by simp)) (fun _ _ _ _ _ _ _ _ _ _ _ _ hlen => absurd hlen.length_le (by simp)) ?_ (fun _ _ _ _ _ _ _ _ h _ => h.elim)
  clear c61
  intro D2 N2 w7 hD2 _ hb7 hD2v
  have hD17 : w7.heap[D1]? = some (.deferred (some [])) := (hb7.block _ (Array.getElem?_eq_some_iff.1 hD16).1).trans hD16
  have hDl := (Array.getElem?_eq_some_iff.1 hD16).1
  have hb07 := hb06.trans (hb7.mono hb06.size)
  have z7 := z6.below hb7
  have hS7 := hS6.below hb7
  have bR7 : Boxed w7 w.heap.size 4 (.bool false) := (hb7.block _ bR6.lt).trans bR6
  have mk7 : Marks (w.heap.size + 1) [D2, D1] w7 := (marks_one (by omega) hD17).cons (by omega) hD2v (by simp; omega)
  clear hb06 hb7 hD16 hD17 hD2v z6 hS6 bR6 hne
  have HLn := Lib.hid (fun (w' : World) => lenIs_nil w' w' (Below.refl _ _))
  have HLz := Lib.hid (fun (w' : World) (hb : Below w7.heap.size w7 w') => lenIs_zero z7 w' hb)
  gi_wp2_with fail
  refine ⟨trivial, (callsIn_wide.2 (HLn.out _)).mono ?_⟩
  rintro e wx ⟨rfl, rfl⟩
  gi_wp2_with fail
  refine ⟨trivial, (callsIn_wide.2 (HLz.out _ (Below.refl _ _))).mono ?_⟩
  rintro e wx ⟨rfl, rfl⟩
  gi_wp2_with fail
  refine ⟨trivial, (callsIn_wide.2 (bnilCount_any _)).mono ?_⟩
  rintro e wx ⟨rfl, rfl⟩
  gi_wp2_with fail
  refine ⟨trivial, (callsIn_wide.2 (bzCount_any _ _ z7)).mono ?_⟩
  rintro e wx ⟨rfl, rfl⟩
  gi_wp2_with fail
  refine ⟨trivial, (callsIn_wide.2 (b0Has_any none i _ (lenIs_nil _))).mono ?_⟩
  rintro e wx ⟨rfl, rfl⟩
  gi_wp2_with fail
  refine ⟨trivial, (callsIn_wide.2 (b0Put_any _ i _ (lenIs_zero z7))).mono ?_⟩
  rintro e wx ⟨rfl, rfl⟩
  gi_wp2_with fail
  refine ⟨trivial, (callsIn_wide.2 (b0Put_any none i _ (lenIs_nil _))).mono ?_⟩
  rintro e wx ⟨rfl, rfl⟩
  gi_wp2_with fail
  refine ⟨trivial, (callsIn_wide.2 (b0Drop_any _ i _ (lenIs_zero z7))).mono ?_⟩
  rintro e wx ⟨rfl, rfl⟩
  have HM1 := Lib.hid (fun (p2 : Option Addr) (w' : World) => bmateNo1_any none p2 w' (fun w'' _ => bmadeNil_any w''))
  have HM2 := Lib.hid (fun (w' : World) (hb : Below w7.heap.size w7 w') => bmateNo2_any S none w' (fun w'' hb' => bmade_any S q 300 X w'' ((hS7.below hb).below hb')) (fun w'' _ => bmadeNil_any w''))
  have HM3 := Lib.hid (fun (p2 : Option Addr) (w' : World) (hb : Below w7.heap.size w7 w') => bmateNo1_any (some ⟨w.heap.size + 1, 0, none⟩) p2 w' (fun w'' hb' => bmadeZero_any (w.heap.size + 1) w'' (blk2 ((z7.below hb).below hb')).1.2))
  have HM4 := Lib.hid (fun (w' : World) (hb : Below w7.heap.size w7 w') => bmateNo2_any S (some ⟨w.heap.size + 1, 0, none⟩) w' (fun w'' hb' => bmade_any S q 300 X w'' ((hS7.below hb).below hb')) (fun w'' hb' => bmadeZero_any (w.heap.size + 1) w'' (blk2 ((z7.below hb).below hb')).1.2))
  gi_wp2_with fail
  refine ⟨trivial, (callsIn_wide.2 (bandNo_any _ _ _ (HM1.out _ _))).mono ?_⟩
  rintro e w8 ⟨rfl, hb8⟩
  gi_wp2_with fail
  refine ⟨trivial, (callsIn_wide.2 (borNo_any _ _ _ (HM2.out _ hb8))).mono ?_⟩
  rintro e w9 ⟨rfl, hbn9⟩
  have hb9 := hb8.trans (hbn9.mono hb8.size)
  gi_wp2_with fail
  refine ⟨trivial, (callsIn_wide.2 (bminusNo_any _ _ _ (HM3.out _ _ hb9))).mono ?_⟩
  rintro e w10 ⟨rfl, hbn10⟩
  have hb10 := hb9.trans (hbn10.mono hb9.size)
  gi_wp2_with fail
  refine ⟨trivial, (callsIn_wide.2 (bandNo_any _ _ _ (HM4.out _ hb10))).mono ?_⟩
  rintro e w11 ⟨rfl, hbn11⟩
  have hb11 := hb10.trans (hbn11.mono hb10.size)
  have z11 := z7.below hb11
  have hS11 := hS7.below hb11
  have HA1 := Lib.hid (bsameLen_any none _ 0 0 w11 (lenIs_nil _) (lenIs_zero z11) (.inr rfl) (by omega) (by omega))
  rw [show decide ((0 : Nat) = 0) = true from rfl] at HA1
  have HA2 := Lib.hid (bsameLen_any none _ 0 300 w11 (lenIs_nil _) (lenIs_set hS11) (.inr rfl) (by omega) (by omega))
  rw [show decide ((0 : Nat) = 300) = false from rfl] at HA2
  gi_wp2_with fail
  refine ⟨trivial, (callsIn_wide.2 HA1.out).mono ?_⟩
  rintro e wx ⟨rfl, hwx⟩
  obtain rfl : w11 = wx := hwx.symm
  gi_wp2_with fail
  refine ⟨trivial, (callsIn_wide.2 HA2.out).mono ?_⟩
  rintro e wx ⟨rfl, hwx2⟩
  obtain rfl : w11 = wx := hwx2.symm
  have hst := BSet.start 0 w11 (k := 0) rfl (by omega)
  have hbn12 : Below w11.heap.size w11 ((w11.alloc (.cells (madeCells #[.int .u64 0] 0) 22)).alloc (.cells #[.int .i64 ((0 : Nat) : Int), .slice (some ⟨w11.heap.size, 0, none⟩) 0 0] 59)) := ((Below.refl _ _).alloc (Nat.le_refl _) _).alloc (by simp) _
  have HN0 := Lib.hid (bnew_any 0 0 w11 (by omega) rfl)
  gi_wp2_with fail
  refine ⟨trivial, (callsIn_wide.2 HN0.out).mono ?_⟩
  rintro e w12 ⟨rfl, hw12⟩
  rw [← hw12] at hst hbn12
  clear hw12 HN0
  have z12 := z11.below hbn12
  have HA3 := Lib.hid (bsameLen_any _ _ 0 0 w12 (lenIs_zero z12) (lenIs_set hst) (.inr rfl) (by omega) (by omega))
  rw [show decide ((0 : Nat) = 0) = true from rfl] at HA3
  gi_wp2_with fail
  refine ⟨trivial, (callsIn_wide.2 HA3.out).mono ?_⟩
  rintro e wx ⟨rfl, hwx3⟩
  obtain rfl : w12 = wx := hwx3.symm
  gi_wp2_with fail
  refine ⟨trivial, (callsIn_wide.2 (bawake_any _)).mono ?_⟩
  rintro e w13 ⟨rfl, hbn13⟩
  have hz11 := hb11.size
  have hz12 := hbn12.size
  have hb713 : Below w7.heap.size w7 w13 := (hb11.trans (hbn12.mono hz11)).trans (hbn13.mono (by omega))
  have bR13 : Boxed w13 w.heap.size 4 (.bool false) := (hb713.block _ bR7.lt).trans bR7
  have cR := Boxed.cell bR13
  have fR := Boxed.frozen bR13
  have cR2 := fun u => (Boxed.set u bR13).cell
  have mk13 := mk7.tch (Tch.of_below hb713) (fun D hD e => by have := mk7.lt hD; omega)
  have mkE : Marks (w.heap.size + 1) [D2, D1] (w13.setCell ⟨w.heap.size, 0, none⟩ (.bool true)) := mk13.tch (Tch.setCell (S := fun j => j = w.heap.size) (p := ⟨w.heap.size, 0, none⟩) (Tch.refl _ w13) (fun _ => rfl) _) (fun D hD e => by have := (mk13.2 D hD).1; omega)
  have hbE : Below w.heap.size w (w13.setCell ⟨w.heap.size, 0, none⟩ (.bool true)) := (hb07.trans (hb713.mono hb07.size)).setCell (p := ⟨w.heap.size, 0, none⟩) (Nat.le_refl _) _
  clear HM1 HM2 HM3 HM4 HA1 HA2 HA3 HLn HLz hb8 hbn9 hb9 hbn10 hb10 hbn11 hb11 hbn12 hbn13 hst z7 z11 z12 hS7 hS11 hb713 mk7 mk13 bR7
  gi_wp2
  exact leaves_marks (B := w.heap.size + 1) (K := fun V => V.cell? ⟨w.heap.size, 0, none⟩ = some (.bool true) ∧ Below w.heap.size w V) (OwnFrom.and (fun _ X' Y row hs hg hr => cell_kept hs hg (fun r e => (hr r e).2)) (ownFrom_below (Nat.le_refl _) (by omega)))
    (fun V hV => ⟨.bool true, by have := hV.1; simp [results, Tryd.results7, go_sem, this], rfl, hV.2⟩) [D2, D1] _ mkE ⟨cR2 _, hbE⟩
theorem BitsNobody_any (i : Int) (A : Option Addr) (k c : Nat) (l : List Int) (w : World) (hk : k = l.length) (hs : Sl w w.heap.size 1 A k c (icells l)) : Calls Tryd.prog 7 #[.int .i64 i, .slice A k c] w (Tru w true) := by
  by_cases h : k ≤ 100
  · exact (callsIn_wide (n := 6)).1 (nobodyIn 6 (Nat.le_refl _) i A k c l w hk hs h)
  · exact (callsIn_wide (n := 6)).1 (nobodyBig 6 (Nat.le_refl _) i A k c w (by omega))
end Go.Proofs.YtikhlcdgibnolaaDoor
