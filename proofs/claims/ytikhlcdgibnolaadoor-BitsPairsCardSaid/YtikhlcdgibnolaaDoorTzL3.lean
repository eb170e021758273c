/- Law BitsPairs: what is in both of two sets, in one of them, in one alone, and whether they are the same. -/
import Derived.Test.YtikhlcdgibnolaaDoorTz4
import Derived.Test.YtikhlcdgibnolaaDoorTn1
import Derived.Test.YtikhlcdgibnolaaDoorTzP3
import Derived.Test.YtikhlcdgibnolaaDoorTzL1
import Derived.Test.YtikhlcdgibnolaaDoorBw5
namespace Go.Proofs.YtikhlcdgibnolaaDoor
open Go.RowKit Go.Shelf

set_option maxHeartbeats 1000000 in
set_option maxRecDepth 100000 in
theorem pairsBig0 (n m : Int) (A A2 : Option Addr) (c1 c c2 d : Nat) (w : World) (h : 300 < n) :
    Calls Tryd.prog 6 #[.int .i64 n, .int .i64 m, .slice A c1 c, .slice A2 c2 d] w (Tru w true) := by
  have d1 : decide (300 < n) = true := by simpa using h
  clear h
  go_enter Tryd.func6, Tryd.ntmps6
  go_wp2_with fail
  refine (bawake_any _).mono ?_
  rintro e wz ⟨rfl, hbz⟩
  go_wp2
  go_ret
  exact ⟨rfl, hbz⟩
set_option maxHeartbeats 1000000 in
set_option maxRecDepth 100000 in
theorem pairsBig1 (n m : Int) (A A2 : Option Addr) (c1 c c2 d : Nat) (w : World) (h : n ≤ 300 ∧ 300 < m) :
    Calls Tryd.prog 6 #[.int .i64 n, .int .i64 m, .slice A c1 c, .slice A2 c2 d] w (Tru w true) := by
  have d1 : decide (300 < n) = false := by simpa using h.1
  have d2 : decide (300 < m) = true := by simpa using h.2
  clear h
  go_enter Tryd.func6, Tryd.ntmps6
  go_wp2_with fail
  refine (bawake_any _).mono ?_
  rintro e wz ⟨rfl, hbz⟩
  go_wp2
  go_ret
  exact ⟨rfl, hbz⟩
set_option maxHeartbeats 1000000 in
set_option maxRecDepth 100000 in
theorem pairsBig2 (n m : Int) (A A2 : Option Addr) (c1 c c2 d : Nat) (w : World) (h : n ≤ 300 ∧ m ≤ 300 ∧ 100 < c1) :
    Calls Tryd.prog 6 #[.int .i64 n, .int .i64 m, .slice A c1 c, .slice A2 c2 d] w (Tru w true) := by
  have d1 : decide (300 < n) = false := by simpa using h.1
  have d2 : decide (300 < m) = false := by simpa using h.2.1
  have d3 : (100 : Int) < (c1 : Int) := by omega
  clear h
  go_enter Tryd.func6, Tryd.ntmps6
  go_wp2_with fail
  refine (bawake_any _).mono ?_
  rintro e wz ⟨rfl, hbz⟩
  go_wp2
  go_ret
  exact ⟨rfl, hbz⟩
set_option maxHeartbeats 1000000 in
set_option maxRecDepth 100000 in
theorem pairsBig3 (n m : Int) (A A2 : Option Addr) (c1 c c2 d : Nat) (w : World) (h : n ≤ 300 ∧ m ≤ 300 ∧ c1 ≤ 100 ∧ 100 < c2) :
    Calls Tryd.prog 6 #[.int .i64 n, .int .i64 m, .slice A c1 c, .slice A2 c2 d] w (Tru w true) := by
  have d1 : decide (300 < n) = false := by simpa using h.1
  have d2 : decide (300 < m) = false := by simpa using h.2.1
  have d3 : decide ((100 : Int) < (c1 : Int)) = false := by simp; omega
  have d4 : (100 : Int) < (c2 : Int) := by omega
  clear h
  go_enter Tryd.func6, Tryd.ntmps6
  go_wp2_with fail
  refine (bawake_any _).mono ?_
  rintro e wz ⟨rfl, hbz⟩
  go_wp2
  go_ret
  exact ⟨rfl, hbz⟩
set_option maxHeartbeats 4000000 in
set_option maxRecDepth 100000 in
theorem pairsNo_nil_nil (n : Int) (m : Int) (A A2 : Option Addr) (c1 c c2 d : Nat) (l l2 : List Int) (w : World) (hm : c1 = l.length) (hm2 : c2 = l2.length) (hs : Sl w w.heap.size 1 A c1 c (icells l)) (hs2 : Sl w w.heap.size 1 A2 c2 d (icells l2)) (h1 : c1 ≤ 100) (h2 : c2 ≤ 100) (hn : n < 0) (hk : m < 0) :
    Calls Tryd.prog 6 #[.int .i64 n, .int .i64 m, .slice A c1 c, .slice A2 c2 d] w (Tru w true) := by
  have d1 : decide (300 < n) = false := by simp; omega
  have d2 : decide (300 < m) = false := by simp; omega
  have d3 : decide ((100 : Int) < (c1 : Int)) = false := by simp; omega
  have d4 : decide ((100 : Int) < (c2 : Int)) = false := by simp; omega
  have HA := Lib.hid (fun (w' : World) (hb : Below w.heap.size w w') => bofNil_any n A c1 c l w' w.heap.size (.inl hn) hm (hs.below hb (Nat.le_refl _)))
  have HRA := Lib.hid (fun (w' : World) (hb : Below w.heap.size w w') => rOfNil_any n A c1 c l w' w.heap.size (.inl hn) hm (hs.below hb (Nat.le_refl _)))
  have HB := Lib.hid (fun (w' : World) (hb : Below w.heap.size w w') => bofNil_any m A2 c2 d l2 w' w.heap.size (.inl hk) hm2 (hs2.below hb (Nat.le_refl _)))
  have HRB := Lib.hid (fun (w' : World) (hb : Below w.heap.size w w') => rOfNil_any m A2 c2 d l2 w' w.heap.size (.inl hk) hm2 (hs2.below hb (Nat.le_refl _)))
  clear hm hm2 hs hs2
  go_enter Tryd.func6, Tryd.ntmps6
  have hb0 : Below w.heap.size w w := Below.refl _ _
  go_wp2_with fail
  refine Calls.mono (HA.out _ hb0) ?_
  rintro e wx ⟨rfl, rfl⟩
  go_wp2_with fail
  refine Calls.mono (HB.out _ hb0) ?_
  rintro e wx ⟨rfl, rfl⟩
  go_wp2_with fail
  refine Calls.mono (HRA.out _ hb0) ?_
  rintro e wx ⟨rfl, hwx⟩
  obtain rfl : w = wx := hwx.symm
  go_wp2_with fail
  refine Calls.mono (HRB.out _ hb0) ?_
  rintro e wx ⟨rfl, hwx⟩
  obtain rfl : w = wx := hwx.symm
  have HM := Lib.hid (fun (w' : World) (hb : Below w.heap.size w w') => bmateNo1_any none none w' (fun w'' _ => bmadeNil_any w''))
  have hLs : LenIs none 0 w := lenIs_nil _
  have hLt : LenIs none 0 w := lenIs_nil _
  have HSA := Lib.hid (fun (w' : World) (hb : Below w.heap.size w w') => bsameLen_any none none 0 0 w' (hLs.below hb) (hLt.below hb) (.inr rfl) (by omega) (by omega))
  rw [show decide ((0 : Nat) = 0) = true from rfl] at HSA
  have HLs := Lib.hid (fun (w' : World) (hb : Below w.heap.size w w') => hLs w' hb)
  have HLt := Lib.hid (fun (w' : World) (hb : Below w.heap.size w w') => hLt w' hb)
  clear HA HB HRA HRB hLs hLt
  go_wp2_with fail
  refine Calls.mono (bandNo_any _ _ _ (HM.out _ (Below.refl _ _))) ?_
  rintro e w5 ⟨rfl, hbn5⟩
  have hb45 : Below w.heap.size w w5 := hbn5
  go_wp2_with fail
  refine Calls.mono (borNo_any _ _ _ (HM.out _ hb45)) ?_
  rintro e w6 ⟨rfl, hbn6⟩
  have hb46 : Below w.heap.size w w6 := hb45.trans (hbn6.mono hb45.size)
  go_wp2_with fail
  refine Calls.mono (bminusNo_any _ _ _ (HM.out _ hb46)) ?_
  rintro e w7 ⟨rfl, hbn7⟩
  have hb47 : Below w.heap.size w w7 := hb46.trans (hbn7.mono hb46.size)
  go_wp2_with fail
  refine Calls.mono (HSA.out _ hb47) ?_
  rintro e wx ⟨rfl, hwx⟩
  obtain rfl : w7 = wx := hwx.symm
  go_wp2_with fail
  refine Calls.mono (HLs.out _ hb47) ?_
  rintro e wy ⟨rfl, rfl⟩
  go_wp2_with fail
  refine Calls.mono (HLt.out _ hb47) ?_
  rintro e wy ⟨rfl, rfl⟩
  go_wp2_with fail
  refine (bawake_any _).mono ?_
  rintro e wz ⟨rfl, hbz⟩
  go_wp2
  go_ret
  exact ⟨rfl, (hb0.trans (hb47.mono hb0.size)).trans (hbz.mono (hb0.trans (hb47.mono hb0.size)).size)⟩
set_option maxHeartbeats 4000000 in
set_option maxRecDepth 100000 in
theorem pairsNo_nil_zero (n : Int)  (A A2 : Option Addr) (c1 c c2 d : Nat) (l l2 : List Int) (w : World) (hm : c1 = l.length) (hm2 : c2 = l2.length) (hs : Sl w w.heap.size 1 A c1 c (icells l)) (hs2 : Sl w w.heap.size 1 A2 c2 d (icells l2)) (h1 : c1 ≤ 100) (h2 : c2 ≤ 100) (hn : n < 0)  :
    Calls Tryd.prog 6 #[.int .i64 n, .int .i64 ((0 : Nat) : Int), .slice A c1 c, .slice A2 c2 d] w (Tru w true) := by
  have d1 : decide (300 < n) = false := by simp; omega
  have d3 : decide ((100 : Int) < (c1 : Int)) = false := by simp; omega
  have d4 : decide ((100 : Int) < (c2 : Int)) = false := by simp; omega
  have HA := Lib.hid (fun (w' : World) (hb : Below w.heap.size w w') => bofNil_any n A c1 c l w' w.heap.size (.inl hn) hm (hs.below hb (Nat.le_refl _)))
  have HRA := Lib.hid (fun (w' : World) (hb : Below w.heap.size w w') => rOfNil_any n A c1 c l w' w.heap.size (.inl hn) hm (hs.below hb (Nat.le_refl _)))
  have HB := Lib.hid (fun (w' : World) (hb : Below w.heap.size w w') => bof_any 0 A2 c2 d l2 w' w.heap.size (by omega) hm2 (hs2.below hb (Nat.le_refl _)) hb.size)
  have HRB := Lib.hid (fun (w' : World) (hb : Below w.heap.size w w') => rOf_any 0 A2 c2 d l2 w' w.heap.size (by omega) hm2 (hs2.below hb (Nat.le_refl _)) hb.size (by omega))
  generalize putsI 0 l2 (List.replicate ((0 + 63) / 64) 0) = Y at *
  generalize ofL 0 l2 (List.replicate 0 false) = y at *
  clear hm hm2 hs hs2
  go_enter Tryd.func6, Tryd.ntmps6
  have hb0 : Below w.heap.size w w := Below.refl _ _
  go_wp2_with fail
  refine Calls.mono (HA.out _ hb0) ?_
  rintro e wx ⟨rfl, rfl⟩
  go_wp2_with fail
  refine Calls.mono (HB.out _ hb0) ?_
  rintro e w2 ⟨T, qt, rfl, hT2, _, _, hbs2⟩
  have hb2 : Below w.heap.size w w2 := hb0.trans (hbs2.mono hb0.size)
  go_wp2_with fail
  refine Calls.mono (HRA.out _ hb2) ?_
  rintro e wx ⟨rfl, hwx⟩
  obtain rfl : w2 = wx := hwx.symm
  go_wp2_with fail
  refine Calls.mono (HRB.out _ hb2) ?_
  rintro e w4 ⟨g4, rfl, _, hbs4⟩
  have hb4 : Below w.heap.size w w4 := hb2.trans (hbs4.mono hb2.size)
  have hT4 := hT2.below hbs4
  have HM := Lib.hid (fun (w' : World) (hb : Below w4.heap.size w4 w') => bmateNo1_any none (some ⟨T, 0, none⟩) w' (fun w'' _ => bmadeNil_any w''))
  have hLs : LenIs none 0 w4 := lenIs_nil _
  have hLt : LenIs (some ⟨T, 0, none⟩) 0 w4 := lenIs_set hT4
  have HSA := Lib.hid (fun (w' : World) (hb : Below w4.heap.size w4 w') => bsameLen_any none (some ⟨T, 0, none⟩) 0 0 w' (hLs.below hb) (hLt.below hb) (.inr rfl) (by omega) (by omega))
  rw [show decide ((0 : Nat) = 0) = true from rfl] at HSA
  have HLs := Lib.hid (fun (w' : World) (hb : Below w4.heap.size w4 w') => hLs w' hb)
  have HLt := Lib.hid (fun (w' : World) (hb : Below w4.heap.size w4 w') => hLt w' hb)
  clear HA HB HRA HRB hLs hLt
  go_wp2_with fail
  refine Calls.mono (bandNo_any _ _ _ (HM.out _ (Below.refl _ _))) ?_
  rintro e w5 ⟨rfl, hbn5⟩
  have hb45 : Below w4.heap.size w4 w5 := hbn5
  go_wp2_with fail
  refine Calls.mono (borNo_any _ _ _ (HM.out _ hb45)) ?_
  rintro e w6 ⟨rfl, hbn6⟩
  have hb46 : Below w4.heap.size w4 w6 := hb45.trans (hbn6.mono hb45.size)
  go_wp2_with fail
  refine Calls.mono (bminusNo_any _ _ _ (HM.out _ hb46)) ?_
  rintro e w7 ⟨rfl, hbn7⟩
  have hb47 : Below w4.heap.size w4 w7 := hb46.trans (hbn7.mono hb46.size)
  go_wp2_with fail
  refine Calls.mono (HSA.out _ hb47) ?_
  rintro e wx ⟨rfl, hwx⟩
  obtain rfl : w7 = wx := hwx.symm
  go_wp2_with fail
  refine Calls.mono (HLs.out _ hb47) ?_
  rintro e wy ⟨rfl, rfl⟩
  go_wp2_with fail
  refine Calls.mono (HLt.out _ hb47) ?_
  rintro e wy ⟨rfl, rfl⟩
  go_wp2_with fail
  refine (bawake_any _).mono ?_
  rintro e wz ⟨rfl, hbz⟩
  go_wp2
  go_ret
  exact ⟨rfl, (hb4.trans (hb47.mono hb4.size)).trans (hbz.mono (hb4.trans (hb47.mono hb4.size)).size)⟩
set_option maxHeartbeats 4000000 in
set_option maxRecDepth 100000 in
theorem pairsNo_nil_pos (n : Int) (m : Nat) (A A2 : Option Addr) (c1 c c2 d : Nat) (l l2 : List Int) (w : World) (hm : c1 = l.length) (hm2 : c2 = l2.length) (hs : Sl w w.heap.size 1 A c1 c (icells l)) (hs2 : Sl w w.heap.size 1 A2 c2 d (icells l2)) (h1 : c1 ≤ 100) (h2 : c2 ≤ 100) (hn : n < 0) (hk : 0 < m ∧ m ≤ 300) :
    Calls Tryd.prog 6 #[.int .i64 n, .int .i64 (m : Int), .slice A c1 c, .slice A2 c2 d] w (Tru w true) := by
  have d1 : decide (300 < n) = false := by simp; omega
  have d2 : decide ((300 : Int) < (m : Int)) = false := by simp; omega
  have d3 : decide ((100 : Int) < (c1 : Int)) = false := by simp; omega
  have d4 : decide ((100 : Int) < (c2 : Int)) = false := by simp; omega
  have HA := Lib.hid (fun (w' : World) (hb : Below w.heap.size w w') => bofNil_any n A c1 c l w' w.heap.size (.inl hn) hm (hs.below hb (Nat.le_refl _)))
  have HRA := Lib.hid (fun (w' : World) (hb : Below w.heap.size w w') => rOfNil_any n A c1 c l w' w.heap.size (.inl hn) hm (hs.below hb (Nat.le_refl _)))
  have HB := Lib.hid (fun (w' : World) (hb : Below w.heap.size w w') => bof_any m A2 c2 d l2 w' w.heap.size (by omega) hm2 (hs2.below hb (Nat.le_refl _)) hb.size)
  have HRB := Lib.hid (fun (w' : World) (hb : Below w.heap.size w w') => rOf_any m A2 c2 d l2 w' w.heap.size (by omega) hm2 (hs2.below hb (Nat.le_refl _)) hb.size (by omega))
  generalize putsI m l2 (List.replicate ((m + 63) / 64) 0) = Y at *
  generalize ofL m l2 (List.replicate m false) = y at *
  have z2 : ((m : Int) == 0) = false := by simp; omega
  clear hm hm2 hs hs2
  go_enter Tryd.func6, Tryd.ntmps6
  have hb0 : Below w.heap.size w w := Below.refl _ _
  go_wp2_with fail
  refine Calls.mono (HA.out _ hb0) ?_
  rintro e wx ⟨rfl, rfl⟩
  go_wp2_with fail
  refine Calls.mono (HB.out _ hb0) ?_
  rintro e w2 ⟨T, qt, rfl, hT2, _, _, hbs2⟩
  have hb2 : Below w.heap.size w w2 := hb0.trans (hbs2.mono hb0.size)
  go_wp2_with fail
  refine Calls.mono (HRA.out _ hb2) ?_
  rintro e wx ⟨rfl, hwx⟩
  obtain rfl : w2 = wx := hwx.symm
  go_wp2_with fail
  refine Calls.mono (HRB.out _ hb2) ?_
  rintro e w4 ⟨g4, rfl, _, hbs4⟩
  have hb4 : Below w.heap.size w w4 := hb2.trans (hbs4.mono hb2.size)
  have hT4 := hT2.below hbs4
  have HM := Lib.hid (fun (w' : World) (hb : Below w4.heap.size w4 w') => bmateNo1_any none (some ⟨T, 0, none⟩) w' (fun w'' _ => bmadeNil_any w''))
  have hLs : LenIs none 0 w4 := lenIs_nil _
  have hLt : LenIs (some ⟨T, 0, none⟩) m w4 := lenIs_set hT4
  have HSA := Lib.hid (fun (w' : World) (hb : Below w4.heap.size w4 w') => bsameLen_any none (some ⟨T, 0, none⟩) 0 m w' (hLs.below hb) (hLt.below hb) (.inr rfl) (by omega) (by omega))
  rw [show decide (0 = m) = false by simp; omega] at HSA
  have HLs := Lib.hid (fun (w' : World) (hb : Below w4.heap.size w4 w') => hLs w' hb)
  have HLt := Lib.hid (fun (w' : World) (hb : Below w4.heap.size w4 w') => hLt w' hb)
  clear HA HB HRA HRB hLs hLt
  go_wp2_with fail
  refine Calls.mono (bandNo_any _ _ _ (HM.out _ (Below.refl _ _))) ?_
  rintro e w5 ⟨rfl, hbn5⟩
  have hb45 : Below w4.heap.size w4 w5 := hbn5
  go_wp2_with fail
  refine Calls.mono (borNo_any _ _ _ (HM.out _ hb45)) ?_
  rintro e w6 ⟨rfl, hbn6⟩
  have hb46 : Below w4.heap.size w4 w6 := hb45.trans (hbn6.mono hb45.size)
  go_wp2_with fail
  refine Calls.mono (bminusNo_any _ _ _ (HM.out _ hb46)) ?_
  rintro e w7 ⟨rfl, hbn7⟩
  have hb47 : Below w4.heap.size w4 w7 := hb46.trans (hbn7.mono hb46.size)
  go_wp2_with fail
  refine Calls.mono (HSA.out _ hb47) ?_
  rintro e wx ⟨rfl, hwx⟩
  obtain rfl : w7 = wx := hwx.symm
  go_wp2_with fail
  refine Calls.mono (HLs.out _ hb47) ?_
  rintro e wy ⟨rfl, rfl⟩
  go_wp2_with fail
  refine Calls.mono (HLt.out _ hb47) ?_
  rintro e wy ⟨rfl, rfl⟩
  go_wp2_with fail
  refine (bawake_any _).mono ?_
  rintro e wz ⟨rfl, hbz⟩
  go_wp2
  go_ret
  exact ⟨rfl, (hb4.trans (hb47.mono hb4.size)).trans (hbz.mono (hb4.trans (hb47.mono hb4.size)).size)⟩
set_option maxHeartbeats 4000000 in
set_option maxRecDepth 100000 in
theorem pairsNo_zero_nil  (m : Int) (A A2 : Option Addr) (c1 c c2 d : Nat) (l l2 : List Int) (w : World) (hm : c1 = l.length) (hm2 : c2 = l2.length) (hs : Sl w w.heap.size 1 A c1 c (icells l)) (hs2 : Sl w w.heap.size 1 A2 c2 d (icells l2)) (h1 : c1 ≤ 100) (h2 : c2 ≤ 100)  (hk : m < 0) :
    Calls Tryd.prog 6 #[.int .i64 ((0 : Nat) : Int), .int .i64 m, .slice A c1 c, .slice A2 c2 d] w (Tru w true) := by
  have d2 : decide (300 < m) = false := by simp; omega
  have d3 : decide ((100 : Int) < (c1 : Int)) = false := by simp; omega
  have d4 : decide ((100 : Int) < (c2 : Int)) = false := by simp; omega
  have HA := Lib.hid (fun (w' : World) (hb : Below w.heap.size w w') => bof_any 0 A c1 c l w' w.heap.size (by omega) hm (hs.below hb (Nat.le_refl _)) hb.size)
  have HRA := Lib.hid (fun (w' : World) (hb : Below w.heap.size w w') => rOf_any 0 A c1 c l w' w.heap.size (by omega) hm (hs.below hb (Nat.le_refl _)) hb.size (by omega))
  generalize putsI 0 l (List.replicate ((0 + 63) / 64) 0) = X at *
  generalize ofL 0 l (List.replicate 0 false) = x at *
  have HB := Lib.hid (fun (w' : World) (hb : Below w.heap.size w w') => bofNil_any m A2 c2 d l2 w' w.heap.size (.inl hk) hm2 (hs2.below hb (Nat.le_refl _)))
  have HRB := Lib.hid (fun (w' : World) (hb : Below w.heap.size w w') => rOfNil_any m A2 c2 d l2 w' w.heap.size (.inl hk) hm2 (hs2.below hb (Nat.le_refl _)))
  clear hm hm2 hs hs2
  go_enter Tryd.func6, Tryd.ntmps6
  have hb0 : Below w.heap.size w w := Below.refl _ _
  go_wp2_with fail
  refine Calls.mono (HA.out _ hb0) ?_
  rintro e w1 ⟨S, qs, rfl, hS1, _, _, hbs1⟩
  have hb1 : Below w.heap.size w w1 := hb0.trans (hbs1.mono hb0.size)
  go_wp2_with fail
  refine Calls.mono (HB.out _ hb1) ?_
  rintro e wx ⟨rfl, rfl⟩
  go_wp2_with fail
  refine Calls.mono (HRA.out _ hb1) ?_
  rintro e w3 ⟨g3, rfl, _, hbs3⟩
  have hb3 : Below w.heap.size w w3 := hb1.trans (hbs3.mono hb1.size)
  have hS3 := hS1.below hbs3
  go_wp2_with fail
  refine Calls.mono (HRB.out _ hb3) ?_
  rintro e wx ⟨rfl, hwx⟩
  obtain rfl : w3 = wx := hwx.symm
  have HM := Lib.hid (fun (w' : World) (hb : Below w3.heap.size w3 w') => bmateNo2_any S none w' (fun w'' hb' => bmade_any S qs 0 X w'' ((hS3.below hb).below hb')) (fun w'' _ => bmadeNil_any w''))
  have hLs : LenIs (some ⟨S, 0, none⟩) 0 w3 := lenIs_set hS3
  have hLt : LenIs none 0 w3 := lenIs_nil _
  have HSA := Lib.hid (fun (w' : World) (hb : Below w3.heap.size w3 w') => bsameLen_any (some ⟨S, 0, none⟩) none 0 0 w' (hLs.below hb) (hLt.below hb) (.inr rfl) (by omega) (by omega))
  rw [show decide ((0 : Nat) = 0) = true from rfl] at HSA
  have HLs := Lib.hid (fun (w' : World) (hb : Below w3.heap.size w3 w') => hLs w' hb)
  have HLt := Lib.hid (fun (w' : World) (hb : Below w3.heap.size w3 w') => hLt w' hb)
  clear HA HB HRA HRB hLs hLt
  go_wp2_with fail
  refine Calls.mono (bandNo_any _ _ _ (HM.out _ (Below.refl _ _))) ?_
  rintro e w5 ⟨rfl, hbn5⟩
  have hb45 : Below w3.heap.size w3 w5 := hbn5
  go_wp2_with fail
  refine Calls.mono (borNo_any _ _ _ (HM.out _ hb45)) ?_
  rintro e w6 ⟨rfl, hbn6⟩
  have hb46 : Below w3.heap.size w3 w6 := hb45.trans (hbn6.mono hb45.size)
  go_wp2_with fail
  refine Calls.mono (bminusNo_any _ _ _ (HM.out _ hb46)) ?_
  rintro e w7 ⟨rfl, hbn7⟩
  have hb47 : Below w3.heap.size w3 w7 := hb46.trans (hbn7.mono hb46.size)
  go_wp2_with fail
  refine Calls.mono (HSA.out _ hb47) ?_
  rintro e wx ⟨rfl, hwx⟩
  obtain rfl : w7 = wx := hwx.symm
  go_wp2_with fail
  refine Calls.mono (HLs.out _ hb47) ?_
  rintro e wy ⟨rfl, rfl⟩
  go_wp2_with fail
  refine Calls.mono (HLt.out _ hb47) ?_
  rintro e wy ⟨rfl, rfl⟩
  go_wp2_with fail
  refine (bawake_any _).mono ?_
  rintro e wz ⟨rfl, hbz⟩
  go_wp2
  go_ret
  exact ⟨rfl, (hb3.trans (hb47.mono hb3.size)).trans (hbz.mono (hb3.trans (hb47.mono hb3.size)).size)⟩
set_option maxHeartbeats 4000000 in
set_option maxRecDepth 100000 in
theorem pairsNo_pos_nil (n : Nat) (m : Int) (A A2 : Option Addr) (c1 c c2 d : Nat) (l l2 : List Int) (w : World) (hm : c1 = l.length) (hm2 : c2 = l2.length) (hs : Sl w w.heap.size 1 A c1 c (icells l)) (hs2 : Sl w w.heap.size 1 A2 c2 d (icells l2)) (h1 : c1 ≤ 100) (h2 : c2 ≤ 100) (hn : 0 < n ∧ n ≤ 300) (hk : m < 0) :
    Calls Tryd.prog 6 #[.int .i64 (n : Int), .int .i64 m, .slice A c1 c, .slice A2 c2 d] w (Tru w true) := by
  have d1 : decide ((300 : Int) < (n : Int)) = false := by simp; omega
  have d2 : decide (300 < m) = false := by simp; omega
  have d3 : decide ((100 : Int) < (c1 : Int)) = false := by simp; omega
  have d4 : decide ((100 : Int) < (c2 : Int)) = false := by simp; omega
  have HA := Lib.hid (fun (w' : World) (hb : Below w.heap.size w w') => bof_any n A c1 c l w' w.heap.size (by omega) hm (hs.below hb (Nat.le_refl _)) hb.size)
  have HRA := Lib.hid (fun (w' : World) (hb : Below w.heap.size w w') => rOf_any n A c1 c l w' w.heap.size (by omega) hm (hs.below hb (Nat.le_refl _)) hb.size (by omega))
  generalize putsI n l (List.replicate ((n + 63) / 64) 0) = X at *
  generalize ofL n l (List.replicate n false) = x at *
  have HB := Lib.hid (fun (w' : World) (hb : Below w.heap.size w w') => bofNil_any m A2 c2 d l2 w' w.heap.size (.inl hk) hm2 (hs2.below hb (Nat.le_refl _)))
  have HRB := Lib.hid (fun (w' : World) (hb : Below w.heap.size w w') => rOfNil_any m A2 c2 d l2 w' w.heap.size (.inl hk) hm2 (hs2.below hb (Nat.le_refl _)))
  have z1 : ((n : Int) == 0) = false := by simp; omega
  clear hm hm2 hs hs2
  go_enter Tryd.func6, Tryd.ntmps6
  have hb0 : Below w.heap.size w w := Below.refl _ _
  go_wp2_with fail
  refine Calls.mono (HA.out _ hb0) ?_
  rintro e w1 ⟨S, qs, rfl, hS1, _, _, hbs1⟩
  have hb1 : Below w.heap.size w w1 := hb0.trans (hbs1.mono hb0.size)
  go_wp2_with fail
  refine Calls.mono (HB.out _ hb1) ?_
  rintro e wx ⟨rfl, rfl⟩
  go_wp2_with fail
  refine Calls.mono (HRA.out _ hb1) ?_
  rintro e w3 ⟨g3, rfl, _, hbs3⟩
  have hb3 : Below w.heap.size w w3 := hb1.trans (hbs3.mono hb1.size)
  have hS3 := hS1.below hbs3
  go_wp2_with fail
  refine Calls.mono (HRB.out _ hb3) ?_
  rintro e wx ⟨rfl, hwx⟩
  obtain rfl : w3 = wx := hwx.symm
  have HM := Lib.hid (fun (w' : World) (hb : Below w3.heap.size w3 w') => bmateNo2_any S none w' (fun w'' hb' => bmade_any S qs n X w'' ((hS3.below hb).below hb')) (fun w'' _ => bmadeNil_any w''))
  have hLs : LenIs (some ⟨S, 0, none⟩) n w3 := lenIs_set hS3
  have hLt : LenIs none 0 w3 := lenIs_nil _
  have HSA := Lib.hid (fun (w' : World) (hb : Below w3.heap.size w3 w') => bsameLen_any (some ⟨S, 0, none⟩) none n 0 w' (hLs.below hb) (hLt.below hb) (.inl (by omega)) (by omega) (by omega))
  rw [show decide (n = 0) = false by simp; omega] at HSA
  have HLs := Lib.hid (fun (w' : World) (hb : Below w3.heap.size w3 w') => hLs w' hb)
  have HLt := Lib.hid (fun (w' : World) (hb : Below w3.heap.size w3 w') => hLt w' hb)
  clear HA HB HRA HRB hLs hLt
  go_wp2_with fail
  refine Calls.mono (bandNo_any _ _ _ (HM.out _ (Below.refl _ _))) ?_
  rintro e w5 ⟨rfl, hbn5⟩
  have hb45 : Below w3.heap.size w3 w5 := hbn5
  go_wp2_with fail
  refine Calls.mono (borNo_any _ _ _ (HM.out _ hb45)) ?_
  rintro e w6 ⟨rfl, hbn6⟩
  have hb46 : Below w3.heap.size w3 w6 := hb45.trans (hbn6.mono hb45.size)
  go_wp2_with fail
  refine Calls.mono (bminusNo_any _ _ _ (HM.out _ hb46)) ?_
  rintro e w7 ⟨rfl, hbn7⟩
  have hb47 : Below w3.heap.size w3 w7 := hb46.trans (hbn7.mono hb46.size)
  go_wp2_with fail
  refine Calls.mono (HSA.out _ hb47) ?_
  rintro e wx ⟨rfl, hwx⟩
  obtain rfl : w7 = wx := hwx.symm
  go_wp2_with fail
  refine Calls.mono (HLs.out _ hb47) ?_
  rintro e wy ⟨rfl, rfl⟩
  go_wp2_with fail
  refine (bawake_any _).mono ?_
  rintro e wz ⟨rfl, hbz⟩
  go_wp2
  go_ret
  exact ⟨rfl, (hb3.trans (hb47.mono hb3.size)).trans (hbz.mono (hb3.trans (hb47.mono hb3.size)).size)⟩
set_option maxHeartbeats 4000000 in
set_option maxRecDepth 100000 in
theorem pairsNo_zero_pos  (m : Nat) (A A2 : Option Addr) (c1 c c2 d : Nat) (l l2 : List Int) (w : World) (hm : c1 = l.length) (hm2 : c2 = l2.length) (hs : Sl w w.heap.size 1 A c1 c (icells l)) (hs2 : Sl w w.heap.size 1 A2 c2 d (icells l2)) (h1 : c1 ≤ 100) (h2 : c2 ≤ 100)  (hk : 0 < m ∧ m ≤ 300) :
    Calls Tryd.prog 6 #[.int .i64 ((0 : Nat) : Int), .int .i64 (m : Int), .slice A c1 c, .slice A2 c2 d] w (Tru w true) := by
  have d2 : decide ((300 : Int) < (m : Int)) = false := by simp; omega
  have d3 : decide ((100 : Int) < (c1 : Int)) = false := by simp; omega
  have d4 : decide ((100 : Int) < (c2 : Int)) = false := by simp; omega
  have HA := Lib.hid (fun (w' : World) (hb : Below w.heap.size w w') => bof_any 0 A c1 c l w' w.heap.size (by omega) hm (hs.below hb (Nat.le_refl _)) hb.size)
  have HRA := Lib.hid (fun (w' : World) (hb : Below w.heap.size w w') => rOf_any 0 A c1 c l w' w.heap.size (by omega) hm (hs.below hb (Nat.le_refl _)) hb.size (by omega))
  generalize putsI 0 l (List.replicate ((0 + 63) / 64) 0) = X at *
  generalize ofL 0 l (List.replicate 0 false) = x at *
  have HB := Lib.hid (fun (w' : World) (hb : Below w.heap.size w w') => bof_any m A2 c2 d l2 w' w.heap.size (by omega) hm2 (hs2.below hb (Nat.le_refl _)) hb.size)
  have HRB := Lib.hid (fun (w' : World) (hb : Below w.heap.size w w') => rOf_any m A2 c2 d l2 w' w.heap.size (by omega) hm2 (hs2.below hb (Nat.le_refl _)) hb.size (by omega))
  generalize putsI m l2 (List.replicate ((m + 63) / 64) 0) = Y at *
  generalize ofL m l2 (List.replicate m false) = y at *
  have z2 : ((m : Int) == 0) = false := by simp; omega
  have hnn : (((0 : Nat) : Int) != (m : Int)) = true := by simp; omega
  clear hm hm2 hs hs2
  go_enter Tryd.func6, Tryd.ntmps6
  have hb0 : Below w.heap.size w w := Below.refl _ _
  go_wp2_with fail
  refine Calls.mono (HA.out _ hb0) ?_
  rintro e w1 ⟨S, qs, rfl, hS1, _, _, hbs1⟩
  have hb1 : Below w.heap.size w w1 := hb0.trans (hbs1.mono hb0.size)
  go_wp2_with fail
  refine Calls.mono (HB.out _ hb1) ?_
  rintro e w2 ⟨T, qt, rfl, hT2, _, _, hbs2⟩
  have hb2 : Below w.heap.size w w2 := hb1.trans (hbs2.mono hb1.size)
  have hS2 := hS1.below hbs2
  go_wp2_with fail
  refine Calls.mono (HRA.out _ hb2) ?_
  rintro e w3 ⟨g3, rfl, _, hbs3⟩
  have hb3 : Below w.heap.size w w3 := hb2.trans (hbs3.mono hb2.size)
  have hS3 := hS2.below hbs3
  have hT3 := hT2.below hbs3
  go_wp2_with fail
  refine Calls.mono (HRB.out _ hb3) ?_
  rintro e w4 ⟨g4, rfl, _, hbs4⟩
  have hb4 : Below w.heap.size w w4 := hb3.trans (hbs4.mono hb3.size)
  have hS4 := hS3.below hbs4
  have hT4 := hT3.below hbs4
  have HM := Lib.hid (fun (w' : World) (hb : Below w4.heap.size w4 w') => bmateNo3_any S qs 0 X T qt m Y w' (hS4.below hb) (hT4.below hb) (by omega))
  have hLs : LenIs (some ⟨S, 0, none⟩) 0 w4 := lenIs_set hS4
  have hLt : LenIs (some ⟨T, 0, none⟩) m w4 := lenIs_set hT4
  have HSA := Lib.hid (fun (w' : World) (hb : Below w4.heap.size w4 w') => bsameLen_any (some ⟨S, 0, none⟩) (some ⟨T, 0, none⟩) 0 m w' (hLs.below hb) (hLt.below hb) (.inr rfl) (by omega) (by omega))
  rw [show decide (0 = m) = false by simp; omega] at HSA
  have HLs := Lib.hid (fun (w' : World) (hb : Below w4.heap.size w4 w') => hLs w' hb)
  have HLt := Lib.hid (fun (w' : World) (hb : Below w4.heap.size w4 w') => hLt w' hb)
  clear HA HB HRA HRB hLs hLt
  go_wp2_with fail
  refine Calls.mono (bandNo_any _ _ _ (HM.out _ (Below.refl _ _))) ?_
  rintro e w5 ⟨rfl, hbn5⟩
  have hb45 : Below w4.heap.size w4 w5 := hbn5
  go_wp2_with fail
  refine Calls.mono (borNo_any _ _ _ (HM.out _ hb45)) ?_
  rintro e w6 ⟨rfl, hbn6⟩
  have hb46 : Below w4.heap.size w4 w6 := hb45.trans (hbn6.mono hb45.size)
  go_wp2_with fail
  refine Calls.mono (bminusNo_any _ _ _ (HM.out _ hb46)) ?_
  rintro e w7 ⟨rfl, hbn7⟩
  have hb47 : Below w4.heap.size w4 w7 := hb46.trans (hbn7.mono hb46.size)
  go_wp2_with fail
  refine Calls.mono (HSA.out _ hb47) ?_
  rintro e wx ⟨rfl, hwx⟩
  obtain rfl : w7 = wx := hwx.symm
  go_wp2_with fail
  refine Calls.mono (HLs.out _ hb47) ?_
  rintro e wy ⟨rfl, rfl⟩
  go_wp2_with fail
  refine Calls.mono (HLt.out _ hb47) ?_
  rintro e wy ⟨rfl, rfl⟩
  go_wp2_with fail
  refine (bawake_any _).mono ?_
  rintro e wz ⟨rfl, hbz⟩
  go_wp2
  go_ret
  exact ⟨rfl, (hb4.trans (hb47.mono hb4.size)).trans (hbz.mono (hb4.trans (hb47.mono hb4.size)).size)⟩
set_option maxHeartbeats 4000000 in
set_option maxRecDepth 100000 in
theorem pairsNo_pos_zero (n : Nat)  (A A2 : Option Addr) (c1 c c2 d : Nat) (l l2 : List Int) (w : World) (hm : c1 = l.length) (hm2 : c2 = l2.length) (hs : Sl w w.heap.size 1 A c1 c (icells l)) (hs2 : Sl w w.heap.size 1 A2 c2 d (icells l2)) (h1 : c1 ≤ 100) (h2 : c2 ≤ 100) (hn : 0 < n ∧ n ≤ 300)  :
    Calls Tryd.prog 6 #[.int .i64 (n : Int), .int .i64 ((0 : Nat) : Int), .slice A c1 c, .slice A2 c2 d] w (Tru w true) := by
  have d1 : decide ((300 : Int) < (n : Int)) = false := by simp; omega
  have d3 : decide ((100 : Int) < (c1 : Int)) = false := by simp; omega
  have d4 : decide ((100 : Int) < (c2 : Int)) = false := by simp; omega
  have HA := Lib.hid (fun (w' : World) (hb : Below w.heap.size w w') => bof_any n A c1 c l w' w.heap.size (by omega) hm (hs.below hb (Nat.le_refl _)) hb.size)
  have HRA := Lib.hid (fun (w' : World) (hb : Below w.heap.size w w') => rOf_any n A c1 c l w' w.heap.size (by omega) hm (hs.below hb (Nat.le_refl _)) hb.size (by omega))
  generalize putsI n l (List.replicate ((n + 63) / 64) 0) = X at *
  generalize ofL n l (List.replicate n false) = x at *
  have HB := Lib.hid (fun (w' : World) (hb : Below w.heap.size w w') => bof_any 0 A2 c2 d l2 w' w.heap.size (by omega) hm2 (hs2.below hb (Nat.le_refl _)) hb.size)
  have HRB := Lib.hid (fun (w' : World) (hb : Below w.heap.size w w') => rOf_any 0 A2 c2 d l2 w' w.heap.size (by omega) hm2 (hs2.below hb (Nat.le_refl _)) hb.size (by omega))
  generalize putsI 0 l2 (List.replicate ((0 + 63) / 64) 0) = Y at *
  generalize ofL 0 l2 (List.replicate 0 false) = y at *
  have z1 : ((n : Int) == 0) = false := by simp; omega
  have hnn : ((n : Int) != ((0 : Nat) : Int)) = true := by simp; omega
  clear hm hm2 hs hs2
  go_enter Tryd.func6, Tryd.ntmps6
  have hb0 : Below w.heap.size w w := Below.refl _ _
  go_wp2_with fail
  refine Calls.mono (HA.out _ hb0) ?_
  rintro e w1 ⟨S, qs, rfl, hS1, _, _, hbs1⟩
  have hb1 : Below w.heap.size w w1 := hb0.trans (hbs1.mono hb0.size)
  go_wp2_with fail
  refine Calls.mono (HB.out _ hb1) ?_
  rintro e w2 ⟨T, qt, rfl, hT2, _, _, hbs2⟩
  have hb2 : Below w.heap.size w w2 := hb1.trans (hbs2.mono hb1.size)
  have hS2 := hS1.below hbs2
  go_wp2_with fail
  refine Calls.mono (HRA.out _ hb2) ?_
  rintro e w3 ⟨g3, rfl, _, hbs3⟩
  have hb3 : Below w.heap.size w w3 := hb2.trans (hbs3.mono hb2.size)
  have hS3 := hS2.below hbs3
  have hT3 := hT2.below hbs3
  go_wp2_with fail
  refine Calls.mono (HRB.out _ hb3) ?_
  rintro e w4 ⟨g4, rfl, _, hbs4⟩
  have hb4 : Below w.heap.size w w4 := hb3.trans (hbs4.mono hb3.size)
  have hS4 := hS3.below hbs4
  have hT4 := hT3.below hbs4
  have HM := Lib.hid (fun (w' : World) (hb : Below w4.heap.size w4 w') => bmateNo3_any S qs n X T qt 0 Y w' (hS4.below hb) (hT4.below hb) (by omega))
  have hLs : LenIs (some ⟨S, 0, none⟩) n w4 := lenIs_set hS4
  have hLt : LenIs (some ⟨T, 0, none⟩) 0 w4 := lenIs_set hT4
  have HSA := Lib.hid (fun (w' : World) (hb : Below w4.heap.size w4 w') => bsameLen_any (some ⟨S, 0, none⟩) (some ⟨T, 0, none⟩) n 0 w' (hLs.below hb) (hLt.below hb) (.inl (by omega)) (by omega) (by omega))
  rw [show decide (n = 0) = false by simp; omega] at HSA
  have HLs := Lib.hid (fun (w' : World) (hb : Below w4.heap.size w4 w') => hLs w' hb)
  have HLt := Lib.hid (fun (w' : World) (hb : Below w4.heap.size w4 w') => hLt w' hb)
  clear HA HB HRA HRB hLs hLt
  go_wp2_with fail
  refine Calls.mono (bandNo_any _ _ _ (HM.out _ (Below.refl _ _))) ?_
  rintro e w5 ⟨rfl, hbn5⟩
  have hb45 : Below w4.heap.size w4 w5 := hbn5
  go_wp2_with fail
  refine Calls.mono (borNo_any _ _ _ (HM.out _ hb45)) ?_
  rintro e w6 ⟨rfl, hbn6⟩
  have hb46 : Below w4.heap.size w4 w6 := hb45.trans (hbn6.mono hb45.size)
  go_wp2_with fail
  refine Calls.mono (bminusNo_any _ _ _ (HM.out _ hb46)) ?_
  rintro e w7 ⟨rfl, hbn7⟩
  have hb47 : Below w4.heap.size w4 w7 := hb46.trans (hbn7.mono hb46.size)
  go_wp2_with fail
  refine Calls.mono (HSA.out _ hb47) ?_
  rintro e wx ⟨rfl, hwx⟩
  obtain rfl : w7 = wx := hwx.symm
  go_wp2_with fail
  refine Calls.mono (HLs.out _ hb47) ?_
  rintro e wy ⟨rfl, rfl⟩
  go_wp2_with fail
  refine (bawake_any _).mono ?_
  rintro e wz ⟨rfl, hbz⟩
  go_wp2
  go_ret
  exact ⟨rfl, (hb4.trans (hb47.mono hb4.size)).trans (hbz.mono (hb4.trans (hb47.mono hb4.size)).size)⟩
set_option maxHeartbeats 4000000 in
set_option maxRecDepth 100000 in
theorem pairsNo_pos_pos (n : Nat) (m : Nat) (A A2 : Option Addr) (c1 c c2 d : Nat) (l l2 : List Int) (w : World) (hm : c1 = l.length) (hm2 : c2 = l2.length) (hs : Sl w w.heap.size 1 A c1 c (icells l)) (hs2 : Sl w w.heap.size 1 A2 c2 d (icells l2)) (h1 : c1 ≤ 100) (h2 : c2 ≤ 100) (hn : 0 < n ∧ n ≤ 300) (hk : 0 < m ∧ m ≤ 300) (hnm : n ≠ m) :
    Calls Tryd.prog 6 #[.int .i64 (n : Int), .int .i64 (m : Int), .slice A c1 c, .slice A2 c2 d] w (Tru w true) := by
  have d1 : decide ((300 : Int) < (n : Int)) = false := by simp; omega
  have d2 : decide ((300 : Int) < (m : Int)) = false := by simp; omega
  have d3 : decide ((100 : Int) < (c1 : Int)) = false := by simp; omega
  have d4 : decide ((100 : Int) < (c2 : Int)) = false := by simp; omega
  have HA := Lib.hid (fun (w' : World) (hb : Below w.heap.size w w') => bof_any n A c1 c l w' w.heap.size (by omega) hm (hs.below hb (Nat.le_refl _)) hb.size)
  have HRA := Lib.hid (fun (w' : World) (hb : Below w.heap.size w w') => rOf_any n A c1 c l w' w.heap.size (by omega) hm (hs.below hb (Nat.le_refl _)) hb.size (by omega))
  generalize putsI n l (List.replicate ((n + 63) / 64) 0) = X at *
  generalize ofL n l (List.replicate n false) = x at *
  have HB := Lib.hid (fun (w' : World) (hb : Below w.heap.size w w') => bof_any m A2 c2 d l2 w' w.heap.size (by omega) hm2 (hs2.below hb (Nat.le_refl _)) hb.size)
  have HRB := Lib.hid (fun (w' : World) (hb : Below w.heap.size w w') => rOf_any m A2 c2 d l2 w' w.heap.size (by omega) hm2 (hs2.below hb (Nat.le_refl _)) hb.size (by omega))
  generalize putsI m l2 (List.replicate ((m + 63) / 64) 0) = Y at *
  generalize ofL m l2 (List.replicate m false) = y at *
  have z1 : ((n : Int) == 0) = false := by simp; omega
  have z2 : ((m : Int) == 0) = false := by simp; omega
  have hnn : ((n : Int) != (m : Int)) = true := by simp; omega
  clear hm hm2 hs hs2
  go_enter Tryd.func6, Tryd.ntmps6
  have hb0 : Below w.heap.size w w := Below.refl _ _
  go_wp2_with fail
  refine Calls.mono (HA.out _ hb0) ?_
  rintro e w1 ⟨S, qs, rfl, hS1, _, _, hbs1⟩
  have hb1 : Below w.heap.size w w1 := hb0.trans (hbs1.mono hb0.size)
  go_wp2_with fail
  refine Calls.mono (HB.out _ hb1) ?_
  rintro e w2 ⟨T, qt, rfl, hT2, _, _, hbs2⟩
  have hb2 : Below w.heap.size w w2 := hb1.trans (hbs2.mono hb1.size)
  have hS2 := hS1.below hbs2
  go_wp2_with fail
  refine Calls.mono (HRA.out _ hb2) ?_
  rintro e w3 ⟨g3, rfl, _, hbs3⟩
  have hb3 : Below w.heap.size w w3 := hb2.trans (hbs3.mono hb2.size)
  have hS3 := hS2.below hbs3
  have hT3 := hT2.below hbs3
  go_wp2_with fail
  refine Calls.mono (HRB.out _ hb3) ?_
  rintro e w4 ⟨g4, rfl, _, hbs4⟩
  have hb4 : Below w.heap.size w w4 := hb3.trans (hbs4.mono hb3.size)
  have hS4 := hS3.below hbs4
  have hT4 := hT3.below hbs4
  have HM := Lib.hid (fun (w' : World) (hb : Below w4.heap.size w4 w') => bmateNo3_any S qs n X T qt m Y w' (hS4.below hb) (hT4.below hb) (by omega))
  have hLs : LenIs (some ⟨S, 0, none⟩) n w4 := lenIs_set hS4
  have hLt : LenIs (some ⟨T, 0, none⟩) m w4 := lenIs_set hT4
  have HSA := Lib.hid (fun (w' : World) (hb : Below w4.heap.size w4 w') => bsameLen_any (some ⟨S, 0, none⟩) (some ⟨T, 0, none⟩) n m w' (hLs.below hb) (hLt.below hb) (.inl (by omega)) (by omega) (by omega))
  rw [show decide (n = m) = false by simp; omega] at HSA
  have HLs := Lib.hid (fun (w' : World) (hb : Below w4.heap.size w4 w') => hLs w' hb)
  have HLt := Lib.hid (fun (w' : World) (hb : Below w4.heap.size w4 w') => hLt w' hb)
  clear HA HB HRA HRB hLs hLt
  go_wp2_with fail
  refine Calls.mono (bandNo_any _ _ _ (HM.out _ (Below.refl _ _))) ?_
  rintro e w5 ⟨rfl, hbn5⟩
  have hb45 : Below w4.heap.size w4 w5 := hbn5
  go_wp2_with fail
  refine Calls.mono (borNo_any _ _ _ (HM.out _ hb45)) ?_
  rintro e w6 ⟨rfl, hbn6⟩
  have hb46 : Below w4.heap.size w4 w6 := hb45.trans (hbn6.mono hb45.size)
  go_wp2_with fail
  refine Calls.mono (bminusNo_any _ _ _ (HM.out _ hb46)) ?_
  rintro e w7 ⟨rfl, hbn7⟩
  have hb47 : Below w4.heap.size w4 w7 := hb46.trans (hbn7.mono hb46.size)
  go_wp2_with fail
  refine Calls.mono (HSA.out _ hb47) ?_
  rintro e wx ⟨rfl, hwx⟩
  obtain rfl : w7 = wx := hwx.symm
  go_wp2_with fail
  refine Calls.mono (HLs.out _ hb47) ?_
  rintro e wy ⟨rfl, rfl⟩
  go_wp2_with fail
  refine (bawake_any _).mono ?_
  rintro e wz ⟨rfl, hbz⟩
  go_wp2
  go_ret
  exact ⟨rfl, (hb4.trans (hb47.mono hb4.size)).trans (hbz.mono (hb4.trans (hb47.mono hb4.size)).size)⟩
set_option maxHeartbeats 8000000 in
set_option maxRecDepth 100000 in
theorem pairsYes (n : Nat) (A A2 : Option Addr) (c1 c c2 d : Nat) (l l2 : List Int) (w : World) (hm : c1 = l.length) (hm2 : c2 = l2.length) (hs : Sl w w.heap.size 1 A c1 c (icells l)) (hs2 : Sl w w.heap.size 1 A2 c2 d (icells l2)) (h1 : c1 ≤ 100) (h2 : c2 ≤ 100) (hn : n ≤ 300) (hg : 0 < w.heap.size) (hT : TabAt 0 Lib.deBruijn64tab w) :
    Calls Tryd.prog 6 #[.int .i64 (n : Int), .int .i64 (n : Int), .slice A c1 c, .slice A2 c2 d] w (Tru w true) := by
  have d1 : decide ((300 : Int) < (n : Int)) = false := by simp; omega
  have d3 : decide ((100 : Int) < (c1 : Int)) = false := by simp; omega
  have d4 : decide ((100 : Int) < (c2 : Int)) = false := by simp; omega
  have hnn : ((n : Int) != (n : Int)) = false := by simp
  have HA := Lib.hid (bof_any n A c1 c l w w.heap.size (by omega) hm hs (Nat.le_refl _))
  have HB := Lib.hid (fun (w' : World) (hb : Below w.heap.size w w') => bof_any n A2 c2 d l2 w' w.heap.size (by omega) hm2 (hs2.below hb (Nat.le_refl _)) hb.size)
  have HRA := Lib.hid (fun (w' : World) (hb : Below w.heap.size w w') => rOf_any n A c1 c l w' w.heap.size (by omega) hm (hs.below hb (Nat.le_refl _)) hb.size (by omega))
  have HRB := Lib.hid (fun (w' : World) (hb : Below w.heap.size w w') => rOf_any n A2 c2 d l2 w' w.heap.size (by omega) hm2 (hs2.below hb (Nat.le_refl _)) hb.size (by omega))
  have hX : SameW n (putsI n l (List.replicate ((n + 63) / 64) 0)) (ofL n l (List.replicate n false)) := SameW.of l (SameW.start n)
  have hY : SameW n (putsI n l2 (List.replicate ((n + 63) / 64) 0)) (ofL n l2 (List.replicate n false)) := SameW.of l2 (SameW.start n)
  generalize putsI n l (List.replicate ((n + 63) / 64) 0) = X at *
  generalize ofL n l (List.replicate n false) = x at *
  generalize putsI n l2 (List.replicate ((n + 63) / 64) 0) = Y at *
  generalize ofL n l2 (List.replicate n false) = y at *
  have HTAB := Lib.hid (fun (w' : World) (hb : Below w.heap.size w w') => tab_below hT hg hb)
  have HXL := Lib.hid hX.len
  have HYL := Lib.hid hY.len
  have HXY := Lib.hid (fun hW hV => hX.inj hY hW hV)
  have HAND := Lib.hid (fun hW hV => hX.and hY hW hV)
  have HOR := Lib.hid (fun hW hV => hX.or hY hW hV)
  have HMIN := Lib.hid (fun hW hV => hX.minus hY hW hV)
  have HSX := Lib.hid hX
  have HSY := Lib.hid hY
  clear hm hm2 hs hs2 hT hX hY
  go_enter Tryd.func6, Tryd.ntmps6
  go_wp2_with fail
  refine Calls.mono HA.out ?_
  rintro e w1 ⟨S, qs, rfl, hS1, hS1l, hq1l, hb1⟩
  go_wp2_with fail
  refine Calls.mono (HB.out _ hb1) ?_
  rintro e w2 ⟨T, qt, rfl, hT2, hT2l, hqt2l, hb12⟩
  have hb2 := hb1.trans (hb12.mono hb1.size)
  have hS2 := hS1.below hb12
  go_wp2_with fail
  refine Calls.mono (HRA.out _ hb2) ?_
  rintro e w3 ⟨g1, rfl, ho1, hb23⟩
  have hb3 := hb2.trans (hb23.mono hb2.size)
  have hS3 := hS2.below hb23
  have hT3 := hT2.below hb23
  go_wp2_with fail
  refine Calls.mono (HRB.out _ hb3) ?_
  rintro e w4 ⟨g2, rfl, ho2, hb34⟩
  have hb4 := hb3.trans (hb34.mono hb3.size)
  have hS4 := hS3.below hb34
  have hT4 := hT3.below hb34
  have ho14 := own_below ho1 hb34
  obtain ⟨_, _, e1, sx4⟩ := own_sl ho14
  cases e1
  obtain ⟨_, _, e2, sy4⟩ := own_sl ho2
  cases e2
  have hWX := hS4.2.2.2.1
  have hWY := hT4.2.2.2.1
  have hxy := HXY.out hWX hWY
  have HXY2 := Lib.hid hxy
  have HAN2 := Lib.hid (HAND.out hWX hWY)
  have HOR2 := Lib.hid (HOR.out hWX hWY)
  have HMI2 := Lib.hid (HMIN.out hWX hWY)
  clear HA HB HRA HRB ho1 ho14 ho2 hS1 hS2 hS3 hT2 hT3 hxy hWX hWY HXY HAND HOR HMIN
  have HK5 := Lib.hid (band_any S qs n X T qt Y w4 hS4 hT4)
  go_wp2_with fail
  refine Calls.mono HK5.out ?_
  rintro e w5 ⟨U, qU, rfl, hU5, hUl, hqUl, hbn5⟩
  have hS5 := hS4.below hbn5
  have hT5 := hT4.below hbn5
  have hb45 : Below w4.heap.size w4 w5 := hbn5
  clear HK5
  have HK6 := Lib.hid (bor_any S qs n X T qt Y w5 hS5 hT5)
  go_wp2_with fail
  refine Calls.mono HK6.out ?_
  rintro e w6 ⟨O, qO, rfl, hO6, hOl, hqOl, hbn6⟩
  have hS6 := hS5.below hbn6
  have hT6 := hT5.below hbn6
  have hU6 := hU5.below hbn6
  have hb46 : Below w4.heap.size w4 w6 := hb45.trans (hbn6.mono hb45.size)
  clear HK6
  have HK7 := Lib.hid (bminus_any S qs n X T qt Y w6 hS6 hT6)
  go_wp2_with fail
  refine Calls.mono HK7.out ?_
  rintro e w7 ⟨M, qM, rfl, hM7, hMl, hqMl, hbn7⟩
  have hS7 := hS6.below hbn7
  have hT7 := hT6.below hbn7
  have hU7 := hU6.below hbn7
  have hO7 := hO6.below hbn7
  have hb47 : Below w4.heap.size w4 w7 := hb46.trans (hbn7.mono hb46.size)
  clear HK7
  have hb7 := hb4.trans (hb47.mono hb4.size)
  have hz7 := hb7.size
  generalize hzu : List.zipWith (· &&& ·) X Y = ZU at *
  generalize hzo : List.zipWith (· ||| ·) X Y = ZO at *
  generalize hzm : List.zipWith bare64 X Y = ZM at *
  clear hzu hzo hzm
  have sx7 := sx4.below hb47 (Nat.le_refl _)
  have sy7 := sy4.below hb47 (Nat.le_refl _)
  have hx4 : w4.heap.size ≤ w7.heap.size := hb47.size
  have HB0 := Lib.hid (fun (w' : World) (hb : Below w7.heap.size w7 w') => rBoth0_any _ _ n n n x y w' w4.heap.size (sx7.below hb hx4) (sy7.below hb hx4) HXL.out.symm HYL.out.symm (by omega) (Nat.le_trans hx4 hb.size))
  have HB1 := Lib.hid (fun (w' : World) (hb : Below w7.heap.size w7 w') => rBoth1_any _ _ n n n x y w' w4.heap.size (sx7.below hb hx4) (sy7.below hb hx4) HXL.out.symm HYL.out.symm (by omega) (Nat.le_trans hx4 hb.size))
  have HB2 := Lib.hid (fun (w' : World) (hb : Below w7.heap.size w7 w') => rBoth2_any _ _ n n n x y w' w4.heap.size (sx7.below hb hx4) (sy7.below hb hx4) HXL.out.symm HYL.out.symm (by omega) (Nat.le_trans hx4 hb.size))
  go_wp2_with fail
  refine Calls.mono (HB0.out _ (Below.refl _ _)) ?_
  rintro e w8 ⟨v0, rfl, hov0, hbb8, _⟩
  obtain ⟨_, _, rfl, sb0⟩ := own_sl hov0
  have hb78 : Below w7.heap.size w7 w8 := hbb8
  have HI0 := Lib.hid (is_any U qU n ZU _ _ _ w8 _ (hU7.below hb78) HAN2.out sb0 (Nat.le_refl _) (by omega) (Nat.lt_of_lt_of_le hg (Nat.le_trans hz7 hb78.size)) (HTAB.out _ (hb7.trans (hb78.mono hz7))))
  clear hov0
  go_wp2_with fail
  refine Calls.mono HI0.out ?_
  rintro e w9 ⟨rfl, hbb9⟩
  have hb79 := hb78.trans (hbb9.mono hb78.size)
  clear HI0 sb0 HB0
  go_wp2_with fail
  refine Calls.mono (HB1.out _ hb79) ?_
  rintro e w10 ⟨v1, rfl, hov1, hbb10, _⟩
  obtain ⟨_, _, rfl, sb1⟩ := own_sl hov1
  have hb710 : Below w7.heap.size w7 w10 := hb79.trans (hbb10.mono hb79.size)
  have HI1 := Lib.hid (is_any O qO n ZO _ _ _ w10 _ (hO7.below hb710) HOR2.out sb1 (Nat.le_refl _) (by omega) (Nat.lt_of_lt_of_le hg (Nat.le_trans hz7 hb710.size)) (HTAB.out _ (hb7.trans (hb710.mono hz7))))
  clear hov1
  go_wp2_with fail
  refine Calls.mono HI1.out ?_
  rintro e w11 ⟨rfl, hbb11⟩
  have hb711 := hb710.trans (hbb11.mono hb710.size)
  clear HI1 sb1 HB1
  go_wp2_with fail
  refine Calls.mono (HB2.out _ hb711) ?_
  rintro e w12 ⟨v2, rfl, hov2, hbb12, _⟩
  obtain ⟨_, _, rfl, sb2⟩ := own_sl hov2
  have hb712 : Below w7.heap.size w7 w12 := hb711.trans (hbb12.mono hb711.size)
  have HI2 := Lib.hid (is_any M qM n ZM _ _ _ w12 _ (hM7.below hb712) HMI2.out sb2 (Nat.le_refl _) (by omega) (Nat.lt_of_lt_of_le hg (Nat.le_trans hz7 hb712.size)) (HTAB.out _ (hb7.trans (hb712.mono hz7))))
  clear hov2
  go_wp2_with fail
  refine Calls.mono HI2.out ?_
  rintro e w13 ⟨rfl, hbb13⟩
  have hb713 := hb712.trans (hbb13.mono hb712.size)
  clear HI2 sb2 HB2
  have HSM := Lib.hid (bsameW_any S qs n X T qt Y w13 (hS7.below hb713) (hT7.below hb713))
  have HSB := Lib.hid (sameB3_any _ _ n n n n x y w13 _ _ (sx7.below hb713 hx4) (sy7.below hb713 hx4) HXL.out.symm HYL.out.symm (by omega))
  rw [HXY2.out] at HSB
  generalize decide (X = Y) = bb at *
  go_wp2_with fail
  refine Calls.mono HSM.out ?_
  rintro e wx ⟨rfl, hwx⟩
  obtain rfl : w13 = wx := hwx.symm
  go_wp2_with fail
  refine Calls.mono HSB.out ?_
  rintro e w14 ⟨rfl, k14, hw14⟩
  have hb14 := below_len3 hw14
  clear hw14
  have hb714 := hb713.trans (hb14.mono hb713.size)
  have hS14 := hS7.below hb714
  have hT14 := hT7.below hb714
  have hU14 := hU7.below hb714
  have hO14 := hO7.below hb714
  have hM14 := hM7.below hb714
  have hqs := hS4.lt
  have hqt := hT4.lt
  have hsz5 := hbn5.size
  have hsz6 := hbn6.size
  have hsz7 := hbn7.size
  have hUlt := hU5.lt
  have hOlt := hO6.lt
  have hb014 := hb7.trans (hb714.mono hz7)
  have hz14 := hb714.size
  have sx14 := sx7.below hb714 hx4
  have sy14 := sy7.below hb714 hx4
  have HIS := Lib.hid (fun (w' : World) (ht : Tch (fun j => j = qU ∨ j = qO ∨ j = qM) w14 w') => is_any S qs n X x _ n w' w4.heap.size (hS14.tch ht (fun e => by omega) (fun e => by omega)) HSX.out (sx14.below (ht.below (Nat.le_trans hx4 hz14) (fun j hj e => by omega)) (Nat.le_refl _)) (Nat.le_trans (Nat.le_trans hx4 hz14) ht.size) (by omega) (Nat.lt_of_lt_of_le hg (Nat.le_trans hb014.size ht.size)) (HTAB.out w' (hb014.trans (ht.below hb014.size (fun j hj e => by omega)))))
  have HIT := Lib.hid (fun (w' : World) (ht : Tch (fun j => j = qU ∨ j = qO ∨ j = qM) w14 w') => is_any T qt n Y y _ n w' w4.heap.size (hT14.tch ht (fun e => by omega) (fun e => by omega)) HSY.out (sy14.below (ht.below (Nat.le_trans hx4 hz14) (fun j hj e => by omega)) (Nat.le_refl _)) (Nat.le_trans (Nat.le_trans hx4 hz14) ht.size) (by omega) (Nat.lt_of_lt_of_le hg (Nat.le_trans hb014.size ht.size)) (HTAB.out w' (hb014.trans (ht.below hb014.size (fun j hj e => by omega)))))
  have HW := Lib.hid (fun (w' : World) (ht : Tch (fun j => j = qU ∨ j = qO ∨ j = qM) w14 w') => hb014.trans (ht.below hb014.size (fun j hj e => by omega)))
  have hUO : U ≠ qO ∧ U ≠ qM ∧ O ≠ qU ∧ O ≠ qM ∧ M ≠ qU ∧ M ≠ qO ∧ qU ≠ qO ∧ qU ≠ qM ∧ qO ≠ qM := by omega
  obtain ⟨x1, x2, x3, x4, x5, x6, x7, x8, x9⟩ := hUO
  have x10 := hU14.ne
  have x11 := hO14.ne
  have x12 := hM14.ne
  clear hS7 hT7 hU7 hO7 hM7 hU5 hU6 hO6 hS14 hT14 hS4 hS5 hS6 hT4 hT5 hT6 sx4 sy4 sx7 sy7 sx14 sy14 HSM HSB HAN2 HOR2 HMI2 HXY2 HTAB
  go_wp2_with fail
  go_loopw [18] (fun i wr => ∃ (k : Nat) (Z1 Z2 Z3 : List Nat), k ≤ n ∧ i = .int .i64 k ∧ BSet U qU n Z1 wr ∧ BSet O qO n Z2 wr ∧ BSet M qM n Z3 wr ∧ Tch (fun j => j = qU ∨ j = qO ∨ j = qM) w14 wr) (fun i _ => n - (intOf i).toNat)
  case atStart => exact ⟨0, ZU, ZO, ZM, Nat.zero_le _, rfl, hU14, hO14, hM14, Tch.refl _ _⟩
  case round =>
    clear hU14 hO14 hM14
    obtain ⟨k, Z1, Z2, Z3, hk, rfl, hU, hO, hM, ht⟩ := hrel
    by_cases hlt : k < n
    · have HP1 := Lib.hid (bputI_any U qU n Z1 (k : Int) wr hU)
      have hlt' : (k : Int) < (n : Int) := by omega
      go_wp2_with fail
      refine Calls.mono HP1.out ?_
      rintro e wa ⟨rfl, hUa, hta⟩
      have hOa := hO.tch hta x3 (fun e => x7 e.symm)
      have hMa := hM.tch hta x5 (fun e => x8 e.symm)
      have hta' := ht.trans hta (fun j _ e => Or.inl e)
      have HP2 := Lib.hid (bdropI_any O qO n Z2 (k : Int) wa hOa)
      clear HP1 hU hO hM
      go_wp2_with fail
      refine Calls.mono HP2.out ?_
      rintro e wb ⟨rfl, hOb, htb⟩
      have hUb := hUa.tch htb x1 x7
      have hMb := hMa.tch htb x6 (fun e => x9 e.symm)
      have htb' := hta'.trans htb (fun j _ e => Or.inr (Or.inl e))
      have HP3 := Lib.hid (bputI_any M qM n Z3 (k : Int) wb hMb)
      clear HP2 hUa hOa hMa
      go_wp2_with fail
      refine Calls.mono HP3.out ?_
      rintro e wc ⟨rfl, hMc, htc⟩
      have hUc := hUb.tch htc x2 x8
      have hOc := hOb.tch htc x4 x9
      have htc' := htb'.trans htc (fun j _ e => Or.inr (Or.inr e))
      clear HP3 hUb hOb hMb hta hta' htb htb' htc ht
      go_wp2
      go_roundw
      case rel => exact ⟨k + 1, _, _, _, by omega, by go_num, hUc, hOc, hMc, htc'⟩
      case measure => simp [intOf]; omega
    · have hk' : ¬ (k : Int) < (n : Int) := by omega
      clear hU hO hM
      have H1 := Lib.hid (HIS.out wr ht)
      go_wp2_with fail
      refine Calls.mono H1.out ?_
      rintro e wp ⟨rfl, hbp⟩
      have htp := ht.trans (Tch.of_below hbp) (fun j hj e => by have := ht.size; omega)
      have H2 := Lib.hid (HIT.out wp htp)
      go_wp2_with fail
      refine Calls.mono H2.out ?_
      rintro e wq ⟨rfl, hbq⟩
      have htq := htp.trans (Tch.of_below hbq) (fun j hj e => by have := htp.size; omega)
      have hbW := HW.out wq htq
      clear ht htp htq H1 H2 HIS HIT HW
      go_wp2_with fail
      refine (bawake_any _).mono ?_
      rintro e wz ⟨rfl, hbz⟩
      go_wp2
      go_ret
      exact ⟨rfl, hbW.trans (hbz.mono hbW.size)⟩

theorem BitsPairs_any (n m : Int) (A A2 : Option Addr) (c1 c c2 d : Nat) (l l2 : List Int) (w : World) (hm : c1 = l.length) (hm2 : c2 = l2.length) (hs : Sl w w.heap.size 1 A c1 c (icells l)) (hs2 : Sl w w.heap.size 1 A2 c2 d (icells l2)) (hl : c1 ≤ 17592186044416) (hl2 : c2 ≤ 17592186044416) (hg : 0 < w.heap.size) (hT : TabAt 0 Lib.deBruijn64tab w) :
    Calls Tryd.prog 6 #[.int .i64 n, .int .i64 m, .slice A c1 c, .slice A2 c2 d] w (Tru w true) := by
  by_cases b0 : 300 < n
  · exact pairsBig0 n m A A2 c1 c c2 d w b0
  by_cases b1 : 300 < m
  · exact pairsBig1 n m A A2 c1 c c2 d w ⟨by omega, b1⟩
  by_cases b2 : 100 < c1
  · exact pairsBig2 n m A A2 c1 c c2 d w ⟨by omega, by omega, b2⟩
  by_cases b3 : 100 < c2
  · exact pairsBig3 n m A A2 c1 c c2 d w ⟨by omega, by omega, by omega, b3⟩
  have g1 : c1 ≤ 100 := by omega
  have g2 : c2 ≤ 100 := by omega
  by_cases p0 : n < 0
  · by_cases q0 : m < 0
    · exact pairsNo_nil_nil n m A A2 c1 c c2 d l l2 w hm hm2 hs hs2 g1 g2 p0 q0
    · obtain ⟨m, rfl⟩ := Int.eq_ofNat_of_zero_le (show 0 ≤ m by omega)
      by_cases z : m = 0
      · subst z; exact pairsNo_nil_zero n A A2 c1 c c2 d l l2 w hm hm2 hs hs2 g1 g2 p0
      · exact pairsNo_nil_pos n m A A2 c1 c c2 d l l2 w hm hm2 hs hs2 g1 g2 p0 (by omega)
  · obtain ⟨n, rfl⟩ := Int.eq_ofNat_of_zero_le (show 0 ≤ n by omega)
    by_cases q0 : m < 0
    · by_cases z : n = 0
      · subst z; exact pairsNo_zero_nil m A A2 c1 c c2 d l l2 w hm hm2 hs hs2 g1 g2 q0
      · exact pairsNo_pos_nil n m A A2 c1 c c2 d l l2 w hm hm2 hs hs2 g1 g2 (by omega) q0
    · obtain ⟨m, rfl⟩ := Int.eq_ofNat_of_zero_le (show 0 ≤ m by omega)
      by_cases e : n = m
      · subst e; exact pairsYes n A A2 c1 c c2 d l l2 w hm hm2 hs hs2 g1 g2 (by omega) hg hT
      · by_cases z : n = 0
        · subst z; exact pairsNo_zero_pos m A A2 c1 c c2 d l l2 w hm hm2 hs hs2 g1 g2 (by omega)
        · by_cases z2 : m = 0
          · subst z2; exact pairsNo_pos_zero n A A2 c1 c c2 d l l2 w hm hm2 hs hs2 g1 g2 (by omega)
          · exact pairsNo_pos_pos n m A A2 c1 c c2 d l l2 w hm hm2 hs hs2 g1 g2 (by omega) (by omega) e
end Go.Proofs.YtikhlcdgibnolaaDoor
