/- The walk of layer 3's example. -/
import Derived.Test.YtikhlcdgibnolaaDoorBw4
namespace Go.Proofs.YtikhlcdgibnolaaDoor
open Go.RowKit

theorem lit_ints (w : World) (l : List Int) (k : Nat) (cs : Array Value) (hcs : cs.toList = icells l) (hk : k = l.length) (hlt : k ≤ 100) :
    Sl (w.alloc (.cells cs 3)) (w.heap.size + 1) 1 (some ⟨w.heap.size, 0, none⟩) k k (icells l) := by
  refine ⟨by rw [icells_len, hk], Nat.le_refl _, by unfold maxLen; omega, by simp, .inr ⟨w.heap.size, 0, rfl, by omega, fun j u hj => ?_⟩⟩
  rw [cell_of_row _ _ _ _ _ (0, 0) (heap_alloc_new w _), Nat.zero_add, ← hj, ← hcs]
  simp
theorem exPuts : putsI 5 [3, 1, 3, 9] (List.replicate ((5 + 63) / 64) 0) = [10] := by decide
theorem exCnt : cntW [10] = 2 ∧ cntW [16] = 1 ∧ pc 10 = 2 := by decide
theorem exHas : hasI 5 [10] 1 = true ∧ hasI 5 [16] 4 = true ∧ hasI 5 [0] 4 = false := by decide
theorem exPut : putI 5 [10] 3 = [10] ∧ putI 5 [0] 4 = [16] ∧ putI 5 [16] 5 = [16] ∧ dropI 5 [16] 4 = [0] := by decide
theorem exNew : (inB 5 3 && !bitOf [10] (3 : Int).toNat) = false ∧ (inB 5 4 && !bitOf [0] (4 : Int).toNat) = true ∧ (inB 5 5 && !bitOf [16] (5 : Int).toNat) = false := by decide
set_option maxHeartbeats 4000000 in
theorem bawake_any (w : World) : Calls Tryd.prog 12 #[] w (Tru w true) := by
  have hb0 : Below w.heap.size w (w.alloc (.cells #[.int .i64 3, .int .i64 1, .int .i64 3, .int .i64 9] 3)) := (Below.refl _ _).alloc (Nat.le_refl _) _
  have hof := bof_any 5 _ 4 4 [3, 1, 3, 9] _ _ (by omega) rfl (lit_ints w [3, 1, 3, 9] 4 #[.int .i64 3, .int .i64 1, .int .i64 3, .int .i64 9] rfl rfl (by omega)) (by simp)
  rw [exPuts] at hof
  have HOF := Lib.hid hof
  clear hof
  go_enter Tryd.func12, Tryd.ntmps12
  go_wp2_with fail
  refine Calls.mono HOF.out ?_
  rintro e w1 ⟨S, q, rfl, hS, hSl, hql, hb1⟩
  have hb01 : Below w.heap.size w w1 := hb0.trans (hb1.mono (by simp))
  have hz1 := hb01.size
  have hqw : w.heap.size ≤ q := by have := hql; simp at this; omega
  go_wp2_with fail
  have hst := BSet.start 5 w1 (k := 1) rfl (by omega)
  have hb2 : Below w1.heap.size w1 ((w1.alloc (.cells (madeCells #[.int .u64 0] 1) 22)).alloc (.cells #[.int .i64 ((5 : Nat) : Int), .slice (some ⟨w1.heap.size, 0, none⟩) 1 1] 59)) := ((Below.refl _ _).alloc (Nat.le_refl _) _).alloc (by simp) _
  refine (bnew_any 5 1 w1 (by omega) rfl).mono ?_
  rintro e w2 ⟨rfl, hw2⟩
  rw [← hw2] at hst hb2
  clear hw2
  have hT : BSet (w1.heap.size + 1) w1.heap.size 5 [0] w2 := hst
  have hS2 := hS.below hb2
  have hSlt := hS.lt
  have hb02 := hb01.trans (hb2.mono hz1)
  clear hst hS hb0 hb1 hb2 HOF
  go_wp2_with fail
  refine (bnewNil_any (-1) _ (by omega)).mono ?_
  rintro e w' ⟨rfl, rfl⟩
  go_wp2_with fail
  refine (bnewNil_any 65537 _ (by omega)).mono ?_
  rintro e w' ⟨rfl, rfl⟩
  have HL := Lib.hid (blen_any _ _ _ _ w2 hS2)
  have HC := Lib.hid (bcount_any _ _ _ _ w2 hS2)
  rw [exCnt.1] at HC
  have HH := Lib.hid (bhasI_any _ _ _ _ 1 w2 hS2)
  rw [exHas.1] at HH
  have HP := Lib.hid (bputI_any _ _ _ _ 3 w2 hS2)
  rw [exPut.1, exNew.1] at HP
  go_wp2_with fail
  refine Calls.mono HL.out ?_
  rintro e w' ⟨rfl, rfl⟩
  go_wp2_with fail
  refine Calls.mono HC.out ?_
  rintro e w' ⟨rfl, rfl⟩
  go_wp2_with fail
  refine Calls.mono HH.out ?_
  rintro e w' ⟨rfl, rfl⟩
  go_wp2_with fail
  refine Calls.mono HP.out ?_
  rintro e w3 ⟨rfl, hS3, ht3⟩
  have hT3 := hT.tch ht3 (by omega) (by omega)
  have hb03 := hb02.trans (ht3.below hb02.size (fun g hg e => by omega))
  clear HL HC HH HP hS2 hT ht3
  have HP := Lib.hid (bputI_any _ _ _ _ 4 w3 hT3)
  rw [exPut.2.1, exNew.2.1] at HP
  go_wp2_with fail
  refine Calls.mono HP.out ?_
  rintro e w4 ⟨rfl, hT4, ht4⟩
  have hb04 := hb03.trans (ht4.below hb03.size (fun g hg e => by omega))
  clear HP hT3 hS3 ht4
  have HP := Lib.hid (bputI_any _ _ _ _ 5 w4 hT4)
  rw [exPut.2.2.1, exNew.2.2] at HP
  go_wp2_with fail
  refine Calls.mono HP.out ?_
  rintro e w5 ⟨rfl, hT5, ht5⟩
  have hb05 := hb04.trans (ht5.below hb04.size (fun g hg e => by omega))
  clear HP hT4 ht5
  have HC := Lib.hid (bcount_any _ _ _ _ w5 hT5)
  rw [exCnt.2.1] at HC
  have HD := Lib.hid (bdropI_any _ _ _ _ 4 w5 hT5)
  rw [exPut.2.2.2, exHas.2.1] at HD
  go_wp2_with fail
  refine Calls.mono HC.out ?_
  rintro e w' ⟨rfl, rfl⟩
  go_wp2_with fail
  refine Calls.mono HD.out ?_
  rintro e w6 ⟨rfl, hT6, ht6⟩
  have hb06 := hb05.trans (ht6.below hb05.size (fun g hg e => by omega))
  clear HC HD hT5 ht6
  have HD := Lib.hid (bdropI_any _ _ _ _ 4 w6 hT6)
  rw [exHas.2.2] at HD
  go_wp2_with fail
  refine Calls.mono HD.out ?_
  rintro e w7 ⟨rfl, hT7, ht7⟩
  have hb07 := hb06.trans (ht7.below hb06.size (fun g hg e => by omega))
  clear HD hT6 hT7 ht7
  have HO := Lib.hid (bones_any 10 w7 (by omega))
  rw [exCnt.2.2] at HO
  go_wp2_with fail
  refine Calls.mono HO.out ?_
  rintro e w' ⟨rfl, rfl⟩
  go_wp2
  go_ret
  exact ⟨rfl, hb07⟩
end Go.Proofs.YtikhlcdgibnolaaDoor
