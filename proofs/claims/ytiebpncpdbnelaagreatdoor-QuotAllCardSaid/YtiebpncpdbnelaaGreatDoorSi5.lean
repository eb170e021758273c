/- The walks of layer 32 (sim): Direct. -/
import Derived.Test.YtiebpncpdbnelaaGreatDoorZbq
import Derived.Test.YtiebpncpdbnelaaGreatDoorZbj
set_option maxHeartbeats 16000000
set_option maxRecDepth 100000
namespace Go.Proofs.YtiebpncpdbnelaaGreatDoor
open Go.RowKit
theorem jump_ret {l : Nat} {J : Act → World → Prop} {Q : Exit → Act → World → Prop} {a : Act} {w : World} : Exit.jump l J Q .ret a w = Q .ret a w := rfl
theorem slice_rowD (g o n : Nat) (w : World) (hn0 : (0 : Int) ≤ (n : Int)) (hn : (n : Int) ≤ 256) : (Instr.sliceAt 75 (.pointer (some ⟨g, o, none⟩)) none (some (.int .i64 (n : Int))) none).run Tryz.prog w = .ok (.slice (some ⟨g, o, none⟩) n 256) w := by
 have hl : Tryz.prog.arrayLen 75 = 256 := by kernel_rfl
 have ht : Tryz.prog.underlying 75 = some (.array (Tryz.prog.arrayLen 75) (Tryz.prog.elem 75)) := by kernel_rfl
 have hs : (sizeOf (Tryz.prog.elem 75)).run Tryz.prog w = .ok 1 w := by kernel_rfl
 rw [run_sliceAt_array_h w _ _ ht .i64 (n : Int) hn0 (by rw [hl]; exact hn), hs, hl]
 simp [slicedAt, Addr.add, Result.andThen]
attribute [local go_sem] slice_rowD
theorem infoRowD : (Tryz.prog.info? 75).map (fun i => (i.zero, i.size, i.bytes)) = some (some (.agg (Array.replicate 256 (.bool false))), 256, 256) := by kernel_rfl
theorem make_rowsD (m : Nat) (hm : m ≤ 1000) (w : World) : (Instr.makeSlice 72 (.int .i64 (m : Int)) (.int .i64 (m : Int))).run Tryz.prog w = .ok (.slice (some ⟨w.1.size, 0, none⟩) m m) (w.alloc (.cells (madeCells (Array.replicate 256 (.bool false)) (m * 256)) 75)) := by
 obtain ⟨i, hi, hzz⟩ := Option.map_eq_some_iff.1 infoRowD
 simp only [Prod.mk.injEq] at hzz
 obtain ⟨hz, hs, hb⟩ := hzz
 have h := run_make (P := Tryz.prog) w 72 75 i _ Tryz.underlying72 hi hz .i64 .i64 (m : Int) (m : Int) (by omega) (Int.le_refl _) (by rw [hb]; omega) (by omega)
 rw [tN, hs] at h
 exact h
theorem madeD (m : Nat) : madeCells (Array.replicate 256 (Value.bool false)) (m * 256) = (bcells (List.replicate (m * 256) false)).toArray := by
 refine Array.ext (by simp [madeCells, bcells]) (fun i h1 h2 => ?_)
 have e : (Array.replicate 256 (Value.bool false))[i % 256]! = Value.bool false := by
  rw [getElem!_pos _ _ (by simp; omega)]; simp
 simp [madeCells, bcells, e]
theorem rowsM_made (w : World) (m : Nat) (hm : m ≤ 1000) : RowsM (w.alloc (.cells (madeCells (Array.replicate 256 (.bool false)) (m * 256)) 75)) w.1.size w.1.size m m (List.replicate (m * 256) false) := by
 rw [madeD]
 exact ⟨⟨by simp [bcells], .inr ⟨w.1.size, m, (bcells (List.replicate (m * 256) false)).toArray, rfl, lR, heap_alloc_new w _, lR, by unfold maxLen; omega, by simp [bcells], by simp [bcells]⟩⟩⟩
theorem frameD (a : Act) (x0 x1 x2 x3 x4 : Value) (hd : a.defers = []) (hs : a.tmps.size = 117) (h0 : a.tmps.toList.getD 0 undef = x0) (h1 : a.tmps.toList.getD 1 undef = x1) (h2 : a.tmps.toList.getD 2 undef = x2) (h3 : a.tmps.toList.getD 3 undef = x3) (h4 : a.tmps.toList.getD 4 undef = x4) : ∃ u : Nat → Value, a = { tmps := (x0 :: x1 :: x2 :: x3 :: x4 :: u 5 :: u 6 :: u 7 :: u 8 :: u 9 :: u 10 :: u 11 :: u 12 :: u 13 :: u 14 :: u 15 :: u 16 :: u 17 :: u 18 :: u 19 :: u 20 :: u 21 :: u 22 :: u 23 :: u 24 :: u 25 :: u 26 :: u 27 :: u 28 :: u 29 :: u 30 :: u 31 :: u 32 :: u 33 :: u 34 :: u 35 :: u 36 :: u 37 :: u 38 :: u 39 :: u 40 :: u 41 :: u 42 :: u 43 :: u 44 :: u 45 :: u 46 :: u 47 :: u 48 :: u 49 :: u 50 :: u 51 :: u 52 :: u 53 :: u 54 :: u 55 :: u 56 :: u 57 :: u 58 :: u 59 :: u 60 :: u 61 :: u 62 :: u 63 :: u 64 :: u 65 :: u 66 :: u 67 :: u 68 :: u 69 :: u 70 :: u 71 :: u 72 :: u 73 :: u 74 :: u 75 :: u 76 :: u 77 :: u 78 :: u 79 :: u 80 :: u 81 :: u 82 :: u 83 :: u 84 :: u 85 :: u 86 :: u 87 :: u 88 :: u 89 :: u 90 :: u 91 :: u 92 :: u 93 :: u 94 :: u 95 :: u 96 :: u 97 :: u 98 :: u 99 :: u 100 :: u 101 :: u 102 :: u 103 :: u 104 :: u 105 :: u 106 :: u 107 :: u 108 :: u 109 :: u 110 :: u 111 :: u 112 :: u 113 :: u 114 :: u 115 :: u 116 :: ([] : List Value)).toArray, defers := [] } := by
 obtain ⟨⟨l⟩, d⟩ := a
 subst h0 h1 h2 h3 h4
 refine ⟨fun i => l.getD i undef, ?_⟩
 have hl : l.length = 117 := hs
 have e : l = (List.range 117).map (fun i => l.getD i undef) := by
  refine List.ext_getElem (by simp [hl]) (fun i h1 h2 => ?_)
  simp [List.getD, h1]
 have hd' : d = [] := hd
 subst hd'
 have e2 : (List.range 117).map (fun i => l.getD i undef) = l.getD 0 undef :: l.getD 1 undef :: l.getD 2 undef :: l.getD 3 undef :: l.getD 4 undef :: l.getD 5 undef :: l.getD 6 undef :: l.getD 7 undef :: l.getD 8 undef :: l.getD 9 undef :: l.getD 10 undef :: l.getD 11 undef :: l.getD 12 undef :: l.getD 13 undef :: l.getD 14 undef :: l.getD 15 undef :: l.getD 16 undef :: l.getD 17 undef :: l.getD 18 undef :: l.getD 19 undef :: l.getD 20 undef :: l.getD 21 undef :: l.getD 22 undef :: l.getD 23 undef :: l.getD 24 undef :: l.getD 25 undef :: l.getD 26 undef :: l.getD 27 undef :: l.getD 28 undef :: l.getD 29 undef :: l.getD 30 undef :: l.getD 31 undef :: l.getD 32 undef :: l.getD 33 undef :: l.getD 34 undef :: l.getD 35 undef :: l.getD 36 undef :: l.getD 37 undef :: l.getD 38 undef :: l.getD 39 undef :: l.getD 40 undef :: l.getD 41 undef :: l.getD 42 undef :: l.getD 43 undef :: l.getD 44 undef :: l.getD 45 undef :: l.getD 46 undef :: l.getD 47 undef :: l.getD 48 undef :: l.getD 49 undef :: l.getD 50 undef :: l.getD 51 undef :: l.getD 52 undef :: l.getD 53 undef :: l.getD 54 undef :: l.getD 55 undef :: l.getD 56 undef :: l.getD 57 undef :: l.getD 58 undef :: l.getD 59 undef :: l.getD 60 undef :: l.getD 61 undef :: l.getD 62 undef :: l.getD 63 undef :: l.getD 64 undef :: l.getD 65 undef :: l.getD 66 undef :: l.getD 67 undef :: l.getD 68 undef :: l.getD 69 undef :: l.getD 70 undef :: l.getD 71 undef :: l.getD 72 undef :: l.getD 73 undef :: l.getD 74 undef :: l.getD 75 undef :: l.getD 76 undef :: l.getD 77 undef :: l.getD 78 undef :: l.getD 79 undef :: l.getD 80 undef :: l.getD 81 undef :: l.getD 82 undef :: l.getD 83 undef :: l.getD 84 undef :: l.getD 85 undef :: l.getD 86 undef :: l.getD 87 undef :: l.getD 88 undef :: l.getD 89 undef :: l.getD 90 undef :: l.getD 91 undef :: l.getD 92 undef :: l.getD 93 undef :: l.getD 94 undef :: l.getD 95 undef :: l.getD 96 undef :: l.getD 97 undef :: l.getD 98 undef :: l.getD 99 undef :: l.getD 100 undef :: l.getD 101 undef :: l.getD 102 undef :: l.getD 103 undef :: l.getD 104 undef :: l.getD 105 undef :: l.getD 106 undef :: l.getD 107 undef :: l.getD 108 undef :: l.getD 109 undef :: l.getD 110 undef :: l.getD 111 undef :: l.getD 112 undef :: l.getD 113 undef :: l.getD 114 undef :: l.getD 115 undef :: l.getD 116 undef :: [] := rfl
 rw [e2] at e
 show (⟨⟨l⟩, []⟩ : Act) = ⟨⟨l.getD 0 undef :: l.getD 1 undef :: l.getD 2 undef :: l.getD 3 undef :: l.getD 4 undef :: l.getD 5 undef :: l.getD 6 undef :: l.getD 7 undef :: l.getD 8 undef :: l.getD 9 undef :: l.getD 10 undef :: l.getD 11 undef :: l.getD 12 undef :: l.getD 13 undef :: l.getD 14 undef :: l.getD 15 undef :: l.getD 16 undef :: l.getD 17 undef :: l.getD 18 undef :: l.getD 19 undef :: l.getD 20 undef :: l.getD 21 undef :: l.getD 22 undef :: l.getD 23 undef :: l.getD 24 undef :: l.getD 25 undef :: l.getD 26 undef :: l.getD 27 undef :: l.getD 28 undef :: l.getD 29 undef :: l.getD 30 undef :: l.getD 31 undef :: l.getD 32 undef :: l.getD 33 undef :: l.getD 34 undef :: l.getD 35 undef :: l.getD 36 undef :: l.getD 37 undef :: l.getD 38 undef :: l.getD 39 undef :: l.getD 40 undef :: l.getD 41 undef :: l.getD 42 undef :: l.getD 43 undef :: l.getD 44 undef :: l.getD 45 undef :: l.getD 46 undef :: l.getD 47 undef :: l.getD 48 undef :: l.getD 49 undef :: l.getD 50 undef :: l.getD 51 undef :: l.getD 52 undef :: l.getD 53 undef :: l.getD 54 undef :: l.getD 55 undef :: l.getD 56 undef :: l.getD 57 undef :: l.getD 58 undef :: l.getD 59 undef :: l.getD 60 undef :: l.getD 61 undef :: l.getD 62 undef :: l.getD 63 undef :: l.getD 64 undef :: l.getD 65 undef :: l.getD 66 undef :: l.getD 67 undef :: l.getD 68 undef :: l.getD 69 undef :: l.getD 70 undef :: l.getD 71 undef :: l.getD 72 undef :: l.getD 73 undef :: l.getD 74 undef :: l.getD 75 undef :: l.getD 76 undef :: l.getD 77 undef :: l.getD 78 undef :: l.getD 79 undef :: l.getD 80 undef :: l.getD 81 undef :: l.getD 82 undef :: l.getD 83 undef :: l.getD 84 undef :: l.getD 85 undef :: l.getD 86 undef :: l.getD 87 undef :: l.getD 88 undef :: l.getD 89 undef :: l.getD 90 undef :: l.getD 91 undef :: l.getD 92 undef :: l.getD 93 undef :: l.getD 94 undef :: l.getD 95 undef :: l.getD 96 undef :: l.getD 97 undef :: l.getD 98 undef :: l.getD 99 undef :: l.getD 100 undef :: l.getD 101 undef :: l.getD 102 undef :: l.getD 103 undef :: l.getD 104 undef :: l.getD 105 undef :: l.getD 106 undef :: l.getD 107 undef :: l.getD 108 undef :: l.getD 109 undef :: l.getD 110 undef :: l.getD 111 undef :: l.getD 112 undef :: l.getD 113 undef :: l.getD 114 undef :: l.getD 115 undef :: l.getD 116 undef :: []⟩, []⟩
 rw [← e]
theorem direct_any (a : Aut) (Ai : Option Addr) (ni ci : Nat) (An : Option Addr) (nn cn : Nat) (w : World) (B : Nat) (h : AutRd w B a Ai ni ci An nn cn) (hB : B ≤ w.1.size) (hck : chkA a = 0) (hnd : ∀ x ∈ a.nodes, x.need < 2 ^ 64 ∧ x.ban < 2 ^ 64) (hinn : ∀ x ∈ a.nodes, x.inn < 2 ^ 64) (KE : Nat) (hr : ∀ x ∈ a.nodes, x.to.length ≤ KE) (hri : a.init.length ≤ 100000000) (hKE : KE ≤ 1000000) :
  Calls Tryz.prog 20 #[.agg #[.int .i64 a.sets, .slice Ai ni ci, .slice An nn cn]] w (GridPost w (simL a)) := by
 have hb0 : Below w.1.size w (w.alloc (.cells #[.int .i64 a.sets, .slice Ai ni ci, .slice An nn cn] 25)) := bR.alloc lR _
 have x0 := heap_alloc_new w (.cells #[.int .i64 a.sets, .slice Ai ni ci, .slice An nn cn] 25)
 have z0 : (w.alloc (.cells #[.int .i64 a.sets, .slice Ai ni ci, .slice An nn cn] 25)).1.size = w.1.size + 1 := by simp
 obtain ⟨W0, hW0⟩ := xQ (w.alloc (.cells #[.int .i64 a.sets, .slice Ai ni ci, .slice An nn cn] 25))
 rw [hW0] at hb0 x0 z0
 have HR0 := dh (h.below hb0 hB)
 have HC0 := dh (autoCheck_any a Ai ni ci An nn cn W0 B HR0.out (by omega) hri (fun x hx => by have := hr x hx; omega))
 obtain ⟨hn256, ⟨hs0, hs16⟩, hA, -⟩ := chk_iff.1 hck
 have HNN := dh h.enn
 have hnn : nn ≤ 256 := by rw [HNN.out]; exact hn256
 have HW0 := dh hW0
 have HB0 := dh hb0
 have HA := dh hA
 have hBw : B ≤ W0.1.size := by omega
 have hww : w.1.size < W0.1.size := by omega
 have HCL : Hid (∀ W', Below W0.1.size W0 W' → W'.cell? ⟨w.1.size, 0, none⟩ = some (.int .i64 a.sets) ∧ W'.cell? ⟨w.1.size, 1, none⟩ = some (.slice Ai ni ci) ∧ W'.cell? ⟨w.1.size, 2, none⟩ = some (.slice An nn cn)) := dh (fun W' hb => by
  have k0 := (hb.block w.1.size hww).trans x0
  refine ⟨?_, ?_, ?_⟩ <;> (rw [cell_of_row _ _ _ _ _ (0, 0) k0]; rfl))
 have HFO : Hid (∀ (g : Nat) (L : List Bool) (i k : Nat) (W' : World), Below W0.1.size W0 W' → RowsM W' W0.1.size g nn nn L → i < nn → k < nn → Calls Tryz.prog 44 #[.agg #[.int .i64 a.sets, .slice Ai ni ci, .slice An nn cn], .slice (some ⟨g, 0, none⟩) nn nn, .int .i64 (i : Int), .int .i64 (k : Int)] W' (Tru W' (follB a L i k))) := dh (fun g L i k W' hb hm hi hk =>
  follows_any a Ai ni ci An nn cn W' B (HR0.out.below hb hBw) (Nat.le_trans hBw hb.size) HA.out W0.1.size g nn L hm i k hi hk hnn (fun x hx => by have := hr x hx; omega))
 have HHR := dh hr
 have HND := dh hnd
 have HINN := dh hinn
 have HCK := dh hck
 have HZ0 := dh z0
 clear hW0 hb0 x0 z0 h hnd hinn hr hA hck
 go_enter Tryz.func20, Tryz.ntmps20
 go_wp2_with fail
 show Code.wp _ _ _ _ (w.alloc (.cells #[.int .i64 a.sets, .slice Ai ni ci, .slice An nn cn] 25))
 rw [HW0.out]
 refine scope_again 0 (fun m a' w' => ∃ (g : Nat) (L : List Bool), m = cntB L ∧ Hid (RowsM w' W0.1.size g nn nn L) ∧ Hid (InvD a L) ∧ Hid (Below W0.1.size W0 w') ∧ a'.defers = [] ∧ a'.tmps.size = 117 ∧ a'.tmps.toList.getD 0 undef = .agg #[.int .i64 a.sets, .slice Ai ni ci, .slice An nn cn] ∧ a'.tmps.toList.getD 1 undef = .pointer (some ⟨w.1.size, 0, none⟩) ∧ a'.tmps.toList.getD 2 undef = .slice none 0 0 ∧ a'.tmps.toList.getD 3 undef = .int .i64 (nn : Int) ∧ a'.tmps.toList.getD 4 undef = .slice (some ⟨g, 0, none⟩) nn nn) rfl ?_ ?_
 ·rintro m a' w' ⟨g, L, rfl, HM, HI, HB, hd, hs, f0, f1, f2, f3, f4⟩
  obtain ⟨u, rfl⟩ := frameD a' _ _ _ _ _ hd hs f0 f1 f2 f3 f4
  clear hd hs f0 f1 f2 f3 f4
  go_wp2_with fail
  go_loopw [50] (fun i wr => ∃ (i1 : Nat) (L1 : List Bool), i1 ≤ nn ∧ i = .int .i64 (i1 : Int) ∧ Hid (RowsM wr W0.1.size g nn nn L1) ∧ Hid (InvD a L1) ∧ Hid (PassD a L L1 i1 0) ∧ Hid (Below W0.1.size W0 wr)) (fun i _ => nn - (intOf i).toNat)
  case atStart => exact ⟨0, L, by omega, rfl, HM, HI, dh (PassD.start a L), HB⟩
  case round =>
   obtain ⟨i1, L1, hi1, rfl, HM1, HI1, HP1, HB1⟩ := hrel
   clear HM HI HB
   by_cases hlt : i1 < nn
   ·have wi : IntKind.i64.wrap ((i1 : Int) + 1) = (i1 : Int) + 1 := by rw [wI]; omega
    have hi0 : (0 : Int) ≤ (i1 : Int) := by omega
    have hi2 : (i1 : Int) < (nn : Int) := by omega
    go_wp2_with fail
    go_loopw [54] (fun j wq => ∃ (k1 : Nat), k1 ≤ nn ∧ j = .int .i64 (k1 : Int) ∧ Hid (RowsM wq W0.1.size g nn nn L1) ∧ Hid (PassD a L L1 i1 k1) ∧ Hid (Below W0.1.size W0 wq)) (fun j _ => nn - (intOf j).toNat)
    case atStart => exact ⟨0, by omega, rfl, HM1, HP1, HB1⟩
    case round =>
     obtain ⟨k1, hk1, rfl, HM2, HP2, HB2⟩ := hrel
     clear HM1 HP1 HB1
     by_cases hlt2 : k1 < nn
     ·have wk : IntKind.i64.wrap ((k1 : Int) + 1) = (k1 : Int) + 1 := by rw [wI]; omega
      have hj0 : (0 : Int) ≤ (k1 : Int) := by omega
      have hj2 : (k1 : Int) < (nn : Int) := by omega
      have hj3 : (k1 : Int) < 256 := by omega
      have q := HM2.out.cell hlt (show k1 < 256 by omega)
      have HF := dh (HFO.out g L1 i1 k1 wr HB2.out HM2.out hlt hlt2)
      obtain ⟨q0, q1, q2⟩ := HCL.out wr HB2.out
      cases hrv : relF L1 i1 k1
      ·have HRV := dh hrv
       rw [hrv] at q
       clear hrv
       go_wp2_with fail
       go_roundw
       case rel => exact ⟨k1 + 1, by omega, congrArg (Value.int .i64) (by omega), HM2, dh (HP2.out.next (fun h => by rw [HRV.out] at h; cases h)), HB2⟩
       case measure => simp [intOf]; omega
      ·have HRV := dh hrv
       rw [hrv] at q
       clear hrv
       go_wp2_with fail
       refine HF.out.mono ?_
       rintro e w3 ⟨rfl, hb3⟩
       have HM3 := dh (HM2.out.below hb3)
       have HB3 := dh (HB2.out.trans (hb3.mono HB2.out.size))
       clear hb3 q q0 q1 q2
       cases hfv : follB a L1 i1 k1
       ·have HFV := dh hfv
        clear hfv
        have q := HM3.out.cell hlt (show k1 < 256 by omega)
        have f := HM3.out.own.frozenAt (i1 * 256 + k1)
        have yl := (HM3.out.own.lt g rfl).2
        have hgl := (HM3.out.own.lt g rfl).1
        go_wp2_with fail
        go_roundw
        case rel => exact ⟨i1 + 1, L1.set (i1 * 256 + k1) false, by omega, congrArg (Value.int .i64) (by omega), dh (HM3.out.put _ false), dh (HI1.out.drop HA.out (by rw [← HNN.out]; exact hnn) (by rw [← HNN.out]; exact hlt) (by rw [← HNN.out]; exact hlt2) HFV.out), dh (HP2.out.drop HRV.out), dh (HB3.out.setCell (p := ⟨g, i1 * 256 + k1, none⟩) hgl _)⟩
        case measure => simp [intOf]; omega
       ·have HFV := dh hfv
        clear hfv
        go_wp2_with fail
        go_roundw
        case rel => exact ⟨k1 + 1, by omega, congrArg (Value.int .i64) (by omega), HM3, dh (HP2.out.next (fun _ => HFV.out)), HB3⟩
        case measure => simp [intOf]; omega
     ·have hkn : k1 = a.nodes.length := by rw [← HNN.out]; omega
      have HP3 : Hid (PassD a L L1 (i1 + 1) 0) := dh (by have := HP2.out; rw [hkn] at this; exact this.row)
      have hle : ¬ (k1 : Int) < (nn : Int) := by omega
      clear hkn
      go_wp2_with fail
      go_roundw
      case rel => exact ⟨i1 + 1, L1, by omega, congrArg (Value.int .i64) (by omega), HM2, HI1, HP3, HB2⟩
      case measure => simp [intOf]; omega
   ·have hin : i1 = a.nodes.length := by rw [← HNN.out]; omega
    have HPN : Hid (PassD a L L1 a.nodes.length 0) := dh (by have := HP1.out; rwa [hin] at this)
    have hle : ¬ (i1 : Int) < (nn : Int) := by omega
    clear hin HP1
    go_wp2_with fail
    go_loopw [79] (fun i wr => ∃ (i2 : Nat), i2 ≤ nn ∧ i = .int .i64 (i2 : Int) ∧ Hid (RowsM wr W0.1.size g nn nn L1) ∧ Hid (PassD a L1 L1 i2 0) ∧ Hid (Below W0.1.size W0 wr)) (fun i _ => nn - (intOf i).toNat)
    case atStart => exact ⟨0, by omega, rfl, HM1, dh (PassD.start a L1), HB1⟩
    case round =>
     obtain ⟨i2, hi2, rfl, HM2, HP2, HB2⟩ := hrel
     clear HM1 HB1 hle
     by_cases hlt : i2 < nn
     ·have wi : IntKind.i64.wrap ((i2 : Int) + 1) = (i2 : Int) + 1 := by rw [wI]; omega
      have hi0 : (0 : Int) ≤ (i2 : Int) := by omega
      have hi3 : (i2 : Int) < (nn : Int) := by omega
      go_wp2_with fail
      go_loopw [83] (fun j wq => ∃ (k2 : Nat), k2 ≤ nn ∧ j = .int .i64 (k2 : Int) ∧ Hid (RowsM wq W0.1.size g nn nn L1) ∧ Hid (PassD a L1 L1 i2 k2) ∧ Hid (Below W0.1.size W0 wq)) (fun j _ => nn - (intOf j).toNat)
      case atStart => exact ⟨0, by omega, rfl, HM2, HP2, HB2⟩
      case round =>
       obtain ⟨k2, hk2, rfl, HM3, HP3, HB3⟩ := hrel
       clear HM2 HP2 HB2
       by_cases hlt2 : k2 < nn
       ·have wk : IntKind.i64.wrap ((k2 : Int) + 1) = (k2 : Int) + 1 := by rw [wI]; omega
        have hj0 : (0 : Int) ≤ (k2 : Int) := by omega
        have hj2 : (k2 : Int) < (nn : Int) := by omega
        have hj3 : (k2 : Int) < 256 := by omega
        have q := HM3.out.cell hlt (show k2 < 256 by omega)
        have HF := dh (HFO.out g L1 i2 k2 wr HB3.out HM3.out hlt hlt2)
        obtain ⟨q0, q1, q2⟩ := HCL.out wr HB3.out
        cases hrv : relF L1 i2 k2
        ·have HRV := dh hrv
         rw [hrv] at q
         clear hrv
         go_wp2_with fail
         go_roundw
         case rel => exact ⟨k2 + 1, by omega, congrArg (Value.int .i64) (by omega), HM3, dh (HP3.out.next (fun h => by rw [HRV.out] at h; cases h)), HB3⟩
         case measure => simp [intOf]; omega
        ·have HRV := dh hrv
         rw [hrv] at q
         clear hrv
         go_wp2_with fail
         refine HF.out.mono ?_
         rintro e w3 ⟨rfl, hb3⟩
         have HM4 := dh (HM3.out.below hb3)
         have HB4 := dh (HB3.out.trans (hb3.mono HB3.out.size))
         clear hb3 q q0 q1 q2
         cases hfv : follB a L1 i2 k2
         ·have HFV := dh hfv
          clear hfv
          have HLT : Hid (cntB L1 < cntB L) := dh (HPN.out.less (by rw [← HNN.out]; exact hlt) (by rw [← HNN.out]; exact hlt2) HRV.out HFV.out)
          go_wp2_with fail
          go_step3
          exact ⟨rfl, _, HLT.out, g, L1, rfl, HM4, HI1, HB4, rfl, rfl, rfl, rfl, rfl, rfl, rfl⟩
         ·have HFV := dh hfv
          clear hfv
          go_wp2_with fail
          go_roundw
          case rel => exact ⟨k2 + 1, by omega, congrArg (Value.int .i64) (by omega), HM4, dh (HP3.out.next (fun _ => HFV.out)), HB4⟩
          case measure => simp [intOf]; omega
       ·have hkn : k2 = a.nodes.length := by rw [← HNN.out]; omega
        have HP4 : Hid (PassD a L1 L1 (i2 + 1) 0) := dh (by have := HP3.out; rw [hkn] at this; exact this.row)
        have hle : ¬ (k2 : Int) < (nn : Int) := by omega
        clear hkn
        go_wp2_with fail
        go_roundw
        case rel => exact ⟨i2 + 1, by omega, congrArg (Value.int .i64) (by omega), HM3, HP4, HB3⟩
        case measure => simp [intOf]; omega
     ·have hin : i2 = a.nodes.length := by rw [← HNN.out]; omega
      have HDN : Hid (∀ i k, i < a.nodes.length → k < a.nodes.length → relF L1 i k = true → follB a L1 i k = true) := dh (fun i k hi hk hr => by
       have := HP2.out
       rw [hin] at this
       rcases this with h | ⟨-, h⟩
       ·exact absurd h (Nat.lt_irrefl _)
       ·exact h i k hi hk (.inl hi) hr)
      have hle : ¬ (i2 : Int) < (nn : Int) := by omega
      clear hin HP2 HPN
      rename World => w6
      go_wp2_with fail
      go_loopw [11, 103] (fun o i wq => ∃ (k3 : Nat), k3 ≤ nn ∧ i = .int .i64 (k3 : Int) ∧ Hid (RowsM wq W0.1.size g nn nn L1) ∧ Hid (Grid w6 wq o ((simL a).take k3))) (fun _ i _ => nn - (intOf i).toNat)
      case atStart => exact ⟨0, by omega, rfl, HM2, dh (Grid.nil w6)⟩
      case round =>
       obtain ⟨k3, hk3, rfl, HM3, HG3⟩ := hrel
       clear HM2 hle
       by_cases hlt : k3 < nn
       ·have wk : IntKind.i64.wrap ((k3 : Int) + 1) = (k3 : Int) + 1 := by rw [wI]; omega
        have hj0 : (0 : Int) ≤ (k3 : Int) := by omega
        have hj2 : (k3 : Int) < (nn : Int) := by omega
        have hn0 : (0 : Int) ≤ (nn : Int) := by omega
        have hn2 : (nn : Int) ≤ 256 := by omega
        obtain ⟨vs, hv, hvs, hbG⟩ := HG3.out
        have hlk : ((simL a).take k3).length = k3 := by rw [List.length_take, simL_len]; have := HNN.out; omega
        have HSR : Hid ((simL a).take (k3 + 1) = (simL a).take k3 ++ [rowD L1 nn k3]) := dh (by
         have h := rowD_sim HI1.out HA.out HDN.out (i := k3) (by rw [← HNN.out]; exact hlt)
         rw [List.take_add_one, h, HNN.out]; rfl)
        have HCLN := dh (cloneB_any (some ⟨g, k3 * 256, none⟩) nn 256 (bcells (rowD L1 nn k3)) wr wr.1.size (HM3.out.row hlt hnn) (bcells_one _) lR (by omega))
        rw [hlk] at hv
        have HV := dh hv
        have HVS := dh hvs
        have HBG := dh hbG
        have hgz := (HM3.out.own.lt g rfl).2
        clear hv hvs hbG
        go_wp2_with fail
        refine HCLN.out.mono ?_
        rintro e w5 ⟨v5, rfl, ho5, hb5, -⟩
        obtain ⟨A5, c5, rfl, -⟩ := own_sl ho5
        have hG5 := HG3.out.below hb5
        have HO5 := dh (own_base ho5 HBG.out.size)
        have HV5 := dh (own_below HV.out hb5)
        have HB5 := dh hb5
        have HM5 := dh (HM3.out.below hb5)
        have hnw := dh (heap_alloc_new w5 (.cells #[.slice A5 nn c5] 48))
        have HG5 := dh hG5
        have hz5 := hb5.size
        have hz6 := HBG.out.size
        clear ho5 hb5 hG5
        go_wp2_with (at_builtin; refine wpList_push rfl (.tmp 106) (.tmp 113) 41 rfl w6.1.size 48 1 24 sliceRows _ _ _ (HV5.out.alloc _) rfl w5.1.size #[.slice A5 nn c5] rfl hnw.out rfl (by simp [Value.oneCell']) (by omega) (by omega) (by simp; omega) ?_; intro u' wA hown3 ht3 hat3 hne3; have HGA := dh (HG5.out.push (r := rowD L1 nn k3) (u := .slice A5 nn c5) (by simpa [rowD] using HO5.out) (by rw [hlk]; exact HV5.out) (by rw [hlk]; exact hown3) (Tch.trans ((Tch.refl _ w5).alloc _) ht3 (fun _ _ h => h)) (fun j r hj => by obtain ⟨u, e1, e2⟩ := HVS.out j r hj; exact ⟨u, e1, own_below e2 HB5.out⟩)); have HMA : Hid (RowsM wA W0.1.size g nn nn L1) := dh ⟨own_tch HM5.out.own (Tch.trans ((Tch.refl _ w5).alloc _) ht3 (fun _ _ h => h)) (fun q hq hS => own_ne HM5.out.own HV5.out (by decide) q hq hS)⟩)
        go_roundw
        case rel => exact ⟨k3 + 1, by omega, congrArg (Value.int .i64) (by omega), HMA, dh (by rw [HSR.out]; exact HGA.out)⟩
        case measure => simp [intOf]; omega
       ·have hkn : k3 = nn := by omega
        have HGE : Hid (Grid w6 wr _ (simL a)) := dh (by have := HG3.out; rwa [hkn, tL (by rw [simL_len, HNN.out]; exact lR)] at this)
        have hle : ¬ (k3 : Int) < (nn : Int) := by omega
        have HBW : Hid (Below w.1.size w w6) := dh (HB0.out.trans (HB2.out.mono (show w.1.size ≤ W0.1.size by omega)))
        clear hkn
        go_wp2_with fail
        rw [jump_ret]
        go_ret
        exact ⟨_, rfl, HGE.out.base HBW.out⟩
 ·intro HAG
  obtain ⟨q0, q1, q2⟩ := HCL.out W0 bR
  go_wp2_with fail
  refine HC0.out.mono ?_
  rintro e w1 ⟨rfl, hb1⟩
  rw [HCK.out]
  have HB1 := dh hb1
  have hz1 := hb1.size
  clear q0 q1 q2 hb1
  obtain ⟨q0, q1, q2⟩ := HCL.out w1 HB1.out
  have hmk := make_rowsD nn (by omega) w1
  obtain ⟨W1, hW1⟩ := xQ (w1.alloc (.cells (madeCells (Array.replicate 256 (.bool false)) (nn * 256)) 75))
  have hrm := rowsM_made w1 nn (by omega)
  rw [hW1] at hrm hmk
  have HB2 := dh (show Below W0.1.size W0 W1 by rw [← hW1]; exact HB1.out.alloc HB1.out.size _)
  have HRM : Hid (RowsM W1 W0.1.size w1.1.size nn nn (List.replicate (nn * 256) false)) := dh ⟨own_base hrm.own HB1.out.size⟩
  clear hrm hW1
  go_wp2_with fail
  go_loopw [22] (fun i wr => ∃ (i1 : Nat) (L1 : List Bool), i1 ≤ nn ∧ i = .int .i64 (i1 : Int) ∧ Hid (RowsM wr W0.1.size w1.1.size nn nn L1) ∧ Hid (InitD a L1 i1 0) ∧ Hid (Below W0.1.size W0 wr)) (fun i _ => nn - (intOf i).toNat)
  case atStart => exact ⟨0, _, by omega, rfl, HRM, dh ⟨by rw [List.length_replicate, HNN.out], fun j m _ _ hc => absurd hc (by omega)⟩, HB2⟩
  case round =>
   obtain ⟨i1, L1, hi1, rfl, HM1, HI1, HB3⟩ := hrel
   clear HRM HB2 q0 q1 q2 hmk
   by_cases hlt : i1 < nn
   ·have wi : IntKind.i64.wrap ((i1 : Int) + 1) = (i1 : Int) + 1 := by rw [wI]; omega
    have hi0 : (0 : Int) ≤ (i1 : Int) := by omega
    have hi2 : (i1 : Int) < (nn : Int) := by omega
    go_wp2_with fail
    go_loopw [26] (fun j wq => ∃ (k1 : Nat) (L2 : List Bool), k1 ≤ nn ∧ j = .int .i64 (k1 : Int) ∧ Hid (RowsM wq W0.1.size w1.1.size nn nn L2) ∧ Hid (InitD a L2 i1 k1) ∧ Hid (Below W0.1.size W0 wq)) (fun j _ => nn - (intOf j).toNat)
    case atStart => exact ⟨0, L1, by omega, rfl, HM1, HI1, HB3⟩
    case round =>
     obtain ⟨k1, L2, hk1, rfl, HM2, HI2, HB4⟩ := hrel
     clear HM1 HI1 HB3
     by_cases hlt2 : k1 < nn
     ·have wk : IntKind.i64.wrap ((k1 : Int) + 1) = (k1 : Int) + 1 := by rw [wI]; omega
      have hj0 : (0 : Int) ≤ (k1 : Int) := by omega
      have hj2 : (k1 : Int) < (nn : Int) := by omega
      have hj3 : (k1 : Int) < 256 := by omega
      obtain ⟨s, hss⟩ : ∃ s : Nat, a.sets = (s : Int) := ⟨a.sets.toNat, by omega⟩
      obtain ⟨bx, ox, x, Ax, cx, hAn, hbx, hx, c0, c1, c2, c3, -⟩ := rd_aut HR0.out hlt
      obtain ⟨by_, oy, y, Ay, cy, hA2, -, hy, d0, d1, d2, d3, -⟩ := rd_aut HR0.out hlt2
      rw [hAn] at hA2
      cases hA2
      have hxi : a.at i1 = x := by unfold Aut.at; rw [gD, hx]; rfl
      have hyi : a.at k1 = y := by unfold Aut.at; rw [gD, hy]; rfl
      have hxm : x ∈ a.nodes := List.mem_of_getElem? hx
      have hym : y ∈ a.nodes := List.mem_of_getElem? hy
      have hcn := (Exists.choose_spec HR0.out.nodes).1.cap
      have hmn := (Exists.choose_spec HR0.out.nodes).1.max
      unfold maxLen at hmn
      have HAL := dh (fun W' => alone_any x y s Ax Ay x.to.length cx y.to.length cy W' ⟨(HND.out x hxm).1, (HND.out x hxm).2, HINN.out x hxm⟩ ⟨(HND.out y hym).1, (HND.out y hym).2, HINN.out y hym⟩ (by omega))
      have HPT : Hid (InitD a (L2.set (i1 * 256 + k1) (aloneB x y s)) i1 (k1 + 1)) := dh (by
       have h := HI2.out.put (by rw [← HNN.out]; exact hnn) (i := i1) (k := k1) (by rw [← HNN.out]; exact hlt) (by rw [← HNN.out]; exact hlt2)
       rwa [hxi, hyi, hss, tN] at h)
      have hb2 : bx < W0.1.size := by omega
      have HSC : Hid (∀ W', Below W0.1.size W0 W' → W'.cell? ⟨w.1.size, 0, none⟩ = some (.int .i64 (s : Int)) ∧ W'.cell? ⟨w.1.size, 2, none⟩ = some (.slice (some ⟨bx, ox, none⟩) nn cn) ∧ W'.cell? ⟨bx, ox + i1 * 4, none⟩ = some (.int .u64 (x.need : Int)) ∧ W'.cell? ⟨bx, ox + i1 * 4 + 1, none⟩ = some (.int .u64 (x.ban : Int)) ∧ W'.cell? ⟨bx, ox + i1 * 4 + 2, none⟩ = some (.int .u64 (x.inn : Int)) ∧ W'.cell? ⟨bx, ox + i1 * 4 + 3, none⟩ = some (.slice Ax x.to.length cx) ∧ W'.cell? ⟨bx, ox + k1 * 4, none⟩ = some (.int .u64 (y.need : Int)) ∧ W'.cell? ⟨bx, ox + k1 * 4 + 1, none⟩ = some (.int .u64 (y.ban : Int)) ∧ W'.cell? ⟨bx, ox + k1 * 4 + 2, none⟩ = some (.int .u64 (y.inn : Int)) ∧ W'.cell? ⟨bx, ox + k1 * 4 + 3, none⟩ = some (.slice Ay y.to.length cy)) := dh (fun W' hb => by
       obtain ⟨e0, -, e2⟩ := HCL.out W' hb
       rw [hss] at e0
       rw [hAn] at e2
       exact ⟨e0, e2, bC hb hb2 c0, bC hb hb2 c1, bC hb hb2 c2, bC hb hb2 c3,
        bC hb hb2 d0, bC hb hb2 d1, bC hb hb2 d2, bC hb hb2 d3⟩)
      generalize aloneB x y s = bv at *
      obtain ⟨s0, s1, s2, s3, s4, s5, s6, s7, s8, s9⟩ := HSC.out wr HB4.out
      clear c0 c1 c2 c3 d0 d1 d2 d3 hxi hyi hx hy hxm hym hss hAn
      go_upto_region 11 with fail
      refine wp_region_held_drew (S := fun w' => w'.cell? ⟨w.1.size, 0, none⟩ = some (.int .i64 (s : Int)) ∧ w'.cell? ⟨w.1.size, 2, none⟩ = some (.slice (some ⟨bx, ox, none⟩) nn cn) ∧ w'.cell? ⟨bx, ox + i1 * 4, none⟩ = some (.int .u64 (x.need : Int)) ∧ w'.cell? ⟨bx, ox + i1 * 4 + 1, none⟩ = some (.int .u64 (x.ban : Int)) ∧ w'.cell? ⟨bx, ox + i1 * 4 + 2, none⟩ = some (.int .u64 (x.inn : Int)) ∧ w'.cell? ⟨bx, ox + i1 * 4 + 3, none⟩ = some (.slice Ax x.to.length cx) ∧ w'.cell? ⟨bx, ox + k1 * 4, none⟩ = some (.int .u64 (y.need : Int)) ∧ w'.cell? ⟨bx, ox + k1 * 4 + 1, none⟩ = some (.int .u64 (y.ban : Int)) ∧ w'.cell? ⟨bx, ox + k1 * 4 + 2, none⟩ = some (.int .u64 (y.inn : Int)) ∧ w'.cell? ⟨bx, ox + k1 * 4 + 3, none⟩ = some (.slice Ay y.to.length cy)) (by kernel_rfl) ⟨s0, s1, s2, s3, s4, s5, s6, s7, s8, s9⟩ (fun hS => ?_)
      refine tkH 0 ?_
      refine tkH 1 ?_
      refine tkH 2 ?_
      refine tkH 3 ?_
      refine tkH 4 ?_
      refine tkH 5 ?_
      refine tkH 6 ?_
      refine tkH 7 ?_
      refine tkH 8 ?_
      refine tkH 9 ?_
      refine tkH 10 ?_
      refine tkH 11 ?_
      refine tkH 12 ?_
      refine tkH 13 ?_
      refine tkH 14 ?_
      refine tkH 16 ?_
      refine oneH 15 (fun K hK => ?_)
      go_simp
      refine (HAL.out _).mono ?_
      rintro e w3 ⟨rfl, hb3'⟩
      have hb3 : Below wr.1.size wr w3 := below_undrew hb3'
      have HM3 := dh (HM2.out.below hb3)
      have HB5 := dh (HB4.out.trans (hb3.mono HB4.out.size))
      clear hb3 hb3'
      dsimp only
      refine hK.out _ _ (HSC.out _ HB5.out) (fun hS => ?_)
      clear hK
      refine tkH 17 ?_
      refine oneH 18 (fun K hK => ?_)
      have qq := HM3.out.cell hlt (show k1 < 256 by omega)
      have ff := HM3.out.own.frozenAt (i1 * 256 + k1)
      have yl := (HM3.out.own.lt w1.1.size rfl).2
      have hgl := (HM3.out.own.lt w1.1.size rfl).1
      obtain ⟨w4, hw4⟩ := xQ (w3.setCell ⟨w1.1.size, i1 * 256 + k1, none⟩ (.bool bv))
      have HM4 : Hid (RowsM w4 W0.1.size w1.1.size nn nn (L2.set (i1 * 256 + k1) bv)) := dh (by rw [← hw4]; exact HM3.out.put _ _)
      have HB6 : Hid (Below W0.1.size W0 w4) := dh (by rw [← hw4]; exact HB5.out.setCell (p := ⟨w1.1.size, i1 * 256 + k1, none⟩) hgl _)
      go_simp
      try rw [hw4]
      refine hK.out _ _ (HSC.out _ HB6.out) (fun hS => ?_)
      clear hK
      refine wpAnyH_done (by kernel_rfl) ?_ _
      clear hS
      go_wp2_with fail
      go_roundw
      case rel => exact ⟨k1 + 1, _, by omega, congrArg (Value.int .i64) (by omega), HM4, HPT, HB6⟩
      case measure => simp [intOf]; omega
     ·have hkn : k1 = a.nodes.length := by rw [← HNN.out]; omega
      have HI3 : Hid (InitD a L2 (i1 + 1) 0) := dh (by have := HI2.out; rw [hkn] at this; exact this.row)
      have hle : ¬ (k1 : Int) < (nn : Int) := by omega
      clear hkn
      go_wp2_with fail
      go_roundw
      case rel => exact ⟨i1 + 1, L2, by omega, congrArg (Value.int .i64) (by omega), HM2, HI3, HB4⟩
      case measure => simp [intOf]; omega
   ·have hin : i1 = a.nodes.length := by rw [← HNN.out]; omega
    have HIV : Hid (InvD a L1) := dh (by have := HI1.out; rw [hin] at this; exact this.inv)
    have hle : ¬ (i1 : Int) < (nn : Int) := by omega
    clear hin
    go_wp2_with fail
    go_step3
    rename_i hKK
    refine hKK _ _ (HAG (cntB L1) _ _ ?_)
    exact ⟨w1.1.size, L1, rfl, HM1, HIV, HB3, rfl, rfl, rfl, rfl, rfl, rfl, rfl⟩
end Go.Proofs.YtiebpncpdbnelaaGreatDoor
