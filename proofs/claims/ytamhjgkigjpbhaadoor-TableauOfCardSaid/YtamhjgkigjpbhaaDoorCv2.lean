/- The walks of layer 28 (cover): made, owing, with. -/
import Derived.Test.YtamhjgkigjpbhaaDoorCvW
import Derived.Test.YtamhjgkigjpbhaaDoorMd
namespace Go.Proofs.YtamhjgkigjpbhaaDoor
open Go.RowKit

set_option maxHeartbeats 2000000 in
set_option maxRecDepth 100000 in
theorem made_any (x : Way) (A1 : Option Addr) (c1 : Nat) (A2 : Option Addr) (c2 : Nat) (A3 : Option Addr) (c3 : Nat) (j : Nat) (w : World) (h : WR w x A1 c1 A2 c2 A3 c3) (hj : j < x.now.length) (hl : x.now.length ≤ 1000000) :
    Calls Tryd.prog 53 #[.agg #[.int .u64 (x.need : Int), .int .u64 (x.ban : Int), .slice A1 x.now.length c1, .slice A2 x.next.length c2, .slice A3 x.todo.length c3], .int .i64 (j : Int)] w (NewWay w { x with now := x.now.set j true }) := by
  have HC := Lib.hid (fun (w' : World) (hb : Below w.heap.size w w') => cloneB_any A1 x.now.length c1 (bcells x.now) w' w.heap.size (h.now.sl.below hb (Nat.le_refl _)) (bcells_one _) hb.size (by omega))
  have HR := Lib.hid h
  clear h
  go_enter Tryd.func53, Tryd.ntmps53
  go_wp2_with fail
  have HX := box5 w (.cells #[.int .u64 (x.need : Int), .int .u64 (x.ban : Int), .slice A1 x.now.length c1, .slice A2 x.next.length c2, .slice A3 x.todo.length c3] 100) (.cells #[.int .u64 0, .int .u64 0, .slice none 0 0, .slice none 0 0, .slice none 0 0] 100)
  refine Calls.mono (HC.out _ HX.1) ?_
  obtain ⟨hb0, hx0, hx1, hxz⟩ := HX
  rintro e w2 ⟨v1, rfl, ho1, hb2, -⟩
  rw [hxz] at ho1 hb2
  have hz2 := hb2.size
  rw [hxz] at hz2
  have q0 := (hb2.block w.heap.size (by omega)).trans hx0
  have q1 := (hb2.block (w.heap.size + 1) (by omega)).trans hx1
  have hb02 : Below w.heap.size w w2 := hb0.trans (hb2.mono (by omega))
  clear hb0 hx0 hx1 hxz hb2
  obtain ⟨g, cap, rfl, hg, hgl, hcap, -⟩ := own_form ho1 (by omega)
  have k0 : w2.cell? ⟨w.heap.size, 0, none⟩ = some (.int .u64 (x.need : Int)) := by rw [cell_of_row _ _ 0 _ _ (0, 0) q0]; rfl
  have k1 : w2.cell? ⟨w.heap.size, 1, none⟩ = some (.int .u64 (x.ban : Int)) := by rw [cell_of_row _ _ 1 _ _ (0, 0) q0]; rfl
  have k2 : w2.cell? ⟨w.heap.size, 2, none⟩ = some (.slice A1 x.now.length c1) := by rw [cell_of_row _ _ 2 _ _ (0, 0) q0]; rfl
  have k3 : w2.cell? ⟨w.heap.size, 3, none⟩ = some (.slice A2 x.next.length c2) := by rw [cell_of_row _ _ 3 _ _ (0, 0) q0]; rfl
  have k4 : w2.cell? ⟨w.heap.size, 4, none⟩ = some (.slice A3 x.todo.length c3) := by rw [cell_of_row _ _ 4 _ _ (0, 0) q0]; rfl
  have kf := frozen_of_row _ _ 2 _ _ q0
  have kg := ho1.cellAt j (by omega)
  rw [bcells_at hj] at kg
  have kgf := ho1.frozenAt j
  have hne : ¬ (g = w.heap.size) := by omega
  have hne1 : ¬ (w.heap.size = g) := by omega
  have HO := Lib.hid ho1
  have Q0 := Lib.hid q0
  have Q1 := Lib.hid q1
  have HB := Lib.hid hb02
  clear ho1 q0 q1 hb02
  have l0 := cell_of_row _ _ 0 _ _ (0, 0) Q1.out
  have l1 := cell_of_row _ _ 1 _ _ (0, 0) Q1.out
  have l2 := cell_of_row _ _ 2 _ _ (0, 0) Q1.out
  have l3 := cell_of_row _ _ 3 _ _ (0, 0) Q1.out
  have l4 := cell_of_row _ _ 4 _ _ (0, 0) Q1.out
  have lf0 := frozen_of_row _ _ 0 _ _ Q1.out
  have lf1 := frozen_of_row _ _ 1 _ _ Q1.out
  have lf2 := frozen_of_row _ _ 2 _ _ Q1.out
  have lf3 := frozen_of_row _ _ 3 _ _ Q1.out
  have lf4 := frozen_of_row _ _ 4 _ _ Q1.out
  simp only [List.getElem?_toArray, List.getElem?_cons_zero, List.getElem?_cons_succ] at l0 l1 l2 l3 l4
  go_wp2_with fail
  have Q1' := Below.heap_setCell _ ⟨g, j, none⟩ (.bool true) (w.heap.size + 1) (show w.heap.size + 1 ≠ g by omega) |>.trans (Below.heap_setCell w2 ⟨w.heap.size, 2, none⟩ (.slice (some ⟨g, 0, none⟩) x.now.length cap) (w.heap.size + 1) (show w.heap.size + 1 ≠ w.heap.size by omega)) |>.trans Q1.out
  refine bodyPost_ret (v := .agg #[.int .u64 (x.need : Int), .int .u64 (x.ban : Int), .slice (some ⟨g, 0, none⟩) x.now.length cap, .slice A2 x.next.length c2, .slice A3 x.todo.length c3]) ?_ rfl ?_
  · obtain ⟨F, hF, f0, f1, f2, f3, f4⟩ := way_cells (a := .int .u64 (x.need : Int)) (b := .int .u64 (x.ban : Int)) (c := .slice (some ⟨g, 0, none⟩) x.now.length cap) (d := .slice A2 x.next.length c2) (e := .slice A3 x.todo.length c3) Q1' rfl
    rw [← hF]
    clear hF
    simp [results, Tryd.results53, go_sem, f0, f1, f2, f3, f4]
  · have hbV : Below w.heap.size w ((w2.setCell ⟨w.heap.size, 2, none⟩ (.slice (some ⟨g, 0, none⟩) x.now.length cap)).setCell ⟨g, j, none⟩ (.bool true)) :=
      (HB.out.setCell (p := ⟨w.heap.size, 2, none⟩) (Nat.le_refl _) _).setCell (p := ⟨g, j, none⟩) (by show w.heap.size ≤ g; omega) _
    refine way_end (x := { x with now := x.now.set j true }) Q1' rfl hbV (by omega) ⟨?_, HR.out.next.below hbV, HR.out.todo.below hbV⟩ (by simp) rfl rfl rfl rfl
    have hs := ((ownsRow_setCell_below (a := ⟨w.heap.size, 2, none⟩) HO.out (by show w.heap.size < w.heap.size + 2; omega) (.slice (some ⟨g, 0, none⟩) x.now.length cap)).stored j (.bool true)).1
    obtain ⟨A, c, hv, ht⟩ := TSl.of_own hs
    cases hv
    simpa [bcells, List.map_set] using ht
set_option maxHeartbeats 2000000 in
set_option maxRecDepth 100000 in
theorem owing_any (x : Way) (A1 : Option Addr) (c1 : Nat) (A2 : Option Addr) (c2 : Nat) (A3 : Option Addr) (c3 : Nat) (j : Nat) (w : World) (h : WR w x A1 c1 A2 c2 A3 c3) (hj : j < x.next.length) (hl : x.next.length ≤ 1000000) :
    Calls Tryd.prog 79 #[.agg #[.int .u64 (x.need : Int), .int .u64 (x.ban : Int), .slice A1 x.now.length c1, .slice A2 x.next.length c2, .slice A3 x.todo.length c3], .int .i64 (j : Int)] w (NewWay w { x with next := x.next.set j true }) := by
  have HC := Lib.hid (fun (w' : World) (hb : Below w.heap.size w w') => cloneB_any A2 x.next.length c2 (bcells x.next) w' w.heap.size (h.next.sl.below hb (Nat.le_refl _)) (bcells_one _) hb.size (by omega))
  have HR := Lib.hid h
  clear h
  go_enter Tryd.func79, Tryd.ntmps79
  go_wp2_with fail
  have HX := box5 w (.cells #[.int .u64 (x.need : Int), .int .u64 (x.ban : Int), .slice A1 x.now.length c1, .slice A2 x.next.length c2, .slice A3 x.todo.length c3] 100) (.cells #[.int .u64 0, .int .u64 0, .slice none 0 0, .slice none 0 0, .slice none 0 0] 100)
  refine Calls.mono (HC.out _ HX.1) ?_
  obtain ⟨hb0, hx0, hx1, hxz⟩ := HX
  rintro e w2 ⟨v1, rfl, ho1, hb2, -⟩
  rw [hxz] at ho1 hb2
  have hz2 := hb2.size
  rw [hxz] at hz2
  have q0 := (hb2.block w.heap.size (by omega)).trans hx0
  have q1 := (hb2.block (w.heap.size + 1) (by omega)).trans hx1
  have hb02 : Below w.heap.size w w2 := hb0.trans (hb2.mono (by omega))
  clear hb0 hx0 hx1 hxz hb2
  obtain ⟨g, cap, rfl, hg, hgl, hcap, -⟩ := own_form ho1 (by omega)
  have k0 : w2.cell? ⟨w.heap.size, 0, none⟩ = some (.int .u64 (x.need : Int)) := by rw [cell_of_row _ _ 0 _ _ (0, 0) q0]; rfl
  have k1 : w2.cell? ⟨w.heap.size, 1, none⟩ = some (.int .u64 (x.ban : Int)) := by rw [cell_of_row _ _ 1 _ _ (0, 0) q0]; rfl
  have k2 : w2.cell? ⟨w.heap.size, 2, none⟩ = some (.slice A1 x.now.length c1) := by rw [cell_of_row _ _ 2 _ _ (0, 0) q0]; rfl
  have k3 : w2.cell? ⟨w.heap.size, 3, none⟩ = some (.slice A2 x.next.length c2) := by rw [cell_of_row _ _ 3 _ _ (0, 0) q0]; rfl
  have k4 : w2.cell? ⟨w.heap.size, 4, none⟩ = some (.slice A3 x.todo.length c3) := by rw [cell_of_row _ _ 4 _ _ (0, 0) q0]; rfl
  have kf := frozen_of_row _ _ 3 _ _ q0
  have kg := ho1.cellAt j (by omega)
  rw [bcells_at hj] at kg
  have kgf := ho1.frozenAt j
  have hne : ¬ (g = w.heap.size) := by omega
  have hne1 : ¬ (w.heap.size = g) := by omega
  have HO := Lib.hid ho1
  have Q0 := Lib.hid q0
  have Q1 := Lib.hid q1
  have HB := Lib.hid hb02
  clear ho1 q0 q1 hb02
  have l0 := cell_of_row _ _ 0 _ _ (0, 0) Q1.out
  have l1 := cell_of_row _ _ 1 _ _ (0, 0) Q1.out
  have l2 := cell_of_row _ _ 2 _ _ (0, 0) Q1.out
  have l3 := cell_of_row _ _ 3 _ _ (0, 0) Q1.out
  have l4 := cell_of_row _ _ 4 _ _ (0, 0) Q1.out
  have lf0 := frozen_of_row _ _ 0 _ _ Q1.out
  have lf1 := frozen_of_row _ _ 1 _ _ Q1.out
  have lf2 := frozen_of_row _ _ 2 _ _ Q1.out
  have lf3 := frozen_of_row _ _ 3 _ _ Q1.out
  have lf4 := frozen_of_row _ _ 4 _ _ Q1.out
  simp only [List.getElem?_toArray, List.getElem?_cons_zero, List.getElem?_cons_succ] at l0 l1 l2 l3 l4
  go_wp2_with fail
  have Q1' := Below.heap_setCell _ ⟨g, j, none⟩ (.bool true) (w.heap.size + 1) (show w.heap.size + 1 ≠ g by omega) |>.trans (Below.heap_setCell w2 ⟨w.heap.size, 3, none⟩ (.slice (some ⟨g, 0, none⟩) x.next.length cap) (w.heap.size + 1) (show w.heap.size + 1 ≠ w.heap.size by omega)) |>.trans Q1.out
  refine bodyPost_ret (v := .agg #[.int .u64 (x.need : Int), .int .u64 (x.ban : Int), .slice A1 x.now.length c1, .slice (some ⟨g, 0, none⟩) x.next.length cap, .slice A3 x.todo.length c3]) ?_ rfl ?_
  · obtain ⟨F, hF, f0, f1, f2, f3, f4⟩ := way_cells (a := .int .u64 (x.need : Int)) (b := .int .u64 (x.ban : Int)) (c := .slice A1 x.now.length c1) (d := .slice (some ⟨g, 0, none⟩) x.next.length cap) (e := .slice A3 x.todo.length c3) Q1' rfl
    rw [← hF]
    clear hF
    simp [results, Tryd.results79, go_sem, f0, f1, f2, f3, f4]
  · have hbV : Below w.heap.size w ((w2.setCell ⟨w.heap.size, 3, none⟩ (.slice (some ⟨g, 0, none⟩) x.next.length cap)).setCell ⟨g, j, none⟩ (.bool true)) :=
      (HB.out.setCell (p := ⟨w.heap.size, 3, none⟩) (Nat.le_refl _) _).setCell (p := ⟨g, j, none⟩) (by show w.heap.size ≤ g; omega) _
    refine way_end (x := { x with next := x.next.set j true }) Q1' rfl hbV (by omega) ⟨HR.out.now.below hbV, ?_, HR.out.todo.below hbV⟩ rfl (by simp) rfl rfl rfl
    have hs := ((ownsRow_setCell_below (a := ⟨w.heap.size, 3, none⟩) HO.out (by show w.heap.size < w.heap.size + 2; omega) (.slice (some ⟨g, 0, none⟩) x.next.length cap)).stored j (.bool true)).1
    obtain ⟨A, c, hv, ht⟩ := TSl.of_own hs
    cases hv
    simpa [bcells, List.map_set] using ht
end Go.Proofs.YtamhjgkigjpbhaaDoor
