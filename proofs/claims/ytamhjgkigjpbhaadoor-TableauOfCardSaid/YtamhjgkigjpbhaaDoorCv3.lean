/- The walks of layer 28 (cover): with. -/
import Derived.Test.YtamhjgkigjpbhaaDoorCv2
import Derived.Test.YtamhjgkigjpbhaaDoorExtW
namespace Go.Proofs.YtamhjgkigjpbhaaDoor
open Go.RowKit

theorem icells_one' (l : List Int) : ∀ u ∈ icells l, u.oneCell' = true := by
  intro u hu
  obtain ⟨b, _, rfl⟩ := List.mem_map.1 hu
  rfl
set_option maxHeartbeats 2000000 in
set_option maxRecDepth 100000 in
theorem with_any (x : Way) (A1 : Option Addr) (c1 : Nat) (A2 : Option Addr) (c2 : Nat) (A3 : Option Addr) (c3 : Nat) (Ap : Option Addr) (cp : Nat) (ps : List Nat) (w : World) (h : WR w x A1 c1 A2 c2 A3 c3) (hp : Sl w w.heap.size 1 Ap ps.length cp (icells (natI ps))) (hpl : ps.length ≤ 1000000) (hl : x.todo.length ≤ 1000000) :
    Calls Tryd.prog 78 #[.agg #[.int .u64 (x.need : Int), .int .u64 (x.ban : Int), .slice A1 x.now.length c1, .slice A2 x.next.length c2, .slice A3 x.todo.length c3], .slice Ap ps.length cp] w (NewWay w (x.with_ ps)) := by
  have HC := Lib.hid (fun (w' : World) (hb : Below w.heap.size w w') => cloneInt_any Ap ps.length cp (icells (natI ps)) w' w.heap.size (hp.below hb (Nat.le_refl _)) (icells_one' _) hb.size (by omega))
  have HR := Lib.hid h
  clear h
  have HX := box5 w (.cells #[.int .u64 (x.need : Int), .int .u64 (x.ban : Int), .slice A1 x.now.length c1, .slice A2 x.next.length c2, .slice A3 x.todo.length c3] 100) (.cells #[.int .u64 0, .int .u64 0, .slice none 0 0, .slice none 0 0, .slice none 0 0] 100)
  obtain ⟨W0, hW0⟩ : ∃ W0, (w.alloc (.cells #[.int .u64 (x.need : Int), .int .u64 (x.ban : Int), .slice A1 x.now.length c1, .slice A2 x.next.length c2, .slice A3 x.todo.length c3] 100)).alloc (.cells #[.int .u64 0, .int .u64 0, .slice none 0 0, .slice none 0 0, .slice none 0 0] 100) = W0 := ⟨_, rfl⟩
  rw [hW0] at HX
  obtain ⟨hb0, hx0, hx1, hxz⟩ := HX
  have k4 : W0.cell? ⟨w.heap.size, 4, none⟩ = some (.slice A3 x.todo.length c3) := by rw [cell_of_row _ _ 4 _ _ (0, 0) hx0]; rfl
  have HW0 := Lib.hid hW0
  clear hW0
  go_enter Tryd.func78, Tryd.ntmps78
  go_wp2_with fail
  rw [HW0.out]
  refine wp_region_T (S := fun w' => w'.cell? ⟨w.heap.size, 4, none⟩ = some (.slice A3 x.todo.length c3)) 6 (by kernel_rfl) (k4) (fun hS => ?_)
  refine wpAnyT_takeD (i := 0) (v := ?_) rfl (by kernel_rfl) (by kernel_rfl) (by kernel_rfl) (by kernel_rfl) (fun _ _ _ h => h) (Or.inl ⟨by kernel_rfl, ?_⟩) hS ?_
  rotate_left 1
  · (intro w' hSw; (try dsimp only at hSw); go_simp; try (with_reducible rfl))
  try simp only [Act.put, List.setIfInBounds_toArray, List.set_cons_zero, List.set_cons_succ]
  refine wpAnyT_takeD (i := 2) (v := ?_) rfl (by kernel_rfl) (by kernel_rfl) (by kernel_rfl) (by kernel_rfl) (fun _ _ _ h => h) (Or.inl ⟨by kernel_rfl, ?_⟩) hS ?_
  rotate_left 1
  · (intro w' hSw; (try dsimp only at hSw); go_simp; try (with_reducible rfl))
  try simp only [Act.put, List.setIfInBounds_toArray, List.set_cons_zero, List.set_cons_succ]
  refine wpAnyT_takeD (i := 3) (v := ?_) rfl (by kernel_rfl) (by kernel_rfl) (by kernel_rfl) (by kernel_rfl) (fun _ _ _ h => h) (Or.inl ⟨by kernel_rfl, ?_⟩) hS ?_
  rotate_left 1
  · (intro w' hSw; (try dsimp only at hSw); go_simp; try (with_reducible rfl))
  try simp only [Act.put, List.setIfInBounds_toArray, List.set_cons_zero, List.set_cons_succ]
  refine wpAnyT_oneD (i := 1) rfl (by kernel_rfl) (by decide) (fun K hK => ?_)
  go_simp
  refine Calls.mono (HC.out _ hb0.drew) ?_
  rintro e w2 ⟨v1, rfl, ho1, hb2', -⟩
  rw [show (W0.drew).heap.size = w.heap.size + 2 from hxz] at ho1
  have hb2 : Below (w.heap.size + 2) W0 w2 := by
    have := below_undrew hb2'
    rwa [show (W0.drew).heap.size = w.heap.size + 2 from hxz] at this
  clear hb2'
  have hz2 := hb2.size
  rw [hxz] at hz2
  have e4 := (hb2.cell (p := ⟨w.heap.size, 4, none⟩) (show w.heap.size < w.heap.size + 2 by omega)).trans k4
  go_wp2_with fail
  refine hK.out _ _ e4 (fun hS => ?_)
  clear hK
  try simp only [Act.put, List.setIfInBounds_toArray, List.set_cons_zero, List.set_cons_succ]
  refine wpAnyT_oneD (i := 4) rfl (by kernel_rfl) (by decide) (fun K hK => ?_)
  refine step_extend rfl (.tmp 6) (.tmp 8) 25 rfl (w.heap.size + 2) 3 1 8 sliceInt v1 ps.length (icells (natI ps)) ho1 (by rfl) w.heap.size A3 x.todo.length c3 (icells (natI x.todo)) (by rfl) (HR.out.todo.sl.below (hb0.trans (hb2.mono (by omega))) (Nat.le_refl _)) (icells_one' _) (by omega) (by omega) (by omega) ?_
  intro v2 w3 ho3 ht3 _ _
  have hb3 : Below (w.heap.size + 2) W0 w3 := hb2.trans (ht3.below (by omega) (fun k hk e => by have := (ho1.lt k e).1; omega))
  have e5 := (hb3.cell (p := ⟨w.heap.size, 4, none⟩) (show w.heap.size < w.heap.size + 2 by omega)).trans k4
  have hz3 := hb3.size
  rw [hxz] at hz3
  refine hK.out _ _ e5 (fun hS => ?_)
  clear hK
  try simp only [Act.put, List.setIfInBounds_toArray, List.set_cons_zero, List.set_cons_succ]
  refine wpAnyT_takeD (i := 5) (v := ?_) rfl (by kernel_rfl) (by kernel_rfl) (by kernel_rfl) (by kernel_rfl) (fun _ _ _ h => h) (Or.inl ⟨by kernel_rfl, ?_⟩) hS ?_
  rotate_left 1
  · (intro w' hSw; (try dsimp only at hSw); go_simp; try (with_reducible rfl))
  try simp only [Act.put, List.setIfInBounds_toArray, List.set_cons_zero, List.set_cons_succ]
  obtain ⟨A, cap, rfl, ht⟩ := TSl.of_own ho3
  have q0 := (hb3.block w.heap.size (by omega)).trans hx0
  have q1 := (hb3.block (w.heap.size + 1) (by omega)).trans hx1
  have hb03 : Below w.heap.size w w3 := hb0.trans (hb3.mono (by omega))
  have HT := Lib.hid ht
  have HB := Lib.hid hb03
  have kf := frozen_of_row _ _ 4 _ _ q0
  have j0 : w3.cell? ⟨w.heap.size, 0, none⟩ = some (.int .u64 (x.need : Int)) := by rw [cell_of_row _ _ 0 _ _ (0, 0) q0]; rfl
  have j1 : w3.cell? ⟨w.heap.size, 1, none⟩ = some (.int .u64 (x.ban : Int)) := by rw [cell_of_row _ _ 1 _ _ (0, 0) q0]; rfl
  have j2 : w3.cell? ⟨w.heap.size, 2, none⟩ = some (.slice A1 x.now.length c1) := by rw [cell_of_row _ _ 2 _ _ (0, 0) q0]; rfl
  have j3 : w3.cell? ⟨w.heap.size, 3, none⟩ = some (.slice A2 x.next.length c2) := by rw [cell_of_row _ _ 3 _ _ (0, 0) q0]; rfl
  have Q0 := Lib.hid q0
  have Q1 := Lib.hid q1
  clear q0 q1 hb03 ht ho3 ht3 hb3 hb2 ho1 hb0 hx0 hx1
  have l0 := cell_of_row _ _ 0 _ _ (0, 0) Q1.out
  have l1 := cell_of_row _ _ 1 _ _ (0, 0) Q1.out
  have l2 := cell_of_row _ _ 2 _ _ (0, 0) Q1.out
  have l3 := cell_of_row _ _ 3 _ _ (0, 0) Q1.out
  have l4 := cell_of_row _ _ 4 _ _ (0, 0) Q1.out
  have lf0 := frozen_of_row _ _ 0 _ _ Q1.out
  have lf1 := frozen_of_row _ _ 1 _ _ Q1.out
  have lf2 := frozen_of_row _ _ 2 _ _ Q1.out
  have lf3 := frozen_of_row _ _ 3 _ _ Q1.out
  have lf4 := frozen_of_row _ _ 4 _ _ Q1.out
  simp only [List.getElem?_toArray, List.getElem?_cons_zero, List.getElem?_cons_succ] at l0 l1 l2 l3 l4
  refine wpAnyT_endD rfl (by kernel_rfl) (by kernel_rfl) (fun K hK => ?_)
  go_simp
  refine hK.out _ _ ?_
  clear hK
  go_wp2_with fail
  have Q1' := (Below.heap_setCell w3 ⟨w.heap.size, 4, none⟩ (.slice A (ps.length + x.todo.length) cap) (w.heap.size + 1) (show w.heap.size + 1 ≠ w.heap.size by omega)).trans Q1.out
  refine bodyPost_ret (v := .agg #[.int .u64 (x.need : Int), .int .u64 (x.ban : Int), .slice A1 x.now.length c1, .slice A2 x.next.length c2, .slice A (ps.length + x.todo.length) cap]) ?_ rfl ?_
  · obtain ⟨F, hF, f0, f1, f2, f3, f4⟩ := way_cells (a := .int .u64 (x.need : Int)) (b := .int .u64 (x.ban : Int)) (c := .slice A1 x.now.length c1) (d := .slice A2 x.next.length c2) (e := .slice A (ps.length + x.todo.length) cap) Q1' rfl
    rw [← hF]
    clear hF
    simp [results, Tryd.results78, go_sem, f0, f1, f2, f3, f4]
  · have hbV : Below w.heap.size w (w3.setCell ⟨w.heap.size, 4, none⟩ (.slice A (ps.length + x.todo.length) cap)) := HB.out.setCell (p := ⟨w.heap.size, 4, none⟩) (Nat.le_refl _) _
    refine way_end (x := x.with_ ps) Q1' rfl hbV (by omega) ⟨HR.out.now.below hbV, HR.out.next.below hbV, ?_⟩ rfl rfl (by simp [Way.with_]) rfl rfl
    have hk := HT.out.keep ((Tch.refl (fun k => k = w.heap.size) w3).setCell (p := ⟨w.heap.size, 4, none⟩) (fun _ => rfl) (.slice A (ps.length + x.todo.length) cap)) (spares_one Q0.out (by decide))
    simpa [Way.with_, natI_append, icells_append] using hk
end Go.Proofs.YtamhjgkigjpbhaaDoor
