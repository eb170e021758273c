/- The walk of layer 27: Norm. -/
import Derived.Test.YtkikkplpalabhaaWdM
import Derived.Test.YtkikkplpalabhaaMd
import Derived.Test.YtkikkplpalabhaaWk11
namespace Go.Proofs.Ytkikkplpalabhaa
open Go.RowKit

/-- A new word. -/
def NewWord (w : World) (p : List Int × List Int) (en : Ending) (w' : World) : Prop :=
  ∃ v1 v2, en = .returned (.agg #[v1, v2]) ∧ w'.ownsRow w.heap.size 38 1 v1 p.1.length (ucells p.1) ∧ w'.ownsRow w.heap.size 38 1 v2 p.2.length (ucells p.2) ∧ Below w.heap.size w w'
theorem own_belW {w w' : World} {base e size n : Nat} {v : Value} {xs : List Value} {B : Nat} (hb : Below B w w') (hB : w.heap.size ≤ B) (h : w.ownsRow base e size v n xs) : w'.ownsRow base e size v n xs :=
  own_tch h (Tch.of_below hb) (fun g hg => by have := (h.lt g hg).2; omega)
theorem word_set {w : World} {g T : Nat} {a b x y : Value} (h : w.heap[g]? = some (.cells #[a, b] T (0, 0))) : ((w.setCell ⟨g, 0, none⟩ x).setCell ⟨g, 1, none⟩ y).cell? ⟨g, 0, none⟩ = some x ∧ ((w.setCell ⟨g, 0, none⟩ x).setCell ⟨g, 1, none⟩ y).cell? ⟨g, 1, none⟩ = some y := by
  have h1 := heap_setCell_same w g 0 _ _ x h
  have h2 := heap_setCell_same _ g 1 _ _ y h1
  exact ⟨by rw [cell_of_row _ _ _ _ _ (0, 0) h2]; rfl, by rw [cell_of_row _ _ _ _ _ (0, 0) h2]; rfl⟩
theorem nword_end {w w7 : World} {B B' n1 n2 n1' n2' rb : Nat} {v1 v2 : Value} {p : List Int × List Int} (h : w7.ownsRow B 38 1 v1 n1 (ucells p.1)) (h' : w7.ownsRow B 38 1 v2 n2 (ucells p.2)) (hb : Below B' w w7) (hB' : w.heap.size ≤ B') (hrb : w.heap.size ≤ rb) (hrB : rb < B) (e1 : n1 = p.1.length) (e2 : n2 = p.2.length) (hn : n1' = n1) (hn' : n2' = n2) :
    NewWord w p (.returned (.agg #[v1, v2])) ((w7.setCell ⟨rb, 0, none⟩ v1).setCell ⟨rb, 1, none⟩ v2) := by
  subst e1 e2 hn hn'
  refine ⟨v1, v2, rfl, ?_, ?_, ?_⟩
  · exact own_base (ownsRow_setCell_below (a := ⟨rb, 1, none⟩) (ownsRow_setCell_below (a := ⟨rb, 0, none⟩) h hrB _) hrB _) (by omega)
  · exact own_base (ownsRow_setCell_below (a := ⟨rb, 1, none⟩) (ownsRow_setCell_below (a := ⟨rb, 0, none⟩) h' hrB _) hrB _) (by omega)
  · exact ((hb.mono hB').setCell (p := ⟨rb, 0, none⟩) hrb _).setCell (p := ⟨rb, 1, none⟩) hrb _
/-- A word's box, and the answer's. -/
theorem box2 (w : World) (x y : Obj) : Below w.heap.size w ((w.alloc x).alloc y) ∧ ((w.alloc x).alloc y).heap[w.heap.size]? = some x ∧ ((w.alloc x).alloc y).heap[w.heap.size + 1]? = some y ∧ ((w.alloc x).alloc y).heap.size = w.heap.size + 2 := by
  refine ⟨((Below.refl _ _).alloc (Nat.le_refl _) _).alloc (by simp) _, ?_, ?_, by simp⟩
  · rw [Below.heap_alloc _ _ _ (by simp)]; exact heap_alloc_new w x
  · have := heap_alloc_new (w.alloc x) y
    rwa [show (w.alloc x).heap.size = w.heap.size + 1 by simp] at this
set_option maxHeartbeats 8000000 in
set_option maxRecDepth 100000 in
theorem pNorm_any (A1 A2 : Option Addr) (n1 c1 n2 c2 : Nat) (st lo : List Int) (w : World) (B : Nat) (h : WRd w B A1 A2 n1 c1 n2 c2 st lo) (hB : B ≤ w.heap.size) (hl : n1 + n2 ≤ 60000) :
    Calls Try.prog 40 #[.agg #[.slice A1 n1 c1, .slice A2 n2 c2]] w (NewWord w (normP st lo)) := by
  have HX := Lib.hid (box2 w (.cells #[.slice A1 n1 c1, .slice A2 n2 c2] 34) (.cells #[.slice none 0 0, .slice none 0 0] 34))
  have HC := Lib.hid (fun (w' : World) => pCheck_any A1 A2 n1 c1 n2 c2 st lo w' h.l1 h.l2 hl)
  have hcap1 := h.s1.cap
  have hcap2 := h.s2.cap
  have hmx1 : c1 ≤ 9223372036854775807 := by have := h.s1.max; unfold maxLen at this; omega
  have hmx2 : c2 ≤ 9223372036854775807 := by have := h.s2.max; unfold maxLen at this; omega
  by_cases h0 : n2 = 0
  · have hlo : lo = [] := List.eq_nil_of_length_eq_zero (by have := h.l2; omega)
    have hN : normP st lo = (st, lo) := by rw [normP, if_pos hlo]
    rw [hN]
    have hC := HC.out
    rw [if_pos h0] at hC
    have HC0 := Lib.hid hC
    have HWR := Lib.hid h
    have hl1 := h.l1
    have hl2 := h.l2
    clear hN h h0 hC hlo
    have HL1 := Lib.hid hl1
    have HL2 := Lib.hid hl2
    clear hl1 hl2
    go_enter Try.func40, Try.ntmps40
    go_wp2_with fail
    refine Calls.mono (HC0.out _) ?_
    rintro e wa ⟨rfl, hba⟩
    obtain ⟨hb0, hx0, hx1, hxz⟩ := HX.out
    rw [hxz] at hba
    have HR := Lib.hid ((hba.block (w.heap.size + 1) (by omega)).trans hx1)
    have j0 : wa.cell? ⟨w.heap.size, 0, none⟩ = some (.slice A1 n1 c1) := by rw [cell_of_row _ _ 0 _ _ (0, 0) ((hba.block w.heap.size (by omega)).trans hx0)]; rfl
    have j1 : wa.cell? ⟨w.heap.size, 1, none⟩ = some (.slice A2 n2 c2) := by rw [cell_of_row _ _ 1 _ _ (0, 0) ((hba.block w.heap.size (by omega)).trans hx0)]; rfl
    have hz1 : w.heap.size + 1 < wa.heap.size := by have := hba.size; omega
    have hz0 : w.heap.size < wa.heap.size := by omega
    have hb : Below w.heap.size w wa := hb0.trans (hba.mono (by omega))
    have hr := (HWR.out.below hb hB)
    have hC1 := fun (w' : World) (hb' : Below wa.heap.size wa w') => cloneU_any A1 n1 c1 (ucells st) w' wa.heap.size (hr.s1.below hb' (by omega) |>.up (by omega)) (ucells_one _) hb'.size (by omega)
    have hC2 := fun (w' : World) (hb' : Below wa.heap.size wa w') => cloneU_any A2 n2 c2 (ucells lo) w' wa.heap.size (hr.s2.below hb' (by omega) |>.up (by omega)) (ucells_one _) hb'.size (by omega)
    have HC1 := Lib.hid hC1
    have HC2 := Lib.hid hC2
    clear hC1 hC2 hx0 hx1 hxz hba hb0
    go_wp2_with fail
    refine wp_region_T (S := fun w' => w'.cell? ⟨w.heap.size, 0, none⟩ = some (.slice A1 n1 c1) ∧ w'.cell? ⟨w.heap.size, 1, none⟩ = some (.slice A2 n2 c2)) 7 (by kernel_rfl) ⟨j0, j1⟩ (fun hS => ?_)
    refine wpAnyT_takeD (i := 0) (v := ?_) rfl (by kernel_rfl) (by kernel_rfl) (by kernel_rfl) (by kernel_rfl) (fun _ _ _ h => h) (Or.inl ⟨by kernel_rfl, ?_⟩) hS ?_
    rotate_left 1
    · (intro w' hSw; (try dsimp only at hSw); go_simp; try (with_reducible rfl))
    try simp only [Act.put, List.setIfInBounds_toArray, List.set_cons_zero, List.set_cons_succ]
    refine wpAnyT_takeD (i := 1) (v := ?_) rfl (by kernel_rfl) (by kernel_rfl) (by kernel_rfl) (by kernel_rfl) (fun _ _ _ h => h) (Or.inl ⟨by kernel_rfl, ?_⟩) hS ?_
    rotate_left 1
    · (intro w' hSw; (try dsimp only at hSw); go_simp; try (with_reducible rfl))
    try simp only [Act.put, List.setIfInBounds_toArray, List.set_cons_zero, List.set_cons_succ]
    refine wpAnyT_takeD (i := 3) (v := ?_) rfl (by kernel_rfl) (by kernel_rfl) (by kernel_rfl) (by kernel_rfl) (fun _ _ _ h => h) (Or.inl ⟨by kernel_rfl, ?_⟩) hS ?_
    rotate_left 1
    · (intro w' hSw; (try dsimp only at hSw); go_simp; try (with_reducible rfl))
    try simp only [Act.put, List.setIfInBounds_toArray, List.set_cons_zero, List.set_cons_succ]
    refine wpAnyT_takeD (i := 4) (v := ?_) rfl (by kernel_rfl) (by kernel_rfl) (by kernel_rfl) (by kernel_rfl) (fun _ _ _ h => h) (Or.inl ⟨by kernel_rfl, ?_⟩) hS ?_
    rotate_left 1
    · (intro w' hSw; (try dsimp only at hSw); go_simp; try (with_reducible rfl))
    try simp only [Act.put, List.setIfInBounds_toArray, List.set_cons_zero, List.set_cons_succ]
    refine wpAnyT_oneD (i := 2) rfl (by kernel_rfl) (by decide) (fun K hK => ?_)
    go_simp
    refine Calls.mono (HC1.out _ (Below.refl _ _).drew) ?_
    rintro e w6 ⟨v1, rfl, ho1, hb6', -⟩
    obtain ⟨A6, c6, rfl, -⟩ := own_sl ho1
    have hb6 : Below wa.heap.size wa w6 := below_undrew hb6'
    clear hb6'
    have k0 := (hb6.cell (p := ⟨w.heap.size, 0, none⟩) hz0).trans j0
    have k1 := (hb6.cell (p := ⟨w.heap.size, 1, none⟩) hz0).trans j1
    have hm6 := hb6.size
    go_wp2_with fail
    refine hK.out _ _ ⟨k0, k1⟩ (fun hS => ?_)
    clear hK
    try simp only [Act.put, List.setIfInBounds_toArray, List.set_cons_zero, List.set_cons_succ]
    refine wpAnyT_oneD (i := 5) rfl (by kernel_rfl) (by decide) (fun K hK => ?_)
    go_simp
    refine Calls.mono (HC2.out _ hb6) ?_
    rintro e w7 ⟨v2, rfl, ho2, hb7, -⟩
    obtain ⟨A7, c7, rfl, -⟩ := own_sl ho2
    have q0 := (hb7.cell (p := ⟨w.heap.size, 0, none⟩) (show w.heap.size < w6.heap.size by omega)).trans k0
    have q1 := (hb7.cell (p := ⟨w.heap.size, 1, none⟩) (show w.heap.size < w6.heap.size by omega)).trans k1
    have hw7 := hb6.trans (hb7.mono hm6)
    have hr7 := (hb7.block (w.heap.size + 1) (by omega)).trans ((hb6.block (w.heap.size + 1) hz1).trans HR.out)
    have hf0 := frozen_of_row _ _ 0 _ _ hr7
    have hf1 := frozen_of_row _ _ 1 _ _ hr7
    have hg0 : w7.cell? ⟨w.heap.size + 1, 0, none⟩ = some (.slice none 0 0) := by rw [cell_of_row _ _ 0 _ _ (0, 0) hr7]; rfl
    have hg1 : w7.cell? ⟨w.heap.size + 1, 1, none⟩ = some (.slice none 0 0) := by rw [cell_of_row _ _ 1 _ _ (0, 0) hr7]; rfl
    go_wp2_with fail
    refine hK.out _ _ ⟨q0, q1⟩ (fun hS => ?_)
    clear hK
    try simp only [Act.put, List.setIfInBounds_toArray, List.set_cons_zero, List.set_cons_succ]
    refine wpAnyT_takeD (i := 6) (v := ?_) rfl (by kernel_rfl) (by kernel_rfl) (by kernel_rfl) (by kernel_rfl) (fun _ _ _ h => h) (Or.inl ⟨by kernel_rfl, ?_⟩) hS ?_
    rotate_left 1
    · (intro w' hSw; (try dsimp only at hSw); go_simp; try (with_reducible rfl))
    try simp only [Act.put, List.setIfInBounds_toArray, List.set_cons_zero, List.set_cons_succ]
    refine wpAnyT_endD rfl (by kernel_rfl) (by kernel_rfl) (fun K hK => ?_)
    go_simp
    refine hK.out _ _ ?_
    clear hK
    go_wp2_with fail
    refine bodyPost_ret (v := .agg #[.slice A6 n1 c6, .slice A7 n2 c7]) ?_ rfl ?_
    · obtain ⟨f0, f1⟩ := word_set (x := .slice A6 n1 c6) (y := .slice A7 n2 c7) hr7
      simp [results, Try.results40, go_sem, f0, f1]
    · exact nword_end (h := own_belW hb7 (Nat.le_refl _) ho1) (h' := own_base ho2 hm6) (hb.trans (hw7.mono (by omega))) (Nat.le_refl _) (by omega) hz1 HL1.out HL2.out rfl rfl
  have hC := HC.out
  rw [if_neg h0] at hC
  have HC0 := Lib.hid hC
  have HWR := Lib.hid h
  have hlo0 : lo ≠ [] := fun e => h0 (by have := h.l2; rw [e] at this; simpa using this)
  have hN : normP st lo = normL st lo := by rw [normP, if_neg hlo0]
  rw [hN]
  have hpl := (period_spec hlo0).2.1
  obtain ⟨p, HPL⟩ : ∃ p, Hid (p = periodL lo) := ⟨_, Lib.hid rfl⟩
  have hp1 : 1 ≤ p := by rw [HPL.out]; exact (period_spec hlo0).1
  have hpn : p ≤ n2 := by rw [HPL.out, h.l2]; exact hpl
  have HL1 := Lib.hid h.l1
  have HL2 := Lib.hid h.l2
  clear hN h h0 hC hpl
  go_enter Try.func40, Try.ntmps40
  go_wp2_with fail
  refine Calls.mono (HC0.out _) ?_
  rintro e w1 ⟨rfl, hba⟩
  obtain ⟨hb0, hx0, hx1, hxz⟩ := HX.out
  rw [hxz] at hba
  have HR1 := Lib.hid ((hba.block (w.heap.size + 1) (by omega)).trans hx1)
  have j0 : w1.cell? ⟨w.heap.size, 0, none⟩ = some (.slice A1 n1 c1) := by rw [cell_of_row _ _ 0 _ _ (0, 0) ((hba.block w.heap.size (by omega)).trans hx0)]; rfl
  have j1 : w1.cell? ⟨w.heap.size, 1, none⟩ = some (.slice A2 n2 c2) := by rw [cell_of_row _ _ 1 _ _ (0, 0) ((hba.block w.heap.size (by omega)).trans hx0)]; rfl
  have hz1 : w.heap.size + 1 < w1.heap.size := by have := hba.size; omega
  have hz0 : w.heap.size < w1.heap.size := by omega
  have hb1 : Below w.heap.size w w1 := hb0.trans (hba.mono (by omega))
  have HRD := Lib.hid (HWR.out.below hb1 hB |>.up hB)
  have hP := fun (w' : World) (hb' : Below w1.heap.size w1 w') => period_any A2 n2 c2 lo w' w.heap.size (HRD.out.s2.below hb' (by omega)) HL2.out (by omega)
  have HP := Lib.hid (fun (w' : World) (hb' : Below w1.heap.size w1 w') => by have := hP w' hb'; rw [← HPL.out] at this; exact this)
  have i5 : (p : Int) ≤ (c2 : Int) := by omega
  have i6 : p ≤ c2 := by omega
  clear hP hx0 hx1 hxz hba hb0 hpn
  go_wp2_with fail
  refine wp_region_held_drew (S := fun w' => w'.cell? ⟨w.heap.size, 0, none⟩ = some (.slice A1 n1 c1) ∧ w'.cell? ⟨w.heap.size, 1, none⟩ = some (.slice A2 n2 c2)) (by kernel_rfl) ⟨j0, j1⟩ (fun hS => ?_)
  refine wpAnyH_takeD (i := 0) (v := ?_) rfl (by kernel_rfl) (by kernel_rfl) (by kernel_rfl) (fun _ _ _ h => h) (Or.inl ⟨by kernel_rfl, ?_⟩) hS ?_
  rotate_left 1
  · (intro w' hSw; (try dsimp only at hSw); go_simp; try (with_reducible rfl))
  try simp only [Act.put, List.setIfInBounds_toArray, List.set_cons_zero, List.set_cons_succ]
  refine wpAnyH_takeD (i := 1) (v := ?_) rfl (by kernel_rfl) (by kernel_rfl) (by kernel_rfl) (fun _ _ _ h => h) (Or.inl ⟨by kernel_rfl, ?_⟩) hS ?_
  rotate_left 1
  · (intro w' hSw; (try dsimp only at hSw); go_simp; try (with_reducible rfl))
  try simp only [Act.put, List.setIfInBounds_toArray, List.set_cons_zero, List.set_cons_succ]
  refine wpAnyH_takeD (i := 2) (v := ?_) rfl (by kernel_rfl) (by kernel_rfl) (by kernel_rfl) (fun _ _ _ h => h) (Or.inl ⟨by kernel_rfl, ?_⟩) hS ?_
  rotate_left 1
  · (intro w' hSw; (try dsimp only at hSw); go_simp; try (with_reducible rfl))
  try simp only [Act.put, List.setIfInBounds_toArray, List.set_cons_zero, List.set_cons_succ]
  refine wpAnyH_takeD (i := 3) (v := ?_) rfl (by kernel_rfl) (by kernel_rfl) (by kernel_rfl) (fun _ _ _ h => h) (Or.inl ⟨by kernel_rfl, ?_⟩) hS ?_
  rotate_left 1
  · (intro w' hSw; (try dsimp only at hSw); go_simp; try (with_reducible rfl))
  try simp only [Act.put, List.setIfInBounds_toArray, List.set_cons_zero, List.set_cons_succ]
  refine wpAnyH_oneD (i := 4) rfl (by kernel_rfl) (fun K hK => ?_)
  go_simp
  refine Calls.mono (HP.out _ (Below.refl _ _).drew) ?_
  rintro e _ ⟨rfl, m, rfl⟩
  obtain ⟨w4, hw4⟩ : ∃ W, W = w1.drew.drewN m := ⟨_, rfl⟩
  rw [← hw4]
  have hb4 : Below w1.heap.size w1 w4 := by rw [hw4]; exact below_drewN ((Below.refl _ _).drew) m
  clear hw4
  have k0 := (hb4.cell (p := ⟨w.heap.size, 0, none⟩) hz0).trans j0
  have k1 := (hb4.cell (p := ⟨w.heap.size, 1, none⟩) hz0).trans j1
  go_wp2_with fail
  refine hK.out _ _ ⟨k0, k1⟩ (fun hS => ?_)
  clear hK
  try simp only [Act.put, List.setIfInBounds_toArray, List.set_cons_zero, List.set_cons_succ]
  refine wpAnyH_takeD (i := 5) (v := ?_) rfl (by kernel_rfl) (by kernel_rfl) (by kernel_rfl) (fun _ _ _ h => h) (Or.inl ⟨by kernel_rfl, ?_⟩) hS ?_
  rotate_left 1
  · (intro w' hSw; (try dsimp only at hSw); go_simp; try (with_reducible rfl))
  try simp only [Act.put, List.setIfInBounds_toArray, List.set_cons_zero, List.set_cons_succ]
  refine wpAnyH_takeD (i := 6) (v := ?_) rfl (by kernel_rfl) (by kernel_rfl) (by kernel_rfl) (fun _ _ _ h => h) (Or.inl ⟨by kernel_rfl, ?_⟩) hS ?_
  rotate_left 1
  · (intro w' hSw; (try dsimp only at hSw); go_simp; try (with_reducible rfl))
  try simp only [Act.put, List.setIfInBounds_toArray, List.set_cons_zero, List.set_cons_succ]
  refine wpAnyH_done (by kernel_rfl) ?_ _
  have hpn : p ≤ n2 := by have := (period_spec hlo0).2.1; rw [← HPL.out] at this; rw [HL2.out]; exact this
  have hz4 := hb4.size
  clear i5 i6
  go_wp2_with fail
  go_loopw [4, 5] (fun x y wr => ∃ m a : Nat, x = .int .i64 m ∧ y = .int .i64 a ∧ Hid (NI st lo m a) ∧ Below w4.heap.size w4 wr) (fun x _ _ => (intOf x).toNat)
  case atStart => exact ⟨n1, 0, rfl, rfl, Lib.hid (by rw [HL1.out]; exact NI.start hlo0), Below.refl _ _⟩
  case round =>
    obtain ⟨m, a, rfl, rfl, HI, hbr⟩ := hrel
    rename_i wr
    have hi := HI.out
    have hbz := hbr.size
    have hb : Below w.heap.size w wr := hb1.trans ((hb4.mono (by omega)).trans (hbr.mono (by omega)))
    have HR := Lib.hid ((hbr.block (w.heap.size + 1) (by omega)).trans ((hb4.block (w.heap.size + 1) (by omega)).trans HR1.out))
    have j0 : wr.cell? ⟨w.heap.size, 0, none⟩ = some (.slice A1 n1 c1) := (hbr.cell (p := ⟨w.heap.size, 0, none⟩) (show w.heap.size < w4.heap.size by omega)).trans ((hb4.cell (p := ⟨w.heap.size, 0, none⟩) (show w.heap.size < w1.heap.size by omega)).trans j0)
    have j1 : wr.cell? ⟨w.heap.size, 1, none⟩ = some (.slice A2 n2 c2) := (hbr.cell (p := ⟨w.heap.size, 1, none⟩) (show w.heap.size < w4.heap.size by omega)).trans ((hb4.cell (p := ⟨w.heap.size, 1, none⟩) (show w.heap.size < w1.heap.size by omega)).trans j1)
    have hr : WRd wr wr.heap.size A1 A2 n1 c1 n2 c2 st lo := (HWR.out.below hb hB).up (by omega)
    have hz1 : w.heap.size + 1 < wr.heap.size := by omega
    have hz0 : w.heap.size < wr.heap.size := by omega
    have hml := hi.le
    have hal := hi.lt
    rw [← HPL.out] at hal
    have HML := Lib.hid hml
    by_cases hm0 : m = 0
    · have hs : stemN st lo = m := by rw [hm0]; rw [hm0] at hi; exact hi.zero
      have d0 : ¬ 0 < m := by omega
      have hst := NI.stem hi hs
      have hlo := NI.loop hlo0 hi hs
      have hml := hi.le
      have hal := hi.lt
      rw [← HPL.out] at hlo hal
      have hC1 := fun (w' : World) (hb' : Below wr.heap.size wr w') => cloneU_any A1 m c1 (ucells (st.take m)) w' wr.heap.size (by have := (hr.s1.below hb' (Nat.le_refl _)).take (k := m) (by have := hr.l1; omega); rw [← ucells_take] at this; exact this) (ucells_one _) hb'.size (by have := hr.l1; omega)
      have hC2 := fun (w' : World) (hb' : Below wr.heap.size wr w') => turned_any A2 p c2 a (lo.take p) w' wr.heap.size (by have := (hr.s2.below hb' (Nat.le_refl _)).take (k := p) (by omega); rw [← ucells_take] at this; exact this) (by simp; have := hr.l2; omega) hal hb'.size (by omega)
      have HE1 : Hid (m = (normL st lo).1.length) := Lib.hid (by rw [hst, List.length_take]; omega)
      have HE2 : Hid (p = (normL st lo).2.length) := Lib.hid (by rw [hlo]; simp only [List.length_append, List.length_drop, List.length_take]; have := HL2.out; omega)
      rw [← hst] at hC1
      rw [← hlo] at hC2
      have HC1 := Lib.hid hC1
      have HC2 := Lib.hid hC2
      have i1 : (m : Int) ≤ (c1 : Int) := by have := HML.out; have := HL1.out; omega
      have i2 : m ≤ c1 := by have := HML.out; have := HL1.out; omega
      have i5 : (p : Int) ≤ (c2 : Int) := by omega
      clear hst hlo hm0 hs hi hr hbz hbr hal hpn hz4 hb4 hC1 hC2 hml
      go_wp2_with fail
      refine wp_region_held_drew (S := fun w' => True) (by kernel_rfl) trivial (fun hS => ?_)
      refine wpAnyH_takeD (i := 0) (v := ?_) rfl (by kernel_rfl) (by kernel_rfl) (by kernel_rfl) (fun _ _ _ h => h) (Or.inl ⟨by kernel_rfl, ?_⟩) hS ?_
      rotate_left 1
      · (intro w' hSw; (try dsimp only at hSw); go_simp; try (with_reducible rfl))
      try simp only [Act.put, List.setIfInBounds_toArray, List.set_cons_zero, List.set_cons_succ]
      refine wpAnyH_takeD (i := 1) (v := ?_) rfl (by kernel_rfl) (by kernel_rfl) (by kernel_rfl) (fun _ _ _ h => h) (Or.inl ⟨by kernel_rfl, ?_⟩) hS ?_
      rotate_left 1
      · (intro w' hSw; (try dsimp only at hSw); go_simp; try (with_reducible rfl))
      try simp only [Act.put, List.setIfInBounds_toArray, List.set_cons_zero, List.set_cons_succ]
      refine wpAnyH_takeD (i := 2) (v := ?_) rfl (by kernel_rfl) (by kernel_rfl) (by kernel_rfl) (fun _ _ _ h => h) (Or.inl ⟨by kernel_rfl, ?_⟩) hS ?_
      rotate_left 1
      · (intro w' hSw; (try dsimp only at hSw); go_simp; try (with_reducible rfl))
      try simp only [Act.put, List.setIfInBounds_toArray, List.set_cons_zero, List.set_cons_succ]
      refine wpAnyH_takeD (i := 3) (v := undef) rfl (by kernel_rfl) (by kernel_rfl) (by kernel_rfl) (fun _ _ _ h => h) (Or.inr ⟨by kernel_rfl, rfl⟩) hS ?_
      try simp only [Act.put, List.setIfInBounds_toArray, List.set_cons_zero, List.set_cons_succ]
      refine wpAnyH_takeD (i := 4) (v := undef) rfl (by kernel_rfl) (by kernel_rfl) (by kernel_rfl) (fun _ _ _ h => h) (Or.inr ⟨by kernel_rfl, rfl⟩) hS ?_
      try simp only [Act.put, List.setIfInBounds_toArray, List.set_cons_zero, List.set_cons_succ]
      refine wpAnyH_takeD (i := 5) (v := undef) rfl (by kernel_rfl) (by kernel_rfl) (by kernel_rfl) (fun _ _ _ h => h) (Or.inr ⟨by kernel_rfl, rfl⟩) hS ?_
      try simp only [Act.put, List.setIfInBounds_toArray, List.set_cons_zero, List.set_cons_succ]
      refine wpAnyH_takeD (i := 6) (v := undef) rfl (by kernel_rfl) (by kernel_rfl) (by kernel_rfl) (fun _ _ _ h => h) (Or.inr ⟨by kernel_rfl, rfl⟩) hS ?_
      try simp only [Act.put, List.setIfInBounds_toArray, List.set_cons_zero, List.set_cons_succ]
      refine wpAnyH_takeD (i := 7) (v := undef) rfl (by kernel_rfl) (by kernel_rfl) (by kernel_rfl) (fun _ _ _ h => h) (Or.inr ⟨by kernel_rfl, rfl⟩) hS ?_
      try simp only [Act.put, List.setIfInBounds_toArray, List.set_cons_zero, List.set_cons_succ]
      refine wpAnyH_takeD (i := 8) (v := undef) rfl (by kernel_rfl) (by kernel_rfl) (by kernel_rfl) (fun _ _ _ h => h) (Or.inr ⟨by kernel_rfl, rfl⟩) hS ?_
      try simp only [Act.put, List.setIfInBounds_toArray, List.set_cons_zero, List.set_cons_succ]
      refine wpAnyH_takeD (i := 9) (v := undef) rfl (by kernel_rfl) (by kernel_rfl) (by kernel_rfl) (fun _ _ _ h => h) (Or.inr ⟨by kernel_rfl, rfl⟩) hS ?_
      try simp only [Act.put, List.setIfInBounds_toArray, List.set_cons_zero, List.set_cons_succ]
      refine wpAnyH_takeD (i := 10) (v := undef) rfl (by kernel_rfl) (by kernel_rfl) (by kernel_rfl) (fun _ _ _ h => h) (Or.inr ⟨by kernel_rfl, rfl⟩) hS ?_
      try simp only [Act.put, List.setIfInBounds_toArray, List.set_cons_zero, List.set_cons_succ]
      refine wpAnyH_takeD (i := 11) (v := undef) rfl (by kernel_rfl) (by kernel_rfl) (by kernel_rfl) (fun _ _ _ h => h) (Or.inr ⟨by kernel_rfl, rfl⟩) hS ?_
      try simp only [Act.put, List.setIfInBounds_toArray, List.set_cons_zero, List.set_cons_succ]
      refine wpAnyH_takeD (i := 12) (v := undef) rfl (by kernel_rfl) (by kernel_rfl) (by kernel_rfl) (fun _ _ _ h => h) (Or.inr ⟨by kernel_rfl, rfl⟩) hS ?_
      try simp only [Act.put, List.setIfInBounds_toArray, List.set_cons_zero, List.set_cons_succ]
      refine wpAnyH_takeD (i := 13) (v := undef) rfl (by kernel_rfl) (by kernel_rfl) (by kernel_rfl) (fun _ _ _ h => h) (Or.inr ⟨by kernel_rfl, rfl⟩) hS ?_
      try simp only [Act.put, List.setIfInBounds_toArray, List.set_cons_zero, List.set_cons_succ]
      refine wpAnyH_takeD (i := 14) (v := undef) rfl (by kernel_rfl) (by kernel_rfl) (by kernel_rfl) (fun _ _ _ h => h) (Or.inr ⟨by kernel_rfl, rfl⟩) hS ?_
      try simp only [Act.put, List.setIfInBounds_toArray, List.set_cons_zero, List.set_cons_succ]
      refine wpAnyH_takeD (i := 15) (v := undef) rfl (by kernel_rfl) (by kernel_rfl) (by kernel_rfl) (fun _ _ _ h => h) (Or.inr ⟨by kernel_rfl, rfl⟩) hS ?_
      try simp only [Act.put, List.setIfInBounds_toArray, List.set_cons_zero, List.set_cons_succ]
      refine wpAnyH_takeD (i := 16) (v := undef) rfl (by kernel_rfl) (by kernel_rfl) (by kernel_rfl) (fun _ _ _ h => h) (Or.inr ⟨by kernel_rfl, rfl⟩) hS ?_
      try simp only [Act.put, List.setIfInBounds_toArray, List.set_cons_zero, List.set_cons_succ]
      refine wpAnyH_takeD (i := 17) (v := undef) rfl (by kernel_rfl) (by kernel_rfl) (by kernel_rfl) (fun _ _ _ h => h) (Or.inr ⟨by kernel_rfl, rfl⟩) hS ?_
      try simp only [Act.put, List.setIfInBounds_toArray, List.set_cons_zero, List.set_cons_succ]
      refine wpAnyH_takeD (i := 18) (v := undef) rfl (by kernel_rfl) (by kernel_rfl) (by kernel_rfl) (fun _ _ _ h => h) (Or.inr ⟨by kernel_rfl, rfl⟩) hS ?_
      try simp only [Act.put, List.setIfInBounds_toArray, List.set_cons_zero, List.set_cons_succ]
      refine wpAnyH_takeD (i := 19) (v := undef) rfl (by kernel_rfl) (by kernel_rfl) (by kernel_rfl) (fun _ _ _ h => h) (Or.inr ⟨by kernel_rfl, rfl⟩) hS ?_
      try simp only [Act.put, List.setIfInBounds_toArray, List.set_cons_zero, List.set_cons_succ]
      refine wpAnyH_takeD (i := 20) (v := undef) rfl (by kernel_rfl) (by kernel_rfl) (by kernel_rfl) (fun _ _ _ h => h) (Or.inr ⟨by kernel_rfl, rfl⟩) hS ?_
      try simp only [Act.put, List.setIfInBounds_toArray, List.set_cons_zero, List.set_cons_succ]
      refine wpAnyH_takeD (i := 21) (v := ?_) rfl (by kernel_rfl) (by kernel_rfl) (by kernel_rfl) (fun _ _ _ h => h) (Or.inl ⟨by kernel_rfl, ?_⟩) hS ?_
      rotate_left 1
      · (intro w' hSw; (try dsimp only at hSw); go_simp; try (with_reducible rfl))
      try simp only [Act.put, List.setIfInBounds_toArray, List.set_cons_zero, List.set_cons_succ]
      refine wpAnyH_done (by kernel_rfl) ?_ _
      go_wp2_with fail
      refine Calls.mono (HC1.out _ (Below.refl _ _).drew) ?_
      rintro e w6 ⟨v1, rfl, ho1, hb6', -⟩
      obtain ⟨A6, c6, rfl, -⟩ := own_sl ho1
      have hb6 : Below wr.heap.size wr w6 := below_undrew hb6'
      clear hb6'
      have k0 := (hb6.cell (p := ⟨w.heap.size, 0, none⟩) hz0).trans j0
      have k1 := (hb6.cell (p := ⟨w.heap.size, 1, none⟩) hz0).trans j1
      have hm6 := hb6.size
      go_wp2_with fail
      refine Calls.mono (HC2.out _ hb6) ?_
      rintro e w7 ⟨v2, rfl, ho2, hb7, -⟩
      obtain ⟨A7, c7, rfl, -⟩ := own_sl ho2
      have q0 := (hb7.cell (p := ⟨w.heap.size, 0, none⟩) (show w.heap.size < w6.heap.size by omega)).trans k0
      have q1 := (hb7.cell (p := ⟨w.heap.size, 1, none⟩) (show w.heap.size < w6.heap.size by omega)).trans k1
      have hw7 := hb6.trans (hb7.mono hm6)
      have hr7 := (hb7.block (w.heap.size + 1) (by omega)).trans ((hb6.block (w.heap.size + 1) hz1).trans HR.out)
      have hf0 := frozen_of_row _ _ 0 _ _ hr7
      have hf1 := frozen_of_row _ _ 1 _ _ hr7
      have hg0 : w7.cell? ⟨w.heap.size + 1, 0, none⟩ = some (.slice none 0 0) := by rw [cell_of_row _ _ 0 _ _ (0, 0) hr7]; rfl
      have hg1 : w7.cell? ⟨w.heap.size + 1, 1, none⟩ = some (.slice none 0 0) := by rw [cell_of_row _ _ 1 _ _ (0, 0) hr7]; rfl
      go_wp2_with fail
      refine bodyPost_ret (v := .agg #[.slice A6 m c6, .slice A7 p c7]) ?_ rfl ?_
      · obtain ⟨f0, f1⟩ := word_set (x := .slice A6 m c6) (y := .slice A7 p c7) hr7
        simp [results, Try.results40, go_sem, f0, f1]
      · exact nword_end (h := own_belW hb7 (Nat.le_refl _) ho1) (h' := own_base ho2 hm6) (hb.trans (hw7.mono (by omega))) (Nat.le_refl _) (by omega) hz1 HE1.out HE2.out rfl rfl
    · obtain ⟨mk, hmk⟩ : ∃ mk, m = mk + 1 := ⟨m - 1, by omega⟩
      obtain ⟨q, hq⟩ : ∃ q, q = a + p - 1 := ⟨_, rfl⟩
      obtain ⟨r, hrr⟩ : ∃ r, r = q % p := ⟨_, rfl⟩
      have hrp : r < p := by rw [hrr]; exact Nat.mod_lt _ (by omega)
      have g1 : mk < st.length := by omega
      have g2 : r < lo.length := by have := HL2.out; omega
      obtain ⟨b1, o1, hA1, hb1B, hc1⟩ := rd_u hr.s1 g1
      obtain ⟨b2, o2, hA2, hb2B, hc2⟩ := rd_u hr.s2 g2
      have hstep := fun (e : st.getD mk 0 = lo.getD r 0) => NI.step (a := a) (m := mk) (by rw [← hmk]; exact hi) (by rw [← HPL.out, ← hq, ← hrr]; exact e)
      have hstop := fun (e : st.getD mk 0 ≠ lo.getD r 0) => NI.stop (a := a) (m := mk) (by rw [← hmk]; exact hi) (by rw [← HPL.out, ← hq, ← hrr]; exact e)
      rw [← HPL.out, ← hq, ← hrr] at hstep
      rw [← hmk] at hstop
      generalize st.getD mk 0 = x at *
      generalize lo.getD r 0 = y at *
      have e1 : IntKind.i64.wrap ((m : Int) - 1) = (mk : Int) := by have := HL1.out; rw [IntWalk.i64_in _ (by omega)]; omega
      obtain ⟨z, hz⟩ : ∃ z, z = a + p := ⟨_, rfl⟩
      have e2a : IntKind.i64.wrap ((a : Int) + (p : Int)) = (z : Int) := by rw [IntWalk.i64_in _ (by omega)]; omega
      have e2 : IntKind.i64.wrap ((z : Int) - 1) = (q : Int) := by rw [IntWalk.i64_in _ (by omega)]; omega
      have e3 : ((q : Int)).tmod (p : Int) = (r : Int) := by rw [Int.tmod_eq_emod_of_nonneg (by omega)]; omega
      have hp0 : ¬ p = 0 := by omega
      have dp : 0 < m := by omega
      have u1 : mk < n1 := by have := HL1.out; omega
      have u1' : (mk : Int) < (n1 : Int) := by omega
      have u2' : (r : Int) < (p : Int) := by omega
      have HQ := Lib.hid hq
      have HRR := Lib.hid hrr
      have HMK := Lib.hid hmk
      by_cases he : x = y
      · have dq : (x == y) = true := by simp [he]
        have hI := Lib.hid (hstep he)
        clear hstep hstop hmk hq hrr hz he hi hr hal
        subst hA1 hA2
        go_wp2_with fail
        refine wp_region_held_drew (S := fun w' => w'.cell? ⟨w.heap.size, 0, none⟩ = some (.slice (some ⟨b1, o1, none⟩) n1 c1) ∧ w'.cell? ⟨w.heap.size, 1, none⟩ = some (.slice (some ⟨b2, o2, none⟩) n2 c2) ∧ w'.cell? ⟨b1, o1 + mk, none⟩ = some (.int .u64 x) ∧ w'.cell? ⟨b2, o2 + r, none⟩ = some (.int .u64 y)) (by kernel_rfl) ⟨j0, j1, hc1, hc2⟩ (fun hS => ?_)
        refine wpAnyH_takeD (i := 0) (v := ?_) rfl (by kernel_rfl) (by kernel_rfl) (by kernel_rfl) (fun _ _ _ h => h) (Or.inl ⟨by kernel_rfl, ?_⟩) hS ?_
        rotate_left 1
        · (intro w' hSw; (try dsimp only at hSw); go_simp; try (with_reducible rfl))
        try simp only [Act.put, List.setIfInBounds_toArray, List.set_cons_zero, List.set_cons_succ]
        refine wpAnyH_takeD (i := 1) (v := ?_) rfl (by kernel_rfl) (by kernel_rfl) (by kernel_rfl) (fun _ _ _ h => h) (Or.inl ⟨by kernel_rfl, ?_⟩) hS ?_
        rotate_left 1
        · (intro w' hSw; (try dsimp only at hSw); go_simp; try (with_reducible rfl))
        try simp only [Act.put, List.setIfInBounds_toArray, List.set_cons_zero, List.set_cons_succ]
        refine wpAnyH_takeD (i := 2) (v := ?_) rfl (by kernel_rfl) (by kernel_rfl) (by kernel_rfl) (fun _ _ _ h => h) (Or.inl ⟨by kernel_rfl, ?_⟩) hS ?_
        rotate_left 1
        · (intro w' hSw; (try dsimp only at hSw); go_simp; try (with_reducible rfl))
        try simp only [Act.put, List.setIfInBounds_toArray, List.set_cons_zero, List.set_cons_succ]
        refine wpAnyH_takeD (i := 3) (v := ?_) rfl (by kernel_rfl) (by kernel_rfl) (by kernel_rfl) (fun _ _ _ h => h) (Or.inl ⟨by kernel_rfl, ?_⟩) hS ?_
        rotate_left 1
        · (intro w' hSw; (try dsimp only at hSw); go_simp; try (with_reducible rfl))
        try simp only [Act.put, List.setIfInBounds_toArray, List.set_cons_zero, List.set_cons_succ]
        refine wpAnyH_takeD (i := 4) (v := ?_) rfl (by kernel_rfl) (by kernel_rfl) (by kernel_rfl) (fun _ _ _ h => h) (Or.inl ⟨by kernel_rfl, ?_⟩) hS ?_
        rotate_left 1
        · (intro w' hSw; (try dsimp only at hSw); go_simp; try (with_reducible rfl))
        try simp only [Act.put, List.setIfInBounds_toArray, List.set_cons_zero, List.set_cons_succ]
        refine wpAnyH_takeD (i := 5) (v := ?_) rfl (by kernel_rfl) (by kernel_rfl) (by kernel_rfl) (fun _ _ _ h => h) (Or.inl ⟨by kernel_rfl, ?_⟩) hS ?_
        rotate_left 1
        · (intro w' hSw; (try dsimp only at hSw); go_simp; try (with_reducible rfl))
        try simp only [Act.put, List.setIfInBounds_toArray, List.set_cons_zero, List.set_cons_succ]
        refine wpAnyH_takeD (i := 6) (v := ?_) rfl (by kernel_rfl) (by kernel_rfl) (by kernel_rfl) (fun _ _ _ h => h) (Or.inl ⟨by kernel_rfl, ?_⟩) hS ?_
        rotate_left 1
        · (intro w' hSw; (try dsimp only at hSw); go_simp; try (with_reducible rfl))
        try simp only [Act.put, List.setIfInBounds_toArray, List.set_cons_zero, List.set_cons_succ]
        refine wpAnyH_takeD (i := 7) (v := ?_) rfl (by kernel_rfl) (by kernel_rfl) (by kernel_rfl) (fun _ _ _ h => h) (Or.inl ⟨by kernel_rfl, ?_⟩) hS ?_
        rotate_left 1
        · (intro w' hSw; (try dsimp only at hSw); go_simp; try (with_reducible rfl))
        try simp only [Act.put, List.setIfInBounds_toArray, List.set_cons_zero, List.set_cons_succ]
        refine wpAnyH_takeD (i := 8) (v := ?_) rfl (by kernel_rfl) (by kernel_rfl) (by kernel_rfl) (fun _ _ _ h => h) (Or.inl ⟨by kernel_rfl, ?_⟩) hS ?_
        rotate_left 1
        · (intro w' hSw; (try dsimp only at hSw); go_simp; try (with_reducible rfl))
        try simp only [Act.put, List.setIfInBounds_toArray, List.set_cons_zero, List.set_cons_succ]
        refine wpAnyH_takeD (i := 9) (v := ?_) rfl (by kernel_rfl) (by kernel_rfl) (by kernel_rfl) (fun _ _ _ h => h) (Or.inl ⟨by kernel_rfl, ?_⟩) hS ?_
        rotate_left 1
        · (intro w' hSw; (try dsimp only at hSw); go_simp; try (with_reducible rfl))
        try simp only [Act.put, List.setIfInBounds_toArray, List.set_cons_zero, List.set_cons_succ]
        refine wpAnyH_takeD (i := 10) (v := ?_) rfl (by kernel_rfl) (by kernel_rfl) (by kernel_rfl) (fun _ _ _ h => h) (Or.inl ⟨by kernel_rfl, ?_⟩) hS ?_
        rotate_left 1
        · (intro w' hSw; (try dsimp only at hSw); go_simp; try (with_reducible rfl))
        try simp only [Act.put, List.setIfInBounds_toArray, List.set_cons_zero, List.set_cons_succ]
        refine wpAnyH_takeD (i := 11) (v := ?_) rfl (by kernel_rfl) (by kernel_rfl) (by kernel_rfl) (fun _ _ _ h => h) (Or.inl ⟨by kernel_rfl, ?_⟩) hS ?_
        rotate_left 1
        · (intro w' hSw; (try dsimp only at hSw); go_simp; try (with_reducible rfl))
        try simp only [Act.put, List.setIfInBounds_toArray, List.set_cons_zero, List.set_cons_succ]
        refine wpAnyH_takeD (i := 12) (v := ?_) rfl (by kernel_rfl) (by kernel_rfl) (by kernel_rfl) (fun _ _ _ h => h) (Or.inl ⟨by kernel_rfl, ?_⟩) hS ?_
        rotate_left 1
        · (intro w' hSw; (try dsimp only at hSw); go_simp; try (with_reducible rfl))
        try simp only [Act.put, List.setIfInBounds_toArray, List.set_cons_zero, List.set_cons_succ]
        refine wpAnyH_takeD (i := 13) (v := ?_) rfl (by kernel_rfl) (by kernel_rfl) (by kernel_rfl) (fun _ _ _ h => h) (Or.inl ⟨by kernel_rfl, ?_⟩) hS ?_
        rotate_left 1
        · (intro w' hSw; (try dsimp only at hSw); go_simp; try (with_reducible rfl))
        try simp only [Act.put, List.setIfInBounds_toArray, List.set_cons_zero, List.set_cons_succ]
        refine wpAnyH_takeD (i := 14) (v := ?_) rfl (by kernel_rfl) (by kernel_rfl) (by kernel_rfl) (fun _ _ _ h => h) (Or.inl ⟨by kernel_rfl, ?_⟩) hS ?_
        rotate_left 1
        · (intro w' hSw; (try dsimp only at hSw); go_simp; try (with_reducible rfl))
        try simp only [Act.put, List.setIfInBounds_toArray, List.set_cons_zero, List.set_cons_succ]
        refine wpAnyH_takeD (i := 15) (v := ?_) rfl (by kernel_rfl) (by kernel_rfl) (by kernel_rfl) (fun _ _ _ h => h) (Or.inl ⟨by kernel_rfl, ?_⟩) hS ?_
        rotate_left 1
        · (intro w' hSw; (try dsimp only at hSw); go_simp; try (with_reducible rfl))
        try simp only [Act.put, List.setIfInBounds_toArray, List.set_cons_zero, List.set_cons_succ]
        refine wpAnyH_takeD (i := 16) (v := ?_) rfl (by kernel_rfl) (by kernel_rfl) (by kernel_rfl) (fun _ _ _ h => h) (Or.inl ⟨by kernel_rfl, ?_⟩) hS ?_
        rotate_left 1
        · (intro w' hSw; (try dsimp only at hSw); go_simp; try (with_reducible rfl))
        try simp only [Act.put, List.setIfInBounds_toArray, List.set_cons_zero, List.set_cons_succ]
        refine wpAnyH_takeD (i := 17) (v := ?_) rfl (by kernel_rfl) (by kernel_rfl) (by kernel_rfl) (fun _ _ _ h => h) (Or.inl ⟨by kernel_rfl, ?_⟩) hS ?_
        rotate_left 1
        · (intro w' hSw; (try dsimp only at hSw); go_simp; try (with_reducible rfl))
        try simp only [Act.put, List.setIfInBounds_toArray, List.set_cons_zero, List.set_cons_succ]
        refine wpAnyH_takeD (i := 18) (v := ?_) rfl (by kernel_rfl) (by kernel_rfl) (by kernel_rfl) (fun _ _ _ h => h) (Or.inl ⟨by kernel_rfl, ?_⟩) hS ?_
        rotate_left 1
        · (intro w' hSw; (try dsimp only at hSw); go_simp; try (with_reducible rfl))
        try simp only [Act.put, List.setIfInBounds_toArray, List.set_cons_zero, List.set_cons_succ]
        refine wpAnyH_takeD (i := 19) (v := ?_) rfl (by kernel_rfl) (by kernel_rfl) (by kernel_rfl) (fun _ _ _ h => h) (Or.inl ⟨by kernel_rfl, ?_⟩) hS ?_
        rotate_left 1
        · (intro w' hSw; (try dsimp only at hSw); go_simp; try (with_reducible rfl))
        try simp only [Act.put, List.setIfInBounds_toArray, List.set_cons_zero, List.set_cons_succ]
        refine wpAnyH_takeD (i := 20) (v := ?_) rfl (by kernel_rfl) (by kernel_rfl) (by kernel_rfl) (fun _ _ _ h => h) (Or.inl ⟨by kernel_rfl, ?_⟩) hS ?_
        rotate_left 1
        · (intro w' hSw; (try dsimp only at hSw); go_simp; try (with_reducible rfl))
        try simp only [Act.put, List.setIfInBounds_toArray, List.set_cons_zero, List.set_cons_succ]
        refine wpAnyH_takeD (i := 21) (v := ?_) rfl (by kernel_rfl) (by kernel_rfl) (by kernel_rfl) (fun _ _ _ h => h) (Or.inl ⟨by kernel_rfl, ?_⟩) hS ?_
        rotate_left 1
        · (intro w' hSw; (try dsimp only at hSw); go_simp; try (with_reducible rfl))
        try simp only [Act.put, List.setIfInBounds_toArray, List.set_cons_zero, List.set_cons_succ]
        refine wpAnyH_done (by kernel_rfl) ?_ _
        clear u1 u1' u2' hrp
        go_wp2
        go_roundw
        case rel => exact ⟨mk, r, rfl, rfl, hI, hbr.drew⟩
        case measure => have := HMK.out; simp [intOf]; omega
      · have dq : (x == y) = false := by simpa using he
        have hs := hstop he
        have hst := NI.stem hi hs
        have hlo := NI.loop hlo0 hi hs
        have hml := hi.le
        have hal := hi.lt
        rw [← HPL.out] at hlo hal
        have hC1 := fun (w' : World) (hb' : Below wr.heap.size wr w') => cloneU_any A1 m c1 (ucells (st.take m)) w' wr.heap.size (by have := (hr.s1.below hb' (Nat.le_refl _)).take (k := m) (by have := hr.l1; omega); rw [← ucells_take] at this; exact this) (ucells_one _) hb'.size (by have := hr.l1; omega)
        have hC2 := fun (w' : World) (hb' : Below wr.heap.size wr w') => turned_any A2 p c2 a (lo.take p) w' wr.heap.size (by have := (hr.s2.below hb' (Nat.le_refl _)).take (k := p) (by omega); rw [← ucells_take] at this; exact this) (by simp; have := hr.l2; omega) hal hb'.size (by omega)
        have HE1 : Hid (m = (normL st lo).1.length) := Lib.hid (by rw [hst, List.length_take]; omega)
        have HE2 : Hid (p = (normL st lo).2.length) := Lib.hid (by rw [hlo]; simp only [List.length_append, List.length_drop, List.length_take]; have := HL2.out; omega)
        rw [← hst] at hC1
        rw [← hlo] at hC2
        have HC1 := Lib.hid hC1
        have HC2 := Lib.hid hC2
        have i1 : (m : Int) ≤ (c1 : Int) := by have := HML.out; have := HL1.out; omega
        have i2 : m ≤ c1 := by have := HML.out; have := HL1.out; omega
        have i5 : (p : Int) ≤ (c2 : Int) := by omega
        clear hst hlo hs hstep hstop hmk hq hrr hz he hi hr hal hC1 hC2 hml hbr hb4
        subst hA1 hA2
        go_wp2_with fail
        refine wp_region_held_drew (S := fun w' => w'.cell? ⟨w.heap.size, 0, none⟩ = some (.slice (some ⟨b1, o1, none⟩) n1 c1) ∧ w'.cell? ⟨w.heap.size, 1, none⟩ = some (.slice (some ⟨b2, o2, none⟩) n2 c2) ∧ w'.cell? ⟨b1, o1 + mk, none⟩ = some (.int .u64 x) ∧ w'.cell? ⟨b2, o2 + r, none⟩ = some (.int .u64 y)) (by kernel_rfl) ⟨j0, j1, hc1, hc2⟩ (fun hS => ?_)
        refine wpAnyH_takeD (i := 0) (v := ?_) rfl (by kernel_rfl) (by kernel_rfl) (by kernel_rfl) (fun _ _ _ h => h) (Or.inl ⟨by kernel_rfl, ?_⟩) hS ?_
        rotate_left 1
        · (intro w' hSw; (try dsimp only at hSw); go_simp; try (with_reducible rfl))
        try simp only [Act.put, List.setIfInBounds_toArray, List.set_cons_zero, List.set_cons_succ]
        refine wpAnyH_takeD (i := 1) (v := ?_) rfl (by kernel_rfl) (by kernel_rfl) (by kernel_rfl) (fun _ _ _ h => h) (Or.inl ⟨by kernel_rfl, ?_⟩) hS ?_
        rotate_left 1
        · (intro w' hSw; (try dsimp only at hSw); go_simp; try (with_reducible rfl))
        try simp only [Act.put, List.setIfInBounds_toArray, List.set_cons_zero, List.set_cons_succ]
        refine wpAnyH_takeD (i := 2) (v := ?_) rfl (by kernel_rfl) (by kernel_rfl) (by kernel_rfl) (fun _ _ _ h => h) (Or.inl ⟨by kernel_rfl, ?_⟩) hS ?_
        rotate_left 1
        · (intro w' hSw; (try dsimp only at hSw); go_simp; try (with_reducible rfl))
        try simp only [Act.put, List.setIfInBounds_toArray, List.set_cons_zero, List.set_cons_succ]
        refine wpAnyH_takeD (i := 3) (v := ?_) rfl (by kernel_rfl) (by kernel_rfl) (by kernel_rfl) (fun _ _ _ h => h) (Or.inl ⟨by kernel_rfl, ?_⟩) hS ?_
        rotate_left 1
        · (intro w' hSw; (try dsimp only at hSw); go_simp; try (with_reducible rfl))
        try simp only [Act.put, List.setIfInBounds_toArray, List.set_cons_zero, List.set_cons_succ]
        refine wpAnyH_takeD (i := 4) (v := ?_) rfl (by kernel_rfl) (by kernel_rfl) (by kernel_rfl) (fun _ _ _ h => h) (Or.inl ⟨by kernel_rfl, ?_⟩) hS ?_
        rotate_left 1
        · (intro w' hSw; (try dsimp only at hSw); go_simp; try (with_reducible rfl))
        try simp only [Act.put, List.setIfInBounds_toArray, List.set_cons_zero, List.set_cons_succ]
        refine wpAnyH_takeD (i := 5) (v := ?_) rfl (by kernel_rfl) (by kernel_rfl) (by kernel_rfl) (fun _ _ _ h => h) (Or.inl ⟨by kernel_rfl, ?_⟩) hS ?_
        rotate_left 1
        · (intro w' hSw; (try dsimp only at hSw); go_simp; try (with_reducible rfl))
        try simp only [Act.put, List.setIfInBounds_toArray, List.set_cons_zero, List.set_cons_succ]
        refine wpAnyH_takeD (i := 6) (v := ?_) rfl (by kernel_rfl) (by kernel_rfl) (by kernel_rfl) (fun _ _ _ h => h) (Or.inl ⟨by kernel_rfl, ?_⟩) hS ?_
        rotate_left 1
        · (intro w' hSw; (try dsimp only at hSw); go_simp; try (with_reducible rfl))
        try simp only [Act.put, List.setIfInBounds_toArray, List.set_cons_zero, List.set_cons_succ]
        refine wpAnyH_takeD (i := 7) (v := ?_) rfl (by kernel_rfl) (by kernel_rfl) (by kernel_rfl) (fun _ _ _ h => h) (Or.inl ⟨by kernel_rfl, ?_⟩) hS ?_
        rotate_left 1
        · (intro w' hSw; (try dsimp only at hSw); go_simp; try (with_reducible rfl))
        try simp only [Act.put, List.setIfInBounds_toArray, List.set_cons_zero, List.set_cons_succ]
        refine wpAnyH_takeD (i := 8) (v := ?_) rfl (by kernel_rfl) (by kernel_rfl) (by kernel_rfl) (fun _ _ _ h => h) (Or.inl ⟨by kernel_rfl, ?_⟩) hS ?_
        rotate_left 1
        · (intro w' hSw; (try dsimp only at hSw); go_simp; try (with_reducible rfl))
        try simp only [Act.put, List.setIfInBounds_toArray, List.set_cons_zero, List.set_cons_succ]
        refine wpAnyH_takeD (i := 9) (v := ?_) rfl (by kernel_rfl) (by kernel_rfl) (by kernel_rfl) (fun _ _ _ h => h) (Or.inl ⟨by kernel_rfl, ?_⟩) hS ?_
        rotate_left 1
        · (intro w' hSw; (try dsimp only at hSw); go_simp; try (with_reducible rfl))
        try simp only [Act.put, List.setIfInBounds_toArray, List.set_cons_zero, List.set_cons_succ]
        refine wpAnyH_takeD (i := 10) (v := ?_) rfl (by kernel_rfl) (by kernel_rfl) (by kernel_rfl) (fun _ _ _ h => h) (Or.inl ⟨by kernel_rfl, ?_⟩) hS ?_
        rotate_left 1
        · (intro w' hSw; (try dsimp only at hSw); go_simp; try (with_reducible rfl))
        try simp only [Act.put, List.setIfInBounds_toArray, List.set_cons_zero, List.set_cons_succ]
        refine wpAnyH_takeD (i := 11) (v := ?_) rfl (by kernel_rfl) (by kernel_rfl) (by kernel_rfl) (fun _ _ _ h => h) (Or.inl ⟨by kernel_rfl, ?_⟩) hS ?_
        rotate_left 1
        · (intro w' hSw; (try dsimp only at hSw); go_simp; try (with_reducible rfl))
        try simp only [Act.put, List.setIfInBounds_toArray, List.set_cons_zero, List.set_cons_succ]
        refine wpAnyH_takeD (i := 12) (v := ?_) rfl (by kernel_rfl) (by kernel_rfl) (by kernel_rfl) (fun _ _ _ h => h) (Or.inl ⟨by kernel_rfl, ?_⟩) hS ?_
        rotate_left 1
        · (intro w' hSw; (try dsimp only at hSw); go_simp; try (with_reducible rfl))
        try simp only [Act.put, List.setIfInBounds_toArray, List.set_cons_zero, List.set_cons_succ]
        refine wpAnyH_takeD (i := 13) (v := ?_) rfl (by kernel_rfl) (by kernel_rfl) (by kernel_rfl) (fun _ _ _ h => h) (Or.inl ⟨by kernel_rfl, ?_⟩) hS ?_
        rotate_left 1
        · (intro w' hSw; (try dsimp only at hSw); go_simp; try (with_reducible rfl))
        try simp only [Act.put, List.setIfInBounds_toArray, List.set_cons_zero, List.set_cons_succ]
        refine wpAnyH_takeD (i := 14) (v := ?_) rfl (by kernel_rfl) (by kernel_rfl) (by kernel_rfl) (fun _ _ _ h => h) (Or.inl ⟨by kernel_rfl, ?_⟩) hS ?_
        rotate_left 1
        · (intro w' hSw; (try dsimp only at hSw); go_simp; try (with_reducible rfl))
        try simp only [Act.put, List.setIfInBounds_toArray, List.set_cons_zero, List.set_cons_succ]
        refine wpAnyH_takeD (i := 15) (v := ?_) rfl (by kernel_rfl) (by kernel_rfl) (by kernel_rfl) (fun _ _ _ h => h) (Or.inl ⟨by kernel_rfl, ?_⟩) hS ?_
        rotate_left 1
        · (intro w' hSw; (try dsimp only at hSw); go_simp; try (with_reducible rfl))
        try simp only [Act.put, List.setIfInBounds_toArray, List.set_cons_zero, List.set_cons_succ]
        refine wpAnyH_takeD (i := 16) (v := ?_) rfl (by kernel_rfl) (by kernel_rfl) (by kernel_rfl) (fun _ _ _ h => h) (Or.inl ⟨by kernel_rfl, ?_⟩) hS ?_
        rotate_left 1
        · (intro w' hSw; (try dsimp only at hSw); go_simp; try (with_reducible rfl))
        try simp only [Act.put, List.setIfInBounds_toArray, List.set_cons_zero, List.set_cons_succ]
        refine wpAnyH_takeD (i := 17) (v := ?_) rfl (by kernel_rfl) (by kernel_rfl) (by kernel_rfl) (fun _ _ _ h => h) (Or.inl ⟨by kernel_rfl, ?_⟩) hS ?_
        rotate_left 1
        · (intro w' hSw; (try dsimp only at hSw); go_simp; try (with_reducible rfl))
        try simp only [Act.put, List.setIfInBounds_toArray, List.set_cons_zero, List.set_cons_succ]
        refine wpAnyH_takeD (i := 18) (v := ?_) rfl (by kernel_rfl) (by kernel_rfl) (by kernel_rfl) (fun _ _ _ h => h) (Or.inl ⟨by kernel_rfl, ?_⟩) hS ?_
        rotate_left 1
        · (intro w' hSw; (try dsimp only at hSw); go_simp; try (with_reducible rfl))
        try simp only [Act.put, List.setIfInBounds_toArray, List.set_cons_zero, List.set_cons_succ]
        refine wpAnyH_takeD (i := 19) (v := ?_) rfl (by kernel_rfl) (by kernel_rfl) (by kernel_rfl) (fun _ _ _ h => h) (Or.inl ⟨by kernel_rfl, ?_⟩) hS ?_
        rotate_left 1
        · (intro w' hSw; (try dsimp only at hSw); go_simp; try (with_reducible rfl))
        try simp only [Act.put, List.setIfInBounds_toArray, List.set_cons_zero, List.set_cons_succ]
        refine wpAnyH_takeD (i := 20) (v := ?_) rfl (by kernel_rfl) (by kernel_rfl) (by kernel_rfl) (fun _ _ _ h => h) (Or.inl ⟨by kernel_rfl, ?_⟩) hS ?_
        rotate_left 1
        · (intro w' hSw; (try dsimp only at hSw); go_simp; try (with_reducible rfl))
        try simp only [Act.put, List.setIfInBounds_toArray, List.set_cons_zero, List.set_cons_succ]
        refine wpAnyH_takeD (i := 21) (v := ?_) rfl (by kernel_rfl) (by kernel_rfl) (by kernel_rfl) (fun _ _ _ h => h) (Or.inl ⟨by kernel_rfl, ?_⟩) hS ?_
        rotate_left 1
        · (intro w' hSw; (try dsimp only at hSw); go_simp; try (with_reducible rfl))
        try simp only [Act.put, List.setIfInBounds_toArray, List.set_cons_zero, List.set_cons_succ]
        refine wpAnyH_done (by kernel_rfl) ?_ _
        go_wp2_with fail
        refine Calls.mono (HC1.out _ (Below.refl _ _).drew) ?_
        rintro e w6 ⟨v1, rfl, ho1, hb6', -⟩
        obtain ⟨A6, c6, rfl, -⟩ := own_sl ho1
        have hb6 : Below wr.heap.size wr w6 := below_undrew hb6'
        clear hb6'
        have k0 := (hb6.cell (p := ⟨w.heap.size, 0, none⟩) hz0).trans j0
        have k1 := (hb6.cell (p := ⟨w.heap.size, 1, none⟩) hz0).trans j1
        have hm6 := hb6.size
        go_wp2_with fail
        refine Calls.mono (HC2.out _ hb6) ?_
        rintro e w7 ⟨v2, rfl, ho2, hb7, -⟩
        obtain ⟨A7, c7, rfl, -⟩ := own_sl ho2
        have q0 := (hb7.cell (p := ⟨w.heap.size, 0, none⟩) (show w.heap.size < w6.heap.size by omega)).trans k0
        have q1 := (hb7.cell (p := ⟨w.heap.size, 1, none⟩) (show w.heap.size < w6.heap.size by omega)).trans k1
        have hw7 := hb6.trans (hb7.mono hm6)
        have hr7 := (hb7.block (w.heap.size + 1) (by omega)).trans ((hb6.block (w.heap.size + 1) hz1).trans HR.out)
        have hf0 := frozen_of_row _ _ 0 _ _ hr7
        have hf1 := frozen_of_row _ _ 1 _ _ hr7
        have hg0 : w7.cell? ⟨w.heap.size + 1, 0, none⟩ = some (.slice none 0 0) := by rw [cell_of_row _ _ 0 _ _ (0, 0) hr7]; rfl
        have hg1 : w7.cell? ⟨w.heap.size + 1, 1, none⟩ = some (.slice none 0 0) := by rw [cell_of_row _ _ 1 _ _ (0, 0) hr7]; rfl
        go_wp2_with fail
        refine bodyPost_ret (v := .agg #[.slice A6 m c6, .slice A7 p c7]) ?_ rfl ?_
        · obtain ⟨f0, f1⟩ := word_set (x := .slice A6 m c6) (y := .slice A7 p c7) hr7
          simp [results, Try.results40, go_sem, f0, f1]
        · exact nword_end (h := own_belW hb7 (Nat.le_refl _) ho1) (h' := own_base ho2 hm6) (hb.trans (hw7.mono (by omega))) (Nat.le_refl _) (by omega) hz1 HE1.out HE2.out rfl rfl
end Go.Proofs.Ytkikkplpalabhaa
