/- The walks of layer 27's reference: one, two. -/
import Derived.Test.YtamhjgkigjpbhaaDoorWr2
namespace Go.Proofs.YtamhjgkigjpbhaaDoor
open Go.RowKit

set_option maxHeartbeats 4000000 in
set_option maxRecDepth 100000 in
theorem rone4_any (A1 A2 A : Option Addr) (n1 c1 n2 c2 n c : Nat) (m : Int) (bt : Int → Nat → Bool) (a : List Bool) (w : World) (B : Nat) (hl : n1 + n2 ≤ 60000) (_h2 : 0 < n2) (hn : n = n1 + n2) (hal : a.length = n1 + n2) (hs : Sl w B 1 A n c (bcells a)) (hB : B ≤ w.heap.size) :
    Calls Tryd.prog 47 #[.int .i64 4, .agg #[.slice A1 n1 c1, .slice A2 n2 c2], .slice A n c] w (NewRow w 4 1 (n1 + n2) (bcells (placesL bt (n1 + n2) n1 ⟨4, m⟩ a [])) False) := by
  have hpl : placesL bt (n1 + n2) n1 ⟨4, m⟩ a [] = flipL a := by
    rw [place_row (by simp)]
    apply ext_getD (n := n1 + n2) (by simp) (by rw [flipL_len, hal])
    intro i hi
    rw [range_get _ hi, flip_get (by omega)]
    simp [place1]
  rw [hpl]
  clear hpl
  obtain ⟨hb0, q0, q1⟩ := wbox w A1 A2 n1 c1 n2 c2
  obtain ⟨w0, hw0⟩ : ∃ W, W = w.alloc (.cells #[.slice A1 n1 c1, .slice A2 n2 c2] 35) := ⟨_, rfl⟩
  have hzr : w.heap.size < w0.heap.size := by rw [hw0]; simp
  rw [← hw0] at hb0 q0 q1
  have HW0 := Lib.hid hw0
  have HB0 := Lib.hid hb0
  have hB0 : B ≤ w0.heap.size := by omega
  have HN := Lib.hid (rnot_any A n c a w0 B (hn.trans hal.symm) (hs.below hb0 hB) hB0 (by omega))
  rw [hn] at HN
  subst hn
  generalize hN : n1 + n2 = N at *
  clear hw0 hs hal hb0
  go_enter Tryd.func47, Tryd.ntmps47
  go_wp2_with fail
  rw [← HW0.out]
  refine Calls.mono HN.out ?_
  rintro e w1 ⟨v, rfl, hown, hb1, hnil⟩
  go_wp2
  go_ret
  exact ⟨_, rfl, own_base hown (Nat.le_trans HB0.out.size (Nat.le_refl _)), HB0.out.trans (hb1.mono HB0.out.size), hnil⟩
set_option maxHeartbeats 4000000 in
set_option maxRecDepth 100000 in
theorem rone11_any (A1 A2 A : Option Addr) (n1 c1 n2 c2 n c : Nat) (m : Int) (bt : Int → Nat → Bool) (a : List Bool) (w : World) (B : Nat) (hl : n1 + n2 ≤ 60000) (h2 : 0 < n2) (hn : n = n1 + n2) (hal : a.length = n1 + n2) (hs : Sl w B 1 A n c (bcells a)) (hB : B ≤ w.heap.size) :
    Calls Tryd.prog 47 #[.int .i64 11, .agg #[.slice A1 n1 c1, .slice A2 n2 c2], .slice A n c] w (NewRow w 4 1 (n1 + n2) (bcells (placesL bt (n1 + n2) n1 ⟨11, m⟩ a [])) False) := by
  have hpl : placesL bt (n1 + n2) n1 ⟨11, m⟩ a [] = untL n1 (List.replicate (n1 + n2) true) a := by simp [placesL, yesL]
  rw [hpl]
  clear hpl
  obtain ⟨hb0, q0, q1⟩ := wbox w A1 A2 n1 c1 n2 c2
  obtain ⟨w0, hw0⟩ : ∃ W, W = w.alloc (.cells #[.slice A1 n1 c1, .slice A2 n2 c2] 35) := ⟨_, rfl⟩
  have hzr : w.heap.size < w0.heap.size := by rw [hw0]; simp
  rw [← hw0] at hb0 q0 q1
  have HW0 := Lib.hid hw0
  have HB0 := Lib.hid hb0
  have hB0 : B ≤ w0.heap.size := by omega
  have HL := Lib.hid (fun (D : Option Addr) (d : Nat) (W : World) (hb : Below w0.heap.size w0 W) (h1 : Sl W W.heap.size 1 D (n1 + n2) d (bcells (List.replicate (n1 + n2) true))) => rleast_any A1 A2 D A n1 c1 n2 c2 (n1 + n2) d n c (List.replicate (n1 + n2) true) a W W.heap.size hl h2 rfl hn (by simp) h1 hal (((hs.below hb0 hB).below hb hB0).up (Nat.le_trans hB0 hb.size)) (Nat.le_refl _))
  subst hn
  generalize hN : n1 + n2 = N at *
  clear hw0 hs hal hb0
  go_enter Tryd.func47, Tryd.ntmps47
  go_wp2_with fail
  rw [← HW0.out]
  have hbd : Below w0.heap.size w0 w0.drew := Below.drew (Below.refl _ _)
  refine wp_region_held_drew (S := fun w' => w'.cell? ⟨w.heap.size, 0, none⟩ = some (.slice A1 n1 c1) ∧ w'.cell? ⟨w.heap.size, 1, none⟩ = some (.slice A2 n2 c2)) (by kernel_rfl) ⟨q0, q1⟩ (fun hS => ?_)
  refine wpAnyH_takeD (i := 0) (v := ?_) rfl (by kernel_rfl) (by kernel_rfl) (by kernel_rfl) (fun _ _ _ h => h) (Or.inl ⟨by kernel_rfl, ?_⟩) hS ?_
  rotate_left 1
  · (intro w' hSw; (try dsimp only at hSw); go_simp; try (with_reducible rfl))
  try simp only [Act.put, List.setIfInBounds_toArray, List.set_cons_zero, List.set_cons_succ]
  refine wpAnyH_takeD (i := 1) (v := ?_) rfl (by kernel_rfl) (by kernel_rfl) (by kernel_rfl) (fun _ _ _ h => h) (Or.inl ⟨by kernel_rfl, ?_⟩) hS ?_
  rotate_left 1
  · (intro w' hSw; (try dsimp only at hSw); go_simp; try (with_reducible rfl))
  try simp only [Act.put, List.setIfInBounds_toArray, List.set_cons_zero, List.set_cons_succ]
  refine wpAnyH_takeD (i := 2) (v := ?_) rfl (by kernel_rfl) (by kernel_rfl) (by kernel_rfl) (fun _ _ _ h => h) (Or.inl ⟨by kernel_rfl, ?_⟩) hS ?_
  rotate_left 1
  · (intro w' hSw; (try dsimp only at hSw); go_simp; try (with_reducible rfl))
  try simp only [Act.put, List.setIfInBounds_toArray, List.set_cons_zero, List.set_cons_succ]
  refine wpAnyH_takeD (i := 4) (v := ?_) rfl (by kernel_rfl) (by kernel_rfl) (by kernel_rfl) (fun _ _ _ h => h) (Or.inl ⟨by kernel_rfl, ?_⟩) hS ?_
  rotate_left 1
  · (intro w' hSw; (try dsimp only at hSw); go_simp; try (with_reducible rfl))
  try simp only [Act.put, List.setIfInBounds_toArray, List.set_cons_zero, List.set_cons_succ]
  refine wpAnyH_oneD (i := 3) rfl (by kernel_rfl) (fun K hK => ?_)
  go_simp
  refine (rfill_any N true _ (by omega)).mono ?_
  rintro e Rw1 ⟨v1, rfl, hown1, hbRw1', _⟩
  have hbRw1 : Below w0.heap.size w0 Rw1 := hbd.trans (hbRw1'.mono hbd.size)
  have hzRw1 := hbRw1.size
  have rRw1_0 := (hbRw1.cell (p := ⟨w.heap.size, 0, none⟩) hzr).trans q0
  have rRw1_1 := (hbRw1.cell (p := ⟨w.heap.size, 1, none⟩) hzr).trans q1
  obtain ⟨D1, d1, rfl, hs1⟩ := own_sl hown1
  go_wp2_with fail
  refine hK.out _ _ ⟨rRw1_0, rRw1_1⟩ (fun hS => ?_)
  clear hK
  try simp only [Act.put, List.setIfInBounds_toArray, List.set_cons_zero, List.set_cons_succ]
  refine wpAnyH_oneD (i := 5) rfl (by kernel_rfl) (fun K hK => ?_)
  go_simp
  refine (HL.out D1 d1 Rw1 hbRw1 hs1).mono ?_
  rintro e Rw2 ⟨v2, rfl, hown2, hbRw2', hnil⟩
  have hbRw2 : Below w0.heap.size w0 Rw2 := hbRw1.trans (hbRw2'.mono hbRw1.size)
  have hzRw2 := hbRw2.size
  have rRw2_0 := (hbRw2.cell (p := ⟨w.heap.size, 0, none⟩) hzr).trans q0
  have rRw2_1 := (hbRw2.cell (p := ⟨w.heap.size, 1, none⟩) hzr).trans q1
  go_wp2_with fail
  refine hK.out _ _ ⟨rRw2_0, rRw2_1⟩ (fun hS => ?_)
  clear hK
  try simp only [Act.put, List.setIfInBounds_toArray, List.set_cons_zero, List.set_cons_succ]
  refine wpAnyH_takeD (i := 6) (v := ?_) rfl (by kernel_rfl) (by kernel_rfl) (by kernel_rfl) (fun _ _ _ h => h) (Or.inl ⟨by kernel_rfl, ?_⟩) hS ?_
  rotate_left 1
  · (intro w' hSw; (try dsimp only at hSw); go_simp; try (with_reducible rfl))
  try simp only [Act.put, List.setIfInBounds_toArray, List.set_cons_zero, List.set_cons_succ]
  refine wpAnyH_done (by kernel_rfl) ?_ _
  go_wp2
  go_ret
  exact ⟨_, rfl, own_base hown2 (Nat.le_trans HB0.out.size hbRw1.size), HB0.out.trans (hbRw2.mono HB0.out.size), hnil⟩
set_option maxHeartbeats 4000000 in
set_option maxRecDepth 100000 in
theorem rone12_any (A1 A2 A : Option Addr) (n1 c1 n2 c2 n c : Nat) (m : Int) (bt : Int → Nat → Bool) (a : List Bool) (w : World) (B : Nat) (hl : n1 + n2 ≤ 60000) (h2 : 0 < n2) (hn : n = n1 + n2) (hal : a.length = n1 + n2) (hs : Sl w B 1 A n c (bcells a)) (hB : B ≤ w.heap.size) :
    Calls Tryd.prog 47 #[.int .i64 12, .agg #[.slice A1 n1 c1, .slice A2 n2 c2], .slice A n c] w (NewRow w 4 1 (n1 + n2) (bcells (placesL bt (n1 + n2) n1 ⟨12, m⟩ a [])) False) := by
  have hpl : placesL bt (n1 + n2) n1 ⟨12, m⟩ a [] = flipL (untL n1 (List.replicate (n1 + n2) true) (flipL a)) := by simp [placesL, yesL]
  rw [hpl]
  clear hpl
  obtain ⟨hb0, q0, q1⟩ := wbox w A1 A2 n1 c1 n2 c2
  obtain ⟨w0, hw0⟩ : ∃ W, W = w.alloc (.cells #[.slice A1 n1 c1, .slice A2 n2 c2] 35) := ⟨_, rfl⟩
  have hzr : w.heap.size < w0.heap.size := by rw [hw0]; simp
  rw [← hw0] at hb0 q0 q1
  have HW0 := Lib.hid hw0
  have HB0 := Lib.hid hb0
  have hB0 : B ≤ w0.heap.size := by omega
  have HL := Lib.hid (fun (D D' : Option Addr) (d d' : Nat) (W : World) (hb : Below w0.heap.size w0 W) (h1 : Sl W W.heap.size 1 D (n1 + n2) d (bcells (List.replicate (n1 + n2) true))) (h3 : Sl W W.heap.size 1 D' (n1 + n2) d' (bcells (flipL a))) => rleast_any A1 A2 D D' n1 c1 n2 c2 (n1 + n2) d (n1 + n2) d' (List.replicate (n1 + n2) true) (flipL a) W W.heap.size hl h2 rfl rfl (by simp) h1 ((flipL_len a).trans hal) h3 (Nat.le_refl _))
  have HNA := Lib.hid (fun (W : World) (hb : Below w0.heap.size w0 W) => rnot_any A n c a W B (hn.trans hal.symm) ((hs.below hb0 hB).below hb hB0) (Nat.le_trans hB0 hb.size) (by omega))
  have HUL := Lib.hid (show n1 + n2 = (untL n1 (List.replicate (n1 + n2) true) (flipL a)).length by rw [untL_len]; simp)
  subst hn
  generalize hN : n1 + n2 = N at *
  clear hw0 hs hal hb0
  go_enter Tryd.func47, Tryd.ntmps47
  go_wp2_with fail
  rw [← HW0.out]
  have hbd : Below w0.heap.size w0 w0.drew := Below.drew (Below.refl _ _)
  refine wp_region_held_drew (S := fun w' => w'.cell? ⟨w.heap.size, 0, none⟩ = some (.slice A1 n1 c1) ∧ w'.cell? ⟨w.heap.size, 1, none⟩ = some (.slice A2 n2 c2)) (by kernel_rfl) ⟨q0, q1⟩ (fun hS => ?_)
  refine wpAnyH_takeD (i := 0) (v := ?_) rfl (by kernel_rfl) (by kernel_rfl) (by kernel_rfl) (fun _ _ _ h => h) (Or.inl ⟨by kernel_rfl, ?_⟩) hS ?_
  rotate_left 1
  · (intro w' hSw; (try dsimp only at hSw); go_simp; try (with_reducible rfl))
  try simp only [Act.put, List.setIfInBounds_toArray, List.set_cons_zero, List.set_cons_succ]
  refine wpAnyH_takeD (i := 1) (v := ?_) rfl (by kernel_rfl) (by kernel_rfl) (by kernel_rfl) (fun _ _ _ h => h) (Or.inl ⟨by kernel_rfl, ?_⟩) hS ?_
  rotate_left 1
  · (intro w' hSw; (try dsimp only at hSw); go_simp; try (with_reducible rfl))
  try simp only [Act.put, List.setIfInBounds_toArray, List.set_cons_zero, List.set_cons_succ]
  refine wpAnyH_takeD (i := 2) (v := ?_) rfl (by kernel_rfl) (by kernel_rfl) (by kernel_rfl) (fun _ _ _ h => h) (Or.inl ⟨by kernel_rfl, ?_⟩) hS ?_
  rotate_left 1
  · (intro w' hSw; (try dsimp only at hSw); go_simp; try (with_reducible rfl))
  try simp only [Act.put, List.setIfInBounds_toArray, List.set_cons_zero, List.set_cons_succ]
  refine wpAnyH_takeD (i := 4) (v := ?_) rfl (by kernel_rfl) (by kernel_rfl) (by kernel_rfl) (fun _ _ _ h => h) (Or.inl ⟨by kernel_rfl, ?_⟩) hS ?_
  rotate_left 1
  · (intro w' hSw; (try dsimp only at hSw); go_simp; try (with_reducible rfl))
  try simp only [Act.put, List.setIfInBounds_toArray, List.set_cons_zero, List.set_cons_succ]
  refine wpAnyH_oneD (i := 3) rfl (by kernel_rfl) (fun K hK => ?_)
  go_simp
  refine (rfill_any N true _ (by omega)).mono ?_
  rintro e Rw1 ⟨v1, rfl, hown1, hbRw1', _⟩
  have hbRw1 : Below w0.heap.size w0 Rw1 := hbd.trans (hbRw1'.mono hbd.size)
  have hzRw1 := hbRw1.size
  have rRw1_0 := (hbRw1.cell (p := ⟨w.heap.size, 0, none⟩) hzr).trans q0
  have rRw1_1 := (hbRw1.cell (p := ⟨w.heap.size, 1, none⟩) hzr).trans q1
  obtain ⟨D1, d1, rfl, hs1⟩ := own_sl hown1
  go_wp2_with fail
  refine hK.out _ _ ⟨rRw1_0, rRw1_1⟩ (fun hS => ?_)
  clear hK
  try simp only [Act.put, List.setIfInBounds_toArray, List.set_cons_zero, List.set_cons_succ]
  refine wpAnyH_oneD (i := 5) rfl (by kernel_rfl) (fun K hK => ?_)
  go_simp
  refine (HNA.out Rw1 hbRw1).mono ?_
  rintro e Rw2 ⟨v2, rfl, hown2, hbRw2', _⟩
  have hbRw2 : Below w0.heap.size w0 Rw2 := hbRw1.trans (hbRw2'.mono hbRw1.size)
  have hzRw2 := hbRw2.size
  have rRw2_0 := (hbRw2.cell (p := ⟨w.heap.size, 0, none⟩) hzr).trans q0
  have rRw2_1 := (hbRw2.cell (p := ⟨w.heap.size, 1, none⟩) hzr).trans q1
  obtain ⟨D2, d2, rfl, hs2⟩ := own_sl hown2
  go_wp2_with fail
  refine hK.out _ _ ⟨rRw2_0, rRw2_1⟩ (fun hS => ?_)
  clear hK
  try simp only [Act.put, List.setIfInBounds_toArray, List.set_cons_zero, List.set_cons_succ]
  refine wpAnyH_oneD (i := 6) rfl (by kernel_rfl) (fun K hK => ?_)
  go_simp
  refine (HL.out D1 D2 d1 d2 Rw2 hbRw2 ((hs1.below hbRw2' (Nat.le_refl _)).up hbRw2'.size) hs2).mono ?_
  rintro e Rw3 ⟨v3, rfl, hown3, hbRw3', _⟩
  have hbRw3 : Below w0.heap.size w0 Rw3 := hbRw2.trans (hbRw3'.mono hbRw2.size)
  have hzRw3 := hbRw3.size
  have rRw3_0 := (hbRw3.cell (p := ⟨w.heap.size, 0, none⟩) hzr).trans q0
  have rRw3_1 := (hbRw3.cell (p := ⟨w.heap.size, 1, none⟩) hzr).trans q1
  obtain ⟨D3, d3, rfl, hs3⟩ := own_sl hown3
  go_wp2_with fail
  refine hK.out _ _ ⟨rRw3_0, rRw3_1⟩ (fun hS => ?_)
  clear hK
  try simp only [Act.put, List.setIfInBounds_toArray, List.set_cons_zero, List.set_cons_succ]
  refine wpAnyH_oneD (i := 7) rfl (by kernel_rfl) (fun K hK => ?_)
  go_simp
  refine (rnot_any D3 N d3 (untL n1 (List.replicate N true) (flipL a)) Rw3 Rw3.heap.size HUL.out hs3 (Nat.le_refl _) (by omega)).mono ?_
  rintro e Rw4 ⟨v4, rfl, hown4, hbRw4', hnil⟩
  have hbRw4 : Below w0.heap.size w0 Rw4 := hbRw3.trans (hbRw4'.mono hbRw3.size)
  have hzRw4 := hbRw4.size
  have rRw4_0 := (hbRw4.cell (p := ⟨w.heap.size, 0, none⟩) hzr).trans q0
  have rRw4_1 := (hbRw4.cell (p := ⟨w.heap.size, 1, none⟩) hzr).trans q1
  go_wp2_with fail
  refine hK.out _ _ ⟨rRw4_0, rRw4_1⟩ (fun hS => ?_)
  clear hK
  try simp only [Act.put, List.setIfInBounds_toArray, List.set_cons_zero, List.set_cons_succ]
  refine wpAnyH_takeD (i := 8) (v := ?_) rfl (by kernel_rfl) (by kernel_rfl) (by kernel_rfl) (fun _ _ _ h => h) (Or.inl ⟨by kernel_rfl, ?_⟩) hS ?_
  rotate_left 1
  · (intro w' hSw; (try dsimp only at hSw); go_simp; try (with_reducible rfl))
  try simp only [Act.put, List.setIfInBounds_toArray, List.set_cons_zero, List.set_cons_succ]
  refine wpAnyH_done (by kernel_rfl) ?_ _
  go_wp2
  go_ret
  exact ⟨_, rfl, own_base hown4 (Nat.le_trans HB0.out.size hbRw3.size), HB0.out.trans (hbRw4.mono HB0.out.size), hnil⟩
set_option maxHeartbeats 4000000 in
set_option maxRecDepth 100000 in
theorem rone8_any (A1 A2 A : Option Addr) (n1 c1 n2 c2 n c : Nat) (m : Int) (bt : Int → Nat → Bool) (a : List Bool) (w : World) (B : Nat) (hl : n1 + n2 ≤ 60000) (h2 : 0 < n2) (hn : n = n1 + n2) (hal : a.length = n1 + n2) (hs : Sl w B 1 A n c (bcells a)) (hB : B ≤ w.heap.size) :
    Calls Tryd.prog 47 #[.int .i64 8, .agg #[.slice A1 n1 c1, .slice A2 n2 c2], .slice A n c] w (NewRow w 4 1 (n1 + n2) (bcells (placesL bt (n1 + n2) n1 ⟨8, m⟩ a [])) False) := by
  have hpl : placesL bt (n1 + n2) n1 ⟨8, m⟩ a [] = (List.range (n1 + n2)).map (fun i => a.getD (nx n1 (n1 + n2) i) false) := by rw [place_row (by simp)]; exact List.map_congr_left (fun i _ => by simp [place1])
  rw [hpl]
  clear hpl
  obtain ⟨hb0, q0, q1⟩ := wbox w A1 A2 n1 c1 n2 c2
  obtain ⟨w0, hw0⟩ : ∃ W, W = w.alloc (.cells #[.slice A1 n1 c1, .slice A2 n2 c2] 35) := ⟨_, rfl⟩
  have hzr : w.heap.size < w0.heap.size := by rw [hw0]; simp
  rw [← hw0] at hb0 q0 q1
  have HW0 := Lib.hid hw0
  have HB0 := Lib.hid hb0
  have hB0 : B ≤ w0.heap.size := by omega
  have HNX := Lib.hid (fun (k : Nat) (w' : World) (hk : k < n1 + n2) => rnext_any A1 A2 n1 c1 n2 c2 k w' hl hk)
  have hlp : n1 < n1 + n2 := by omega
  subst hn
  have hmk := run_make_row' (P := Tryd.prog) 73 4 (.bool false) 1 Tryd.underlying73 infoBool rfl .i64 .i64 (n1 + n2) (by omega) (by omega)
  have HA := Lib.hid (hs.below hb0 hB)
  generalize hN : n1 + n2 = N at *
  have HM := Lib.hid (bow_made w0 N (by omega))
  have HAL := Lib.hid hal
  have hzz : w0.heap.size = w.heap.size + 1 := by rw [hw0]; simp
  have H0 : Hid (Bow w0 (w0.alloc (.cells (madeCells #[.bool false] N) 4)) (w.heap.size + 1) N (upC N false (fun i => a.getD (nx n1 N i) false) 0)) := Lib.hid (by rw [upC_zero, ← hzz]; exact HM.out)
  clear hw0 hs hal hb0 hzz HM hN
  go_enter Tryd.func47, Tryd.ntmps47
  go_wp2_with fail
  rw [← HW0.out]
  clear HW0
  go_wp2
  go_loopw [8] (fun i wr => ∃ k : Nat, k ≤ N ∧ i = .int .i64 k ∧ Bow w0 wr (w.heap.size + 1) N (upC N false (fun i => a.getD (nx n1 N i) false) k)) (fun i _ => N - (intOf i).toNat)
  case atStart => exact ⟨0, by omega, rfl, H0.out⟩
  case round =>
    clear H0
    obtain ⟨k, hk, rfl, hBo⟩ := hrel
    by_cases hlt : k < N
    · have y0 := (hBo.bel.cell (p := ⟨w.heap.size, 0, none⟩) hzr).trans q0
      have y1 := (hBo.bel.cell (p := ⟨w.heap.size, 1, none⟩) hzr).trans q1
      have hnxl := nx_lt (lp := n1) (n := N) (i := k) hlp
      have HNXC := Lib.hid (HNX.out k wr hlt)
      have hst : (upC N false (fun i => a.getD (nx n1 N i) false) k).set k (a.getD (nx n1 N k) false) = upC N false (fun i => a.getD (nx n1 N i) false) (k + 1) := upC_step
      generalize nx n1 N k = j at *
      obtain ⟨hc, hf⟩ := hBo.cell hlt
      obtain ⟨ba, oa, rfl, hla, hca⟩ := (HA.out.below hBo.bel hB0).rd.at_ (bcells_at (l := a) (i := j) (by rw [HAL.out]; exact hnxl))
      have HST := Lib.hid hst
      have HBo := Lib.hid hBo
      clear hst hBo hc hf hca
      go_wp2_with fail
      refine Calls.mono HNXC.out ?_
      rintro e w5 ⟨rfl, hb5⟩
      have hB5 := HBo.out.below hb5
      obtain ⟨hc5, hf5⟩ := hB5.cell hlt
      obtain ⟨ba', oa', hA', hla', hca⟩ := (HA.out.below hB5.bel hB0).rd.at_ (bcells_at (l := a) (i := j) (by rw [HAL.out]; exact hnxl))
      cases hA'
      have hput := hB5.put k (a.getD j false)
      rw [HST.out] at hput
      have HP := Lib.hid hput
      generalize a.getD j false = x at *
      generalize (upC N false (fun i => a.getD (nx n1 N i) false) k).getD k false = u at *
      clear hB5 hput
      go_wp2
      go_roundw
      case rel => exact ⟨k + 1, by omega, by go_num, HP.out⟩
      case measure => simp [intOf]; omega
    · have hkn : k = N := by omega
      subst hkn
      rw [upC_end] at hBo
      have HB2 := Lib.hid hBo
      clear hBo
      go_wp2
      go_ret
      exact ⟨_, rfl, own_base HB2.out.own HB0.out.size, HB0.out.trans (HB2.out.bel.mono HB0.out.size), by simp⟩
set_option maxHeartbeats 4000000 in
set_option maxRecDepth 100000 in
theorem rtwo9_any (A1 A2 A A' : Option Addr) (n1 c1 n2 c2 n c n' c' : Nat) (m : Int) (bt : Int → Nat → Bool) (a b : List Bool) (w : World) (B : Nat) (hl : n1 + n2 ≤ 60000) (h2 : 0 < n2) (hn : n = n1 + n2) (hal : a.length = n1 + n2) (hs : Sl w B 1 A n c (bcells a)) (hn' : n' = n1 + n2) (hbl : b.length = n1 + n2) (hs' : Sl w B 1 A' n' c' (bcells b)) (hB : B ≤ w.heap.size) :
    Calls Tryd.prog 48 #[.int .i64 9, .agg #[.slice A1 n1 c1, .slice A2 n2 c2], .slice A n c, .slice A' n' c'] w (NewRow w 4 1 (n1 + n2) (bcells (placesL bt (n1 + n2) n1 ⟨9, m⟩ a b)) False) := by
  have hpl : placesL bt (n1 + n2) n1 ⟨9, m⟩ a b = untL n1 a b := by simp [placesL]
  rw [hpl]
  clear hpl
  obtain ⟨hb0, q0, q1⟩ := wbox w A1 A2 n1 c1 n2 c2
  obtain ⟨w0, hw0⟩ : ∃ W, W = w.alloc (.cells #[.slice A1 n1 c1, .slice A2 n2 c2] 35) := ⟨_, rfl⟩
  have hzr : w.heap.size < w0.heap.size := by rw [hw0]; simp
  rw [← hw0] at hb0 q0 q1
  have HW0 := Lib.hid hw0
  have HB0 := Lib.hid hb0
  have hB0 : B ≤ w0.heap.size := by omega
  have HL := Lib.hid (rleast_any A1 A2 A A' n1 c1 n2 c2 n c n' c' a b w0 B hl h2 hn hn' hal (hs.below hb0 hB) hbl (hs'.below hb0 hB) hB0)
  subst hn hn'
  generalize hN : n1 + n2 = N at *
  clear hw0 hs hs' hal hbl hb0
  go_enter Tryd.func48, Tryd.ntmps48
  go_wp2_with fail
  rw [← HW0.out]
  go_wp2_with fail
  refine Calls.mono HL.out ?_
  rintro e w1 ⟨v, rfl, hown, hb1, hnil⟩
  go_wp2
  go_ret
  exact ⟨_, rfl, own_base hown (Nat.le_trans HB0.out.size (Nat.le_refl _)), HB0.out.trans (hb1.mono HB0.out.size), hnil⟩
set_option maxHeartbeats 4000000 in
set_option maxRecDepth 100000 in
theorem rtwo10_any (A1 A2 A A' : Option Addr) (n1 c1 n2 c2 n c n' c' : Nat) (m : Int) (bt : Int → Nat → Bool) (a b : List Bool) (w : World) (B : Nat) (hl : n1 + n2 ≤ 60000) (h2 : 0 < n2) (hn : n = n1 + n2) (hal : a.length = n1 + n2) (hs : Sl w B 1 A n c (bcells a)) (hn' : n' = n1 + n2) (hbl : b.length = n1 + n2) (hs' : Sl w B 1 A' n' c' (bcells b)) (hB : B ≤ w.heap.size) :
    Calls Tryd.prog 48 #[.int .i64 10, .agg #[.slice A1 n1 c1, .slice A2 n2 c2], .slice A n c, .slice A' n' c'] w (NewRow w 4 1 (n1 + n2) (bcells (placesL bt (n1 + n2) n1 ⟨10, m⟩ a b)) False) := by
  have hpl : placesL bt (n1 + n2) n1 ⟨10, m⟩ a b = flipL (untL n1 (flipL a) (flipL b)) := by simp [placesL]
  rw [hpl]
  clear hpl
  obtain ⟨hb0, q0, q1⟩ := wbox w A1 A2 n1 c1 n2 c2
  obtain ⟨w0, hw0⟩ : ∃ W, W = w.alloc (.cells #[.slice A1 n1 c1, .slice A2 n2 c2] 35) := ⟨_, rfl⟩
  have hzr : w.heap.size < w0.heap.size := by rw [hw0]; simp
  rw [← hw0] at hb0 q0 q1
  have HW0 := Lib.hid hw0
  have HB0 := Lib.hid hb0
  have hB0 : B ≤ w0.heap.size := by omega
  have HL := Lib.hid (fun (D D' : Option Addr) (d d' : Nat) (W : World) (hb : Below w0.heap.size w0 W) (h1 : Sl W W.heap.size 1 D (n1 + n2) d (bcells (flipL a))) (h3 : Sl W W.heap.size 1 D' (n1 + n2) d' (bcells (flipL b))) => rleast_any A1 A2 D D' n1 c1 n2 c2 (n1 + n2) d (n1 + n2) d' (flipL a) (flipL b) W W.heap.size hl h2 rfl rfl ((flipL_len a).trans hal) h1 ((flipL_len b).trans hbl) h3 (Nat.le_refl _))
  have HNA := Lib.hid (fun (W : World) (hb : Below w0.heap.size w0 W) => rnot_any A n c a W B (hn.trans hal.symm) ((hs.below hb0 hB).below hb hB0) (Nat.le_trans hB0 hb.size) (by omega))
  have HNB := Lib.hid (fun (W : World) (hb : Below w0.heap.size w0 W) => rnot_any A' n' c' b W B (hn'.trans hbl.symm) ((hs'.below hb0 hB).below hb hB0) (Nat.le_trans hB0 hb.size) (by omega))
  have HUL := Lib.hid (show n1 + n2 = (untL n1 (flipL a) (flipL b)).length by rw [untL_len, flipL_len]; exact hal.symm)
  subst hn hn'
  generalize hN : n1 + n2 = N at *
  clear hw0 hs hs' hal hbl hb0
  go_enter Tryd.func48, Tryd.ntmps48
  go_wp2_with fail
  rw [← HW0.out]
  have hbd : Below w0.heap.size w0 w0.drew := Below.drew (Below.refl _ _)
  refine wp_region_held_drew (S := fun w' => w'.cell? ⟨w.heap.size, 0, none⟩ = some (.slice A1 n1 c1) ∧ w'.cell? ⟨w.heap.size, 1, none⟩ = some (.slice A2 n2 c2)) (by kernel_rfl) ⟨q0, q1⟩ (fun hS => ?_)
  refine wpAnyH_takeD (i := 0) (v := ?_) rfl (by kernel_rfl) (by kernel_rfl) (by kernel_rfl) (fun _ _ _ h => h) (Or.inl ⟨by kernel_rfl, ?_⟩) hS ?_
  rotate_left 1
  · (intro w' hSw; (try dsimp only at hSw); go_simp; try (with_reducible rfl))
  try simp only [Act.put, List.setIfInBounds_toArray, List.set_cons_zero, List.set_cons_succ]
  refine wpAnyH_takeD (i := 1) (v := ?_) rfl (by kernel_rfl) (by kernel_rfl) (by kernel_rfl) (fun _ _ _ h => h) (Or.inl ⟨by kernel_rfl, ?_⟩) hS ?_
  rotate_left 1
  · (intro w' hSw; (try dsimp only at hSw); go_simp; try (with_reducible rfl))
  try simp only [Act.put, List.setIfInBounds_toArray, List.set_cons_zero, List.set_cons_succ]
  refine wpAnyH_takeD (i := 3) (v := ?_) rfl (by kernel_rfl) (by kernel_rfl) (by kernel_rfl) (fun _ _ _ h => h) (Or.inl ⟨by kernel_rfl, ?_⟩) hS ?_
  rotate_left 1
  · (intro w' hSw; (try dsimp only at hSw); go_simp; try (with_reducible rfl))
  try simp only [Act.put, List.setIfInBounds_toArray, List.set_cons_zero, List.set_cons_succ]
  refine wpAnyH_oneD (i := 2) rfl (by kernel_rfl) (fun K hK => ?_)
  go_simp
  refine (HNA.out _ hbd).mono ?_
  rintro e Rw1 ⟨v1, rfl, hown1, hbRw1', _⟩
  have hbRw1 : Below w0.heap.size w0 Rw1 := hbd.trans (hbRw1'.mono hbd.size)
  have hzRw1 := hbRw1.size
  have rRw1_0 := (hbRw1.cell (p := ⟨w.heap.size, 0, none⟩) hzr).trans q0
  have rRw1_1 := (hbRw1.cell (p := ⟨w.heap.size, 1, none⟩) hzr).trans q1
  obtain ⟨D1, d1, rfl, hs1⟩ := own_sl hown1
  go_wp2_with fail
  refine hK.out _ _ ⟨rRw1_0, rRw1_1⟩ (fun hS => ?_)
  clear hK
  try simp only [Act.put, List.setIfInBounds_toArray, List.set_cons_zero, List.set_cons_succ]
  refine wpAnyH_oneD (i := 4) rfl (by kernel_rfl) (fun K hK => ?_)
  go_simp
  refine (HNB.out Rw1 hbRw1).mono ?_
  rintro e Rw2 ⟨v2, rfl, hown2, hbRw2', _⟩
  have hbRw2 : Below w0.heap.size w0 Rw2 := hbRw1.trans (hbRw2'.mono hbRw1.size)
  have hzRw2 := hbRw2.size
  have rRw2_0 := (hbRw2.cell (p := ⟨w.heap.size, 0, none⟩) hzr).trans q0
  have rRw2_1 := (hbRw2.cell (p := ⟨w.heap.size, 1, none⟩) hzr).trans q1
  obtain ⟨D2, d2, rfl, hs2⟩ := own_sl hown2
  go_wp2_with fail
  refine hK.out _ _ ⟨rRw2_0, rRw2_1⟩ (fun hS => ?_)
  clear hK
  try simp only [Act.put, List.setIfInBounds_toArray, List.set_cons_zero, List.set_cons_succ]
  refine wpAnyH_oneD (i := 5) rfl (by kernel_rfl) (fun K hK => ?_)
  go_simp
  refine (HL.out D1 D2 d1 d2 Rw2 hbRw2 ((hs1.below hbRw2' (Nat.le_refl _)).up hbRw2'.size) hs2).mono ?_
  rintro e Rw3 ⟨v3, rfl, hown3, hbRw3', _⟩
  have hbRw3 : Below w0.heap.size w0 Rw3 := hbRw2.trans (hbRw3'.mono hbRw2.size)
  have hzRw3 := hbRw3.size
  have rRw3_0 := (hbRw3.cell (p := ⟨w.heap.size, 0, none⟩) hzr).trans q0
  have rRw3_1 := (hbRw3.cell (p := ⟨w.heap.size, 1, none⟩) hzr).trans q1
  obtain ⟨D3, d3, rfl, hs3⟩ := own_sl hown3
  go_wp2_with fail
  refine hK.out _ _ ⟨rRw3_0, rRw3_1⟩ (fun hS => ?_)
  clear hK
  try simp only [Act.put, List.setIfInBounds_toArray, List.set_cons_zero, List.set_cons_succ]
  refine wpAnyH_oneD (i := 6) rfl (by kernel_rfl) (fun K hK => ?_)
  go_simp
  refine (rnot_any D3 N d3 (untL n1 (flipL a) (flipL b)) Rw3 Rw3.heap.size HUL.out hs3 (Nat.le_refl _) (by omega)).mono ?_
  rintro e Rw4 ⟨v4, rfl, hown4, hbRw4', hnil⟩
  have hbRw4 : Below w0.heap.size w0 Rw4 := hbRw3.trans (hbRw4'.mono hbRw3.size)
  have hzRw4 := hbRw4.size
  have rRw4_0 := (hbRw4.cell (p := ⟨w.heap.size, 0, none⟩) hzr).trans q0
  have rRw4_1 := (hbRw4.cell (p := ⟨w.heap.size, 1, none⟩) hzr).trans q1
  go_wp2_with fail
  refine hK.out _ _ ⟨rRw4_0, rRw4_1⟩ (fun hS => ?_)
  clear hK
  try simp only [Act.put, List.setIfInBounds_toArray, List.set_cons_zero, List.set_cons_succ]
  refine wpAnyH_takeD (i := 7) (v := ?_) rfl (by kernel_rfl) (by kernel_rfl) (by kernel_rfl) (fun _ _ _ h => h) (Or.inl ⟨by kernel_rfl, ?_⟩) hS ?_
  rotate_left 1
  · (intro w' hSw; (try dsimp only at hSw); go_simp; try (with_reducible rfl))
  try simp only [Act.put, List.setIfInBounds_toArray, List.set_cons_zero, List.set_cons_succ]
  refine wpAnyH_done (by kernel_rfl) ?_ _
  go_wp2
  go_ret
  exact ⟨_, rfl, own_base hown4 (Nat.le_trans HB0.out.size hbRw3.size), HB0.out.trans (hbRw4.mono HB0.out.size), hnil⟩
set_option maxHeartbeats 4000000 in
set_option maxRecDepth 100000 in
theorem rtwo5_any (A1 A2 A A' : Option Addr) (n1 c1 n2 c2 n c n' c' : Nat) (m : Int) (bt : Int → Nat → Bool) (a b : List Bool) (w : World) (B : Nat) (hl : n1 + n2 ≤ 60000) (_h2 : 0 < n2) (hn : n = n1 + n2) (hal : a.length = n1 + n2) (hs : Sl w B 1 A n c (bcells a)) (hn' : n' = n1 + n2) (hbl : b.length = n1 + n2) (hs' : Sl w B 1 A' n' c' (bcells b)) (hB : B ≤ w.heap.size) :
    Calls Tryd.prog 48 #[.int .i64 5, .agg #[.slice A1 n1 c1, .slice A2 n2 c2], .slice A n c, .slice A' n' c'] w (NewRow w 4 1 (n1 + n2) (bcells (placesL bt (n1 + n2) n1 ⟨5, m⟩ a b)) False) := by
  have hpl : placesL bt (n1 + n2) n1 ⟨5, m⟩ a b = (List.range (n1 + n2)).map (fun i => a.getD i false && b.getD i false) := by rw [place_row (by simp)]; exact List.map_congr_left (fun i _ => by simp [place1])
  rw [hpl]
  clear hpl
  obtain ⟨hb0, q0, q1⟩ := wbox w A1 A2 n1 c1 n2 c2
  obtain ⟨w0, hw0⟩ : ∃ W, W = w.alloc (.cells #[.slice A1 n1 c1, .slice A2 n2 c2] 35) := ⟨_, rfl⟩
  have hzr : w.heap.size < w0.heap.size := by rw [hw0]; simp
  rw [← hw0] at hb0 q0 q1
  have HW0 := Lib.hid hw0
  have HB0 := Lib.hid hb0
  have hB0 : B ≤ w0.heap.size := by omega
  subst hn hn'
  have hmk := run_make_row' (P := Tryd.prog) 73 4 (.bool false) 1 Tryd.underlying73 infoBool rfl .i64 .i64 (n1 + n2) (by omega) (by omega)
  have HA := Lib.hid (hs.below hb0 hB)
  have HA' := Lib.hid (hs'.below hb0 hB)
  generalize hN : n1 + n2 = N at *
  have HM := Lib.hid (bow_made w0 N (by omega))
  have HAL := Lib.hid hal
  have HBL := Lib.hid hbl
  have hzz : w0.heap.size = w.heap.size + 1 := by rw [hw0]; simp
  have H0 : Hid (Bow w0 (w0.alloc (.cells (madeCells #[.bool false] N) 4)) (w.heap.size + 1) N (upC N false (fun i => a.getD i false && b.getD i false) 0)) := Lib.hid (by rw [upC_zero, ← hzz]; exact HM.out)
  clear hw0 hs hs' hal hbl hb0 hzz HM hN q0 q1
  go_enter Tryd.func48, Tryd.ntmps48
  go_wp2_with fail
  rw [← HW0.out]
  clear HW0
  go_wp2
  go_loopw [10] (fun i wr => ∃ k : Nat, k ≤ N ∧ i = .int .i64 k ∧ Bow w0 wr (w.heap.size + 1) N (upC N false (fun i => a.getD i false && b.getD i false) k)) (fun i _ => N - (intOf i).toNat)
  case atStart => exact ⟨0, by omega, rfl, H0.out⟩
  case round =>
    clear H0
    obtain ⟨k, hk, rfl, hBo⟩ := hrel
    by_cases hlt : k < N
    · obtain ⟨hc, hf⟩ := hBo.cell hlt
      obtain ⟨ba, oa, rfl, hla, hca⟩ := (HA.out.below hBo.bel hB0).rd.at_ (bcells_at (l := a) (i := k) (by rw [HAL.out]; exact hlt))
      obtain ⟨bb, ob, rfl, hlb, hcb⟩ := (HA'.out.below hBo.bel hB0).rd.at_ (bcells_at (l := b) (i := k) (by rw [HBL.out]; exact hlt))
      have hst : (upC N false (fun i => a.getD i false && b.getD i false) k).set k (a.getD k false && b.getD k false) = upC N false (fun i => a.getD i false && b.getD i false) (k + 1) := upC_step
      have hput := hBo.put k (a.getD k false && b.getD k false)
      rw [hst] at hput
      generalize hu : (upC N false (fun i => a.getD i false && b.getD i false) k).getD k false = u at *
      clear hst hu
      generalize hx : a.getD k false = x at *
      generalize hy : b.getD k false = y at *
      clear hx hy hBo
      have HP := Lib.hid hput
      clear hput
      cases x <;> cases y <;>
      · go_wp2
        go_roundw
        case rel => exact ⟨k + 1, by omega, by go_num, HP.out⟩
        case measure => simp [intOf]; omega
    · have hkn : k = N := by omega
      subst hkn
      rw [upC_end] at hBo
      have HB2 := Lib.hid hBo
      clear hBo
      go_wp2
      go_ret
      exact ⟨_, rfl, own_base HB2.out.own HB0.out.size, HB0.out.trans (HB2.out.bel.mono HB0.out.size), by simp⟩
set_option maxHeartbeats 4000000 in
set_option maxRecDepth 100000 in
theorem rtwo6_any (A1 A2 A A' : Option Addr) (n1 c1 n2 c2 n c n' c' : Nat) (m : Int) (bt : Int → Nat → Bool) (a b : List Bool) (w : World) (B : Nat) (hl : n1 + n2 ≤ 60000) (_h2 : 0 < n2) (hn : n = n1 + n2) (hal : a.length = n1 + n2) (hs : Sl w B 1 A n c (bcells a)) (hn' : n' = n1 + n2) (hbl : b.length = n1 + n2) (hs' : Sl w B 1 A' n' c' (bcells b)) (hB : B ≤ w.heap.size) :
    Calls Tryd.prog 48 #[.int .i64 6, .agg #[.slice A1 n1 c1, .slice A2 n2 c2], .slice A n c, .slice A' n' c'] w (NewRow w 4 1 (n1 + n2) (bcells (placesL bt (n1 + n2) n1 ⟨6, m⟩ a b)) False) := by
  have hpl : placesL bt (n1 + n2) n1 ⟨6, m⟩ a b = (List.range (n1 + n2)).map (fun i => a.getD i false || b.getD i false) := by rw [place_row (by simp)]; exact List.map_congr_left (fun i _ => by simp [place1])
  rw [hpl]
  clear hpl
  obtain ⟨hb0, q0, q1⟩ := wbox w A1 A2 n1 c1 n2 c2
  obtain ⟨w0, hw0⟩ : ∃ W, W = w.alloc (.cells #[.slice A1 n1 c1, .slice A2 n2 c2] 35) := ⟨_, rfl⟩
  have hzr : w.heap.size < w0.heap.size := by rw [hw0]; simp
  rw [← hw0] at hb0 q0 q1
  have HW0 := Lib.hid hw0
  have HB0 := Lib.hid hb0
  have hB0 : B ≤ w0.heap.size := by omega
  subst hn hn'
  have hmk := run_make_row' (P := Tryd.prog) 73 4 (.bool false) 1 Tryd.underlying73 infoBool rfl .i64 .i64 (n1 + n2) (by omega) (by omega)
  have HA := Lib.hid (hs.below hb0 hB)
  have HA' := Lib.hid (hs'.below hb0 hB)
  generalize hN : n1 + n2 = N at *
  have HM := Lib.hid (bow_made w0 N (by omega))
  have HAL := Lib.hid hal
  have HBL := Lib.hid hbl
  have hzz : w0.heap.size = w.heap.size + 1 := by rw [hw0]; simp
  have H0 : Hid (Bow w0 (w0.alloc (.cells (madeCells #[.bool false] N) 4)) (w.heap.size + 1) N (upC N false (fun i => a.getD i false || b.getD i false) 0)) := Lib.hid (by rw [upC_zero, ← hzz]; exact HM.out)
  clear hw0 hs hs' hal hbl hb0 hzz HM hN q0 q1
  go_enter Tryd.func48, Tryd.ntmps48
  go_wp2_with fail
  rw [← HW0.out]
  clear HW0
  go_wp2
  go_loopw [10] (fun i wr => ∃ k : Nat, k ≤ N ∧ i = .int .i64 k ∧ Bow w0 wr (w.heap.size + 1) N (upC N false (fun i => a.getD i false || b.getD i false) k)) (fun i _ => N - (intOf i).toNat)
  case atStart => exact ⟨0, by omega, rfl, H0.out⟩
  case round =>
    clear H0
    obtain ⟨k, hk, rfl, hBo⟩ := hrel
    by_cases hlt : k < N
    · obtain ⟨hc, hf⟩ := hBo.cell hlt
      obtain ⟨ba, oa, rfl, hla, hca⟩ := (HA.out.below hBo.bel hB0).rd.at_ (bcells_at (l := a) (i := k) (by rw [HAL.out]; exact hlt))
      obtain ⟨bb, ob, rfl, hlb, hcb⟩ := (HA'.out.below hBo.bel hB0).rd.at_ (bcells_at (l := b) (i := k) (by rw [HBL.out]; exact hlt))
      have hst : (upC N false (fun i => a.getD i false || b.getD i false) k).set k (a.getD k false || b.getD k false) = upC N false (fun i => a.getD i false || b.getD i false) (k + 1) := upC_step
      have hput := hBo.put k (a.getD k false || b.getD k false)
      rw [hst] at hput
      generalize hu : (upC N false (fun i => a.getD i false || b.getD i false) k).getD k false = u at *
      clear hst hu
      generalize hx : a.getD k false = x at *
      generalize hy : b.getD k false = y at *
      clear hx hy hBo
      have HP := Lib.hid hput
      clear hput
      cases x <;> cases y <;>
      · go_wp2
        go_roundw
        case rel => exact ⟨k + 1, by omega, by go_num, HP.out⟩
        case measure => simp [intOf]; omega
    · have hkn : k = N := by omega
      subst hkn
      rw [upC_end] at hBo
      have HB2 := Lib.hid hBo
      clear hBo
      go_wp2
      go_ret
      exact ⟨_, rfl, own_base HB2.out.own HB0.out.size, HB0.out.trans (HB2.out.bel.mono HB0.out.size), by simp⟩
set_option maxHeartbeats 4000000 in
set_option maxRecDepth 100000 in
theorem rtwo7_any (A1 A2 A A' : Option Addr) (n1 c1 n2 c2 n c n' c' : Nat) (m : Int) (bt : Int → Nat → Bool) (a b : List Bool) (w : World) (B : Nat) (hl : n1 + n2 ≤ 60000) (_h2 : 0 < n2) (hn : n = n1 + n2) (hal : a.length = n1 + n2) (hs : Sl w B 1 A n c (bcells a)) (hn' : n' = n1 + n2) (hbl : b.length = n1 + n2) (hs' : Sl w B 1 A' n' c' (bcells b)) (hB : B ≤ w.heap.size) :
    Calls Tryd.prog 48 #[.int .i64 7, .agg #[.slice A1 n1 c1, .slice A2 n2 c2], .slice A n c, .slice A' n' c'] w (NewRow w 4 1 (n1 + n2) (bcells (placesL bt (n1 + n2) n1 ⟨7, m⟩ a b)) False) := by
  have hpl : placesL bt (n1 + n2) n1 ⟨7, m⟩ a b = (List.range (n1 + n2)).map (fun i => !a.getD i false || b.getD i false) := by rw [place_row (by simp)]; exact List.map_congr_left (fun i _ => by simp [place1])
  rw [hpl]
  clear hpl
  obtain ⟨hb0, q0, q1⟩ := wbox w A1 A2 n1 c1 n2 c2
  obtain ⟨w0, hw0⟩ : ∃ W, W = w.alloc (.cells #[.slice A1 n1 c1, .slice A2 n2 c2] 35) := ⟨_, rfl⟩
  have hzr : w.heap.size < w0.heap.size := by rw [hw0]; simp
  rw [← hw0] at hb0 q0 q1
  have HW0 := Lib.hid hw0
  have HB0 := Lib.hid hb0
  have hB0 : B ≤ w0.heap.size := by omega
  subst hn hn'
  have hmk := run_make_row' (P := Tryd.prog) 73 4 (.bool false) 1 Tryd.underlying73 infoBool rfl .i64 .i64 (n1 + n2) (by omega) (by omega)
  have HA := Lib.hid (hs.below hb0 hB)
  have HA' := Lib.hid (hs'.below hb0 hB)
  generalize hN : n1 + n2 = N at *
  have HM := Lib.hid (bow_made w0 N (by omega))
  have HAL := Lib.hid hal
  have HBL := Lib.hid hbl
  have hzz : w0.heap.size = w.heap.size + 1 := by rw [hw0]; simp
  have H0 : Hid (Bow w0 (w0.alloc (.cells (madeCells #[.bool false] N) 4)) (w.heap.size + 1) N (upC N false (fun i => !a.getD i false || b.getD i false) 0)) := Lib.hid (by rw [upC_zero, ← hzz]; exact HM.out)
  clear hw0 hs hs' hal hbl hb0 hzz HM hN q0 q1
  go_enter Tryd.func48, Tryd.ntmps48
  go_wp2_with fail
  rw [← HW0.out]
  clear HW0
  go_wp2
  go_loopw [10] (fun i wr => ∃ k : Nat, k ≤ N ∧ i = .int .i64 k ∧ Bow w0 wr (w.heap.size + 1) N (upC N false (fun i => !a.getD i false || b.getD i false) k)) (fun i _ => N - (intOf i).toNat)
  case atStart => exact ⟨0, by omega, rfl, H0.out⟩
  case round =>
    clear H0
    obtain ⟨k, hk, rfl, hBo⟩ := hrel
    by_cases hlt : k < N
    · obtain ⟨hc, hf⟩ := hBo.cell hlt
      obtain ⟨ba, oa, rfl, hla, hca⟩ := (HA.out.below hBo.bel hB0).rd.at_ (bcells_at (l := a) (i := k) (by rw [HAL.out]; exact hlt))
      obtain ⟨bb, ob, rfl, hlb, hcb⟩ := (HA'.out.below hBo.bel hB0).rd.at_ (bcells_at (l := b) (i := k) (by rw [HBL.out]; exact hlt))
      have hst : (upC N false (fun i => !a.getD i false || b.getD i false) k).set k (!a.getD k false || b.getD k false) = upC N false (fun i => !a.getD i false || b.getD i false) (k + 1) := upC_step
      have hput := hBo.put k (!a.getD k false || b.getD k false)
      rw [hst] at hput
      generalize hu : (upC N false (fun i => !a.getD i false || b.getD i false) k).getD k false = u at *
      clear hst hu
      generalize hx : a.getD k false = x at *
      generalize hy : b.getD k false = y at *
      clear hx hy hBo
      have HP := Lib.hid hput
      clear hput
      cases x <;> cases y <;>
      · go_wp2
        go_roundw
        case rel => exact ⟨k + 1, by omega, by go_num, HP.out⟩
        case measure => simp [intOf]; omega
    · have hkn : k = N := by omega
      subst hkn
      rw [upC_end] at hBo
      have HB2 := Lib.hid hBo
      clear hBo
      go_wp2
      go_ret
      exact ⟨_, rfl, own_base HB2.out.own HB0.out.size, HB0.out.trans (HB2.out.bel.mono HB0.out.size), by simp⟩
end Go.Proofs.YtamhjgkigjpbhaaDoor
