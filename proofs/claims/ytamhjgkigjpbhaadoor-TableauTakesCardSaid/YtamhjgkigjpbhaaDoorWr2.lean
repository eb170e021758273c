/- The walks of layer 27's reference: leaf. -/
import Derived.Test.YtamhjgkigjpbhaaDoorZbt
import Derived.Test.YtamhjgkigjpbhaaDoorZbv
namespace Go.Proofs.YtamhjgkigjpbhaaDoor
open Go.RowKit

/-- A row of bools under way, with some capacity. -/
structure Boc (w wr : World) (g n cap : Nat) (l : List Bool) : Prop where
  own : wr.ownsRow w.heap.size 4 1 (.slice (some ⟨g, 0, none⟩) n cap) n (bcells l)
  bel : Below w.heap.size w wr
section
variable {w wr w2 : World} {g n cap : Nat} {l : List Bool}
theorem Boc.len (h : Boc w wr g n cap l) : l.length = n := by have := h.own.1; rw [bcells_len] at this; omega
theorem Boc.lt (h : Boc w wr g n cap l) : w.heap.size ≤ g ∧ g < wr.heap.size := h.own.lt g rfl
theorem Boc.below (h : Boc w wr g n cap l) (hb : Below wr.heap.size wr w2) : Boc w w2 g n cap l := ⟨own_below h.own hb, h.bel.trans (hb.mono h.bel.size)⟩
theorem Boc.cell (h : Boc w wr g n cap l) {k : Nat} (hk : k < n) : wr.cell? ⟨g, k, none⟩ = some (.bool (l.getD k false)) ∧ wr.frozen? ⟨g, k, none⟩ = false := by
  refine ⟨?_, h.own.frozenAt k⟩
  rw [h.own.cellAt k (by omega)]
  exact bcells_at (by rw [h.len]; exact hk)
theorem Boc.put (h : Boc w wr g n cap l) (k : Nat) (b : Bool) : Boc w (wr.setCell ⟨g, k, none⟩ (.bool b)) g n cap (l.set k b) := by
  refine ⟨?_, ?_⟩
  · have := (h.own.stored k (.bool b)).1
    rw [show bcells (l.set k b) = (bcells l).set k (.bool b) by simp [bcells, List.map_set]]; exact this
  · exact h.bel.trans ((Tch.of_grown (h.own.stored k (.bool b)).2).below h.bel.size (fun j hj e => by cases e; have := h.lt; omega))
theorem boc_form {w0 : World} {v : Value} (h : wr.ownsRow w0.heap.size 4 1 v n (bcells l)) (hb : Below w0.heap.size w0 wr) (hn : 0 < n) : ∃ g cap, v = .slice (some ⟨g, 0, none⟩) n cap ∧ Boc w0 wr g n cap l := by
  obtain ⟨g, cap, rfl, _⟩ := own_form h hn
  exact ⟨g, cap, rfl, h, hb⟩
end
/-- A row of bools, filled as far as k, else c. -/
def upC (n : Nat) (c : Bool) (F : Nat → Bool) (k : Nat) : List Bool := (List.range n).map fun i => if i < k then F i else c
theorem upC_zero (n : Nat) (c : Bool) (F : Nat → Bool) : upC n c F 0 = List.replicate n c := by apply List.ext_getElem <;> simp [upC]
theorem upC_step {n k : Nat} {c : Bool} {F : Nat → Bool} : (upC n c F k).set k (F k) = upC n c F (k + 1) := by
  apply List.ext_getElem (by simp [upC])
  intro i h1 h2
  simp only [upC, List.getElem_set, List.getElem_map, List.getElem_range]
  by_cases e : k = i
  · subst e; simp
  · rw [if_neg e]
    by_cases h : i < k
    · rw [if_pos h, if_pos (by omega)]
    · rw [if_neg h, if_neg (by omega)]
theorem upC_end (n : Nat) (c : Bool) (F : Nat → Bool) : upC n c F n = (List.range n).map F :=
  List.map_congr_left (fun i hi => by rw [if_pos (List.mem_range.1 hi)])
theorem atW_nat (st lo : List Int) (k : Nat) : atW st lo (k : Int) = seqW st lo k := by rw [atW, if_neg (by omega), Int.toNat_natCast]
theorem and_one {x : Int} (h : 0 ≤ x) : (Go.bits .and .u64 x 1 == 1) = (x.tmod 2 == 1) := by
  obtain ⟨n, rfl⟩ := Int.eq_ofNat_of_zero_le h
  rw [Int.tmod_eq_emod_of_nonneg (by omega)]
  show (IntKind.u64.wrap ((BitVec.ofInt 64 (n : Int) &&& BitVec.ofInt 64 1).toNat : Int) == 1) = _
  rw [BitVec.toNat_and, BitVec.ofInt_natCast, BitVec.toNat_ofNat, show (BitVec.ofInt 64 1).toNat = 1 by decide, Nat.and_one_is_mod, IntKind.wrap_u64]
  rw [Bool.eq_iff_iff, beq_iff_eq, beq_iff_eq]
  omega
set_option maxHeartbeats 4000000 in
set_option maxRecDepth 100000 in
theorem rleaf3_any (A1 A2 : Option Addr) (n1 c1 n2 c2 : Nat) (m : Int) (st lo : List Int) (w : World) (B : Nat) (h : WRd w B A1 A2 n1 c1 n2 c2 st lo) (hB : B ≤ w.heap.size) (hl : n1 + n2 ≤ 60000) (h2 : 0 < n2) (hm : 0 ≤ m ∧ m < 8) (hnn : ∀ k, 0 ≤ seqW st lo k) :
    Calls Tryd.prog 46 #[.agg #[.int .i64 3, .int .i64 m], .agg #[.slice A1 n1 c1, .slice A2 n2 c2]] w (NewRow w 4 1 (n1 + n2) (bcells (placesL (wbit st lo) (n1 + n2) n1 ⟨3, m⟩ [] [])) False) := by
  have hpl : placesL (wbit st lo) (n1 + n2) n1 ⟨3, m⟩ [] [] = (List.range (n1 + n2)).map (wbit st lo m) := by rw [place_row (by simp)]; exact List.map_congr_left (fun i _ => by simp [place1])
  rw [hpl]
  have hbx := box2 w (.cells #[.int .i64 3, .int .i64 m] 47) (.cells #[.slice A1 n1 c1, .slice A2 n2 c2] 35)
  obtain ⟨w0, hw0⟩ : ∃ W, W = (w.alloc (.cells #[.int .i64 3, .int .i64 m] 47)).alloc (.cells #[.slice A1 n1 c1, .slice A2 n2 c2] 35) := ⟨_, rfl⟩
  rw [← hw0] at hbx
  obtain ⟨hb0, hx0, hx1, hz0⟩ := hbx
  obtain ⟨⟨p0, p1⟩, -⟩ := blk2 hx0
  obtain ⟨⟨q0, q1⟩, -⟩ := blk2 hx1
  have HW0 := Lib.hid hw0
  have HB0 := Lib.hid hb0
  have hzr0 : w.heap.size < w0.heap.size := by omega
  have hzr : w.heap.size + 1 < w0.heap.size := by omega
  have HAT := Lib.hid (fun (W : World) (k : Nat) (hb : Below w.heap.size w W) (hk : k ≤ 100000) => (atW_nat st lo k) ▸ rAt_any A1 A2 n1 c1 n2 c2 st lo (k : Int) W B (h.below hb hB) (Nat.le_trans hB hb.size) hl (by omega))
  have hm64 : m ≤ 64 := by omega
  have hm0 := hm.1
  have HNN := Lib.hid hnn
  clear hw0 hpl h hb0 hx0 hx1 hz0 hnn
  go_enter Tryd.func46, Tryd.ntmps46
  go_wp2_with fail
  rw [← HW0.out]
  clear HW0
  have hbd : Below w0.heap.size w0 w0.drew := Below.drew (Below.refl _ _)
  refine wp_region_held_drew (S := fun w' => w'.cell? ⟨w.heap.size, 0, none⟩ = some (.int .i64 3) ∧ w'.cell? ⟨w.heap.size, 1, none⟩ = some (.int .i64 m) ∧ w'.cell? ⟨w.heap.size + 1, 0, none⟩ = some (.slice A1 n1 c1) ∧ w'.cell? ⟨w.heap.size + 1, 1, none⟩ = some (.slice A2 n2 c2)) (by kernel_rfl) ⟨p0, p1, q0, q1⟩ (fun hS => ?_)
  refine wpAnyH_takeD (i := 0) (v := ?_) rfl (by kernel_rfl) (by kernel_rfl) (by kernel_rfl) (fun _ _ _ h => h) (Or.inl ⟨by kernel_rfl, ?_⟩) hS ?_
  rotate_left 1
  · (intro w' hSw; (try dsimp only at hSw); go_simp; try (with_reducible rfl))
  try simp only [Act.put, List.setIfInBounds_toArray, List.set_cons_zero, List.set_cons_succ]
  refine wpAnyH_takeD (i := 2) (v := ?_) rfl (by kernel_rfl) (by kernel_rfl) (by kernel_rfl) (fun _ _ _ h => h) (Or.inl ⟨by kernel_rfl, ?_⟩) hS ?_
  rotate_left 1
  · (intro w' hSw; (try dsimp only at hSw); go_simp; try (with_reducible rfl))
  try simp only [Act.put, List.setIfInBounds_toArray, List.set_cons_zero, List.set_cons_succ]
  refine wpAnyH_takeD (i := 3) (v := ?_) rfl (by kernel_rfl) (by kernel_rfl) (by kernel_rfl) (fun _ _ _ h => h) (Or.inl ⟨by kernel_rfl, ?_⟩) hS ?_
  rotate_left 1
  · (intro w' hSw; (try dsimp only at hSw); go_simp; try (with_reducible rfl))
  try simp only [Act.put, List.setIfInBounds_toArray, List.set_cons_zero, List.set_cons_succ]
  refine wpAnyH_takeD (i := 4) (v := ?_) rfl (by kernel_rfl) (by kernel_rfl) (by kernel_rfl) (fun _ _ _ h => h) (Or.inl ⟨by kernel_rfl, ?_⟩) hS ?_
  rotate_left 1
  · (intro w' hSw; (try dsimp only at hSw); go_simp; try (with_reducible rfl))
  try simp only [Act.put, List.setIfInBounds_toArray, List.set_cons_zero, List.set_cons_succ]
  refine wpAnyH_oneD (i := 1) rfl (by kernel_rfl) (fun K hK => ?_)
  go_simp
  refine (rLen_any A1 A2 n1 c1 n2 c2 _ hl).mono ?_
  rintro e Rw1 ⟨rfl, hbRw1'⟩
  have hbRw1 : Below w0.heap.size w0 Rw1 := hbd.trans (hbRw1'.mono hbd.size)
  have hzRw1 := hbRw1.size
  have rRw1_0 := (hbRw1.cell (p := ⟨w.heap.size, 0, none⟩) hzr0).trans p0
  have rRw1_1 := (hbRw1.cell (p := ⟨w.heap.size, 1, none⟩) hzr0).trans p1
  have rRw1_2 := (hbRw1.cell (p := ⟨w.heap.size + 1, 0, none⟩) hzr).trans q0
  have rRw1_3 := (hbRw1.cell (p := ⟨w.heap.size + 1, 1, none⟩) hzr).trans q1
  go_wp2_with fail
  refine hK.out _ _ ⟨rRw1_0, rRw1_1, rRw1_2, rRw1_3⟩ (fun hS => ?_)
  clear hK
  try simp only [Act.put, List.setIfInBounds_toArray, List.set_cons_zero, List.set_cons_succ]
  refine wpAnyH_oneD (i := 5) rfl (by kernel_rfl) (fun K hK => ?_)
  go_simp
  refine (rfill_any (n1 + n2) _ _ (by omega)).mono ?_
  rintro e Rw2 ⟨v, rfl, hown, hbRw2', _⟩
  have hbRw2 : Below w0.heap.size w0 Rw2 := hbRw1.trans (hbRw2'.mono hbRw1.size)
  have hzRw2 := hbRw2.size
  have rRw2_0 := (hbRw2.cell (p := ⟨w.heap.size, 0, none⟩) hzr0).trans p0
  have rRw2_1 := (hbRw2.cell (p := ⟨w.heap.size, 1, none⟩) hzr0).trans p1
  have rRw2_2 := (hbRw2.cell (p := ⟨w.heap.size + 1, 0, none⟩) hzr).trans q0
  have rRw2_3 := (hbRw2.cell (p := ⟨w.heap.size + 1, 1, none⟩) hzr).trans q1
  obtain ⟨g, cap, rfl, hBc⟩ := boc_form hown hbRw2' (by omega)
  go_wp2_with fail
  refine hK.out _ _ ⟨rRw2_0, rRw2_1, rRw2_2, rRw2_3⟩ (fun hS => ?_)
  clear hK
  try simp only [Act.put, List.setIfInBounds_toArray, List.set_cons_zero, List.set_cons_succ]
  refine wpAnyH_takeD (i := 6) (v := ?_) rfl (by kernel_rfl) (by kernel_rfl) (by kernel_rfl) (fun _ _ _ h => h) (Or.inl ⟨by kernel_rfl, ?_⟩) hS ?_
  rotate_left 1
  · (intro w' hSw; (try dsimp only at hSw); go_simp; try (with_reducible rfl))
  try simp only [Act.put, List.setIfInBounds_toArray, List.set_cons_zero, List.set_cons_succ]
  refine wpAnyH_done (by kernel_rfl) ?_ _

  have hF0 : Boc Rw1 Rw2 g (n1 + n2) cap (upC (n1 + n2) false (wbit st lo m) 0) := by rw [upC_zero]; exact hBc
  have HF0 := Lib.hid hF0
  have hw1 : w.heap.size ≤ Rw1.heap.size := by omega
  have hw1' : w.heap.size + 1 < Rw1.heap.size := by omega
  have HB1 := Lib.hid (HB0.out.trans (hbRw1.mono HB0.out.size))
  clear hF0 hBc hown hbd hbRw1' hbRw2' hS
  generalize hN : n1 + n2 = N at *
  go_wp2
  go_loopw [6] (fun i wr => ∃ k : Nat, k ≤ N ∧ i = .int .i64 k ∧ Boc Rw1 wr g N cap (upC N false (wbit st lo m) k)) (fun i _ => N - (intOf i).toNat)
  case atStart => exact ⟨0, by omega, rfl, HF0.out⟩
  case round =>
    clear HF0
    obtain ⟨k, hk, rfl, hBo⟩ := hrel
    have y := (hBo.bel.cell (p := ⟨w.heap.size, 0, none⟩) (by show w.heap.size < _; omega)).trans rRw1_0
    have y0 := (hBo.bel.cell (p := ⟨w.heap.size, 1, none⟩) (by show w.heap.size < _; omega)).trans rRw1_1
    have y1 := (hBo.bel.cell (p := ⟨w.heap.size + 1, 0, none⟩) hw1').trans rRw1_2
    have y2 := (hBo.bel.cell (p := ⟨w.heap.size + 1, 1, none⟩) hw1').trans rRw1_3
    by_cases hlt : k < N
    · have hbW : Below w.heap.size w wr := HB1.out.trans (hBo.bel.mono hw1)
      have hzw : w.heap.size + 1 < wr.heap.size := Nat.lt_of_lt_of_le hw1' hBo.bel.size
      have hzw0 : w.heap.size < wr.heap.size := by omega
      go_wp2_with fail
      refine wp_region_T (S := fun w' => w'.cell? ⟨w.heap.size, 1, none⟩ = some (.int .i64 m) ∧ w'.cell? ⟨w.heap.size + 1, 0, none⟩ = some (.slice A1 n1 c1) ∧ w'.cell? ⟨w.heap.size + 1, 1, none⟩ = some (.slice A2 n2 c2)) 12 (by kernel_rfl) ⟨y0, y1, y2⟩ (fun hS => ?_)
      refine wpAnyT_takeD (i := 0) (v := ?_) rfl (by kernel_rfl) (by kernel_rfl) (by kernel_rfl) (by kernel_rfl) (fun _ _ _ h => h) (Or.inl ⟨by kernel_rfl, ?_⟩) hS ?_
      rotate_left 1
      · (intro w' hSw; (try dsimp only at hSw); go_simp; try (with_reducible rfl))
      try simp only [Act.put, List.setIfInBounds_toArray, List.set_cons_zero, List.set_cons_succ]
      refine wpAnyT_takeD (i := 1) (v := ?_) rfl (by kernel_rfl) (by kernel_rfl) (by kernel_rfl) (by kernel_rfl) (fun _ _ _ h => h) (Or.inl ⟨by kernel_rfl, ?_⟩) hS ?_
      rotate_left 1
      · (intro w' hSw; (try dsimp only at hSw); go_simp; try (with_reducible rfl))
      try simp only [Act.put, List.setIfInBounds_toArray, List.set_cons_zero, List.set_cons_succ]
      refine wpAnyT_takeD (i := 2) (v := ?_) rfl (by kernel_rfl) (by kernel_rfl) (by kernel_rfl) (by kernel_rfl) (fun _ _ _ h => h) (Or.inl ⟨by kernel_rfl, ?_⟩) hS ?_
      rotate_left 1
      · (intro w' hSw; (try dsimp only at hSw); go_simp; try (with_reducible rfl))
      try simp only [Act.put, List.setIfInBounds_toArray, List.set_cons_zero, List.set_cons_succ]
      refine wpAnyT_takeD (i := 3) (v := ?_) rfl (by kernel_rfl) (by kernel_rfl) (by kernel_rfl) (by kernel_rfl) (fun _ _ _ h => h) (Or.inl ⟨by kernel_rfl, ?_⟩) hS ?_
      rotate_left 1
      · (intro w' hSw; (try dsimp only at hSw); go_simp; try (with_reducible rfl))
      try simp only [Act.put, List.setIfInBounds_toArray, List.set_cons_zero, List.set_cons_succ]
      refine wpAnyT_takeD (i := 5) (v := ?_) rfl (by kernel_rfl) (by kernel_rfl) (by kernel_rfl) (by kernel_rfl) (fun _ _ _ h => h) (Or.inl ⟨by kernel_rfl, ?_⟩) hS ?_
      rotate_left 1
      · (intro w' hSw; (try dsimp only at hSw); go_simp; try (with_reducible rfl))
      try simp only [Act.put, List.setIfInBounds_toArray, List.set_cons_zero, List.set_cons_succ]
      refine wpAnyT_takeD (i := 6) (v := ?_) rfl (by kernel_rfl) (by kernel_rfl) (by kernel_rfl) (by kernel_rfl) (fun _ _ _ h => h) (Or.inl ⟨by kernel_rfl, ?_⟩) hS ?_
      rotate_left 1
      · (intro w' hSw; (try dsimp only at hSw); go_simp; try (with_reducible rfl))
      try simp only [Act.put, List.setIfInBounds_toArray, List.set_cons_zero, List.set_cons_succ]
      refine wpAnyT_takeD (i := 7) (v := ?_) rfl (by kernel_rfl) (by kernel_rfl) (by kernel_rfl) (by kernel_rfl) (fun _ _ _ h => h) (Or.inl ⟨by kernel_rfl, ?_⟩) hS ?_
      rotate_left 1
      · (intro w' hSw; (try dsimp only at hSw); go_simp; try (with_reducible rfl))
      try simp only [Act.put, List.setIfInBounds_toArray, List.set_cons_zero, List.set_cons_succ]
      refine wpAnyT_oneD (i := 4) rfl (by kernel_rfl) (by decide) (fun K hK => ?_)
      go_simp
      refine Calls.mono (HAT.out _ _ (hbW.trans (Below.drew (Below.refl _ _) |>.mono hbW.size)) (by omega)) ?_
      rintro e w5 ⟨rfl, hb5'⟩
      have hb5 : Below wr.heap.size wr w5 := below_undrew hb5'
      have hB5 := hBo.below hb5
      obtain ⟨hc5, hf5⟩ := hB5.cell hlt
      have k0 := (hb5.cell (p := ⟨w.heap.size, 1, none⟩) hzw0).trans y0
      have k1 := (hb5.cell (p := ⟨w.heap.size + 1, 0, none⟩) hzw).trans y1
      have k2 := (hb5.cell (p := ⟨w.heap.size + 1, 1, none⟩) hzw).trans y2
      go_wp2_with fail
      refine hK.out _ _ ⟨k0, k1, k2⟩ (fun hS => ?_)
      clear hK
      try simp only [Act.put, List.setIfInBounds_toArray, List.set_cons_zero, List.set_cons_succ]
      refine wpAnyT_takeD (i := 8) (v := ?_) rfl (by kernel_rfl) (by kernel_rfl) (by kernel_rfl) (by kernel_rfl) (fun _ _ _ h => h) (Or.inl ⟨by kernel_rfl, ?_⟩) hS ?_
      rotate_left 1
      · (intro w' hSw; (try dsimp only at hSw); go_simp; try (with_reducible rfl))
      try simp only [Act.put, List.setIfInBounds_toArray, List.set_cons_zero, List.set_cons_succ]
      refine wpAnyT_takeD (i := 9) (v := ?_) rfl (by kernel_rfl) (by kernel_rfl) (by kernel_rfl) (by kernel_rfl) (fun _ _ _ h => h) (Or.inl ⟨by kernel_rfl, ?_⟩) hS ?_
      rotate_left 1
      · (intro w' hSw; (try dsimp only at hSw); go_simp; try (with_reducible rfl))
      try simp only [Act.put, List.setIfInBounds_toArray, List.set_cons_zero, List.set_cons_succ]
      refine wpAnyT_takeD (i := 10) (v := ?_) rfl (by kernel_rfl) (by kernel_rfl) (by kernel_rfl) (by kernel_rfl) (fun _ _ _ h => h) (Or.inl ⟨by kernel_rfl, ?_⟩) hS ?_
      rotate_left 1
      · (intro w' hSw; (try dsimp only at hSw); go_simp; try (with_reducible rfl))
      try simp only [Act.put, List.setIfInBounds_toArray, List.set_cons_zero, List.set_cons_succ]
      refine wpAnyT_takeD (i := 11) (v := ?_) rfl (by kernel_rfl) (by kernel_rfl) (by kernel_rfl) (by kernel_rfl) (fun _ _ _ h => h) (Or.inl ⟨by kernel_rfl, ?_⟩) hS ?_
      rotate_left 1
      · (intro w' hSw; (try dsimp only at hSw); go_simp; try (with_reducible rfl))
      try simp only [Act.put, List.setIfInBounds_toArray, List.set_cons_zero, List.set_cons_succ]
      refine wpAnyT_endD rfl (by kernel_rfl) (by kernel_rfl) (fun K hK => ?_)
      go_simp
      refine hK.out _ _ ?_
      clear hK
      go_wp2
      go_roundw
      case rel =>
        refine ⟨k + 1, by omega, by go_num, ?_⟩
        have hput := hB5.put k (wbit st lo m k)
        rw [upC_step] at hput
        have e : wbit st lo m k = ((seqW st lo k / 2 ^ min m.toNat 64).tmod 2 == 1) := by
          rw [show min m.toNat 64 = m.toNat by omega, wbit]
          exact and_one (Int.ediv_nonneg (HNN.out k) (Int.pow_nonneg (by decide)))
        rw [← e]; exact hput
      case measure => simp [intOf]; omega
    · have hkn : k = N := by omega
      subst hkn
      rw [upC_end] at hBo
      have HB2 := Lib.hid hBo
      clear hBo
      go_wp2
      go_ret
      exact ⟨_, rfl, own_base HB2.out.own hw1, HB1.out.trans (HB2.out.bel.mono hw1), by simp⟩
set_option maxHeartbeats 4000000 in
set_option maxRecDepth 100000 in
theorem rleaf1_any (A1 A2 : Option Addr) (n1 c1 n2 c2 : Nat) (m : Int) (bt : Int → Nat → Bool) (w : World) (hl : n1 + n2 ≤ 60000) (h2 : 0 < n2) :
    Calls Tryd.prog 46 #[.agg #[.int .i64 1, .int .i64 m], .agg #[.slice A1 n1 c1, .slice A2 n2 c2]] w (NewRow w 4 1 (n1 + n2) (bcells (placesL bt (n1 + n2) n1 ⟨1, m⟩ [] [])) False) := by
  have hpl : placesL bt (n1 + n2) n1 ⟨1, m⟩ [] [] = List.replicate (n1 + n2) true := by
    rw [place_row (by simp)]
    apply List.ext_getElem (by simp)
    intro i h1 h2
    simp [place1]
  rw [hpl]
  have hbx := box2 w (.cells #[.int .i64 1, .int .i64 m] 47) (.cells #[.slice A1 n1 c1, .slice A2 n2 c2] 35)
  obtain ⟨w0, hw0⟩ : ∃ W, W = (w.alloc (.cells #[.int .i64 1, .int .i64 m] 47)).alloc (.cells #[.slice A1 n1 c1, .slice A2 n2 c2] 35) := ⟨_, rfl⟩
  rw [← hw0] at hbx
  obtain ⟨hb0, hx0, hx1, hz0⟩ := hbx
  obtain ⟨⟨p0, p1⟩, -⟩ := blk2 hx0
  obtain ⟨⟨q0, q1⟩, -⟩ := blk2 hx1
  have HW0 := Lib.hid hw0
  have HB0 := Lib.hid hb0
  have hzr0 : w.heap.size < w0.heap.size := by omega
  have hzr : w.heap.size + 1 < w0.heap.size := by omega
  clear hw0 hpl hb0 hx0 hx1 hz0
  go_enter Tryd.func46, Tryd.ntmps46
  go_wp2_with fail
  rw [← HW0.out]
  clear HW0
  have hbd : Below w0.heap.size w0 w0.drew := Below.drew (Below.refl _ _)
  refine wp_region_held_drew (S := fun w' => w'.cell? ⟨w.heap.size, 0, none⟩ = some (.int .i64 1) ∧ w'.cell? ⟨w.heap.size + 1, 0, none⟩ = some (.slice A1 n1 c1) ∧ w'.cell? ⟨w.heap.size + 1, 1, none⟩ = some (.slice A2 n2 c2)) (by kernel_rfl) ⟨p0, q0, q1⟩ (fun hS => ?_)
  refine wpAnyH_takeD (i := 0) (v := ?_) rfl (by kernel_rfl) (by kernel_rfl) (by kernel_rfl) (fun _ _ _ h => h) (Or.inl ⟨by kernel_rfl, ?_⟩) hS ?_
  rotate_left 1
  · (intro w' hSw; (try dsimp only at hSw); go_simp; try (with_reducible rfl))
  try simp only [Act.put, List.setIfInBounds_toArray, List.set_cons_zero, List.set_cons_succ]
  refine wpAnyH_takeD (i := 2) (v := ?_) rfl (by kernel_rfl) (by kernel_rfl) (by kernel_rfl) (fun _ _ _ h => h) (Or.inl ⟨by kernel_rfl, ?_⟩) hS ?_
  rotate_left 1
  · (intro w' hSw; (try dsimp only at hSw); go_simp; try (with_reducible rfl))
  try simp only [Act.put, List.setIfInBounds_toArray, List.set_cons_zero, List.set_cons_succ]
  refine wpAnyH_takeD (i := 3) (v := ?_) rfl (by kernel_rfl) (by kernel_rfl) (by kernel_rfl) (fun _ _ _ h => h) (Or.inl ⟨by kernel_rfl, ?_⟩) hS ?_
  rotate_left 1
  · (intro w' hSw; (try dsimp only at hSw); go_simp; try (with_reducible rfl))
  try simp only [Act.put, List.setIfInBounds_toArray, List.set_cons_zero, List.set_cons_succ]
  refine wpAnyH_takeD (i := 4) (v := ?_) rfl (by kernel_rfl) (by kernel_rfl) (by kernel_rfl) (fun _ _ _ h => h) (Or.inl ⟨by kernel_rfl, ?_⟩) hS ?_
  rotate_left 1
  · (intro w' hSw; (try dsimp only at hSw); go_simp; try (with_reducible rfl))
  try simp only [Act.put, List.setIfInBounds_toArray, List.set_cons_zero, List.set_cons_succ]
  refine wpAnyH_oneD (i := 1) rfl (by kernel_rfl) (fun K hK => ?_)
  go_simp
  refine (rLen_any A1 A2 n1 c1 n2 c2 _ hl).mono ?_
  rintro e Rw1 ⟨rfl, hbRw1'⟩
  have hbRw1 : Below w0.heap.size w0 Rw1 := hbd.trans (hbRw1'.mono hbd.size)
  have hzRw1 := hbRw1.size
  have rRw1_0 := (hbRw1.cell (p := ⟨w.heap.size, 0, none⟩) hzr0).trans p0
  have rRw1_1 := (hbRw1.cell (p := ⟨w.heap.size + 1, 0, none⟩) hzr).trans q0
  have rRw1_2 := (hbRw1.cell (p := ⟨w.heap.size + 1, 1, none⟩) hzr).trans q1
  go_wp2_with fail
  refine hK.out _ _ ⟨rRw1_0, rRw1_1, rRw1_2⟩ (fun hS => ?_)
  clear hK
  try simp only [Act.put, List.setIfInBounds_toArray, List.set_cons_zero, List.set_cons_succ]
  refine wpAnyH_oneD (i := 5) rfl (by kernel_rfl) (fun K hK => ?_)
  go_simp
  refine (rfill_any (n1 + n2) _ _ (by omega)).mono ?_
  rintro e Rw2 ⟨v, rfl, hown, hbRw2', _⟩
  have hbRw2 : Below w0.heap.size w0 Rw2 := hbRw1.trans (hbRw2'.mono hbRw1.size)
  have hzRw2 := hbRw2.size
  have rRw2_0 := (hbRw2.cell (p := ⟨w.heap.size, 0, none⟩) hzr0).trans p0
  have rRw2_1 := (hbRw2.cell (p := ⟨w.heap.size + 1, 0, none⟩) hzr).trans q0
  have rRw2_2 := (hbRw2.cell (p := ⟨w.heap.size + 1, 1, none⟩) hzr).trans q1
  obtain ⟨g, cap, rfl, hBc⟩ := boc_form hown hbRw2' (by omega)
  go_wp2_with fail
  refine hK.out _ _ ⟨rRw2_0, rRw2_1, rRw2_2⟩ (fun hS => ?_)
  clear hK
  try simp only [Act.put, List.setIfInBounds_toArray, List.set_cons_zero, List.set_cons_succ]
  refine wpAnyH_takeD (i := 6) (v := ?_) rfl (by kernel_rfl) (by kernel_rfl) (by kernel_rfl) (fun _ _ _ h => h) (Or.inl ⟨by kernel_rfl, ?_⟩) hS ?_
  rotate_left 1
  · (intro w' hSw; (try dsimp only at hSw); go_simp; try (with_reducible rfl))
  try simp only [Act.put, List.setIfInBounds_toArray, List.set_cons_zero, List.set_cons_succ]
  refine wpAnyH_done (by kernel_rfl) ?_ _

  have hw1 : w.heap.size ≤ Rw1.heap.size := by omega
  have HB1 := Lib.hid (HB0.out.trans (hbRw1.mono HB0.out.size))
  have HBC := Lib.hid hBc
  clear hBc hown hbd hbRw1' hbRw2' hS
  generalize hN : n1 + n2 = N at *
  go_wp2
  go_loopw [6] (fun i wr => i = .int .i64 0 ∧ wr = Rw2) (fun _ _ => 0)
  case atStart => exact ⟨rfl, rfl⟩
  case round =>
    obtain ⟨rfl, rfl⟩ := hrel
    have hN0 : 0 < N := by omega
    go_wp2
    go_ret
    exact ⟨_, rfl, own_base HBC.out.own hw1, HB1.out.trans (HBC.out.bel.mono hw1), by simp⟩
set_option maxHeartbeats 4000000 in
set_option maxRecDepth 100000 in
theorem rleaf2_any (A1 A2 : Option Addr) (n1 c1 n2 c2 : Nat) (m : Int) (bt : Int → Nat → Bool) (w : World) (hl : n1 + n2 ≤ 60000) (h2 : 0 < n2) :
    Calls Tryd.prog 46 #[.agg #[.int .i64 2, .int .i64 m], .agg #[.slice A1 n1 c1, .slice A2 n2 c2]] w (NewRow w 4 1 (n1 + n2) (bcells (placesL bt (n1 + n2) n1 ⟨2, m⟩ [] [])) False) := by
  have hpl : placesL bt (n1 + n2) n1 ⟨2, m⟩ [] [] = List.replicate (n1 + n2) false := by
    rw [place_row (by simp)]
    apply List.ext_getElem (by simp)
    intro i h1 h2
    simp [place1]
  rw [hpl]
  have hbx := box2 w (.cells #[.int .i64 2, .int .i64 m] 47) (.cells #[.slice A1 n1 c1, .slice A2 n2 c2] 35)
  obtain ⟨w0, hw0⟩ : ∃ W, W = (w.alloc (.cells #[.int .i64 2, .int .i64 m] 47)).alloc (.cells #[.slice A1 n1 c1, .slice A2 n2 c2] 35) := ⟨_, rfl⟩
  rw [← hw0] at hbx
  obtain ⟨hb0, hx0, hx1, hz0⟩ := hbx
  obtain ⟨⟨p0, p1⟩, -⟩ := blk2 hx0
  obtain ⟨⟨q0, q1⟩, -⟩ := blk2 hx1
  have HW0 := Lib.hid hw0
  have HB0 := Lib.hid hb0
  have hzr0 : w.heap.size < w0.heap.size := by omega
  have hzr : w.heap.size + 1 < w0.heap.size := by omega
  clear hw0 hpl hb0 hx0 hx1 hz0
  go_enter Tryd.func46, Tryd.ntmps46
  go_wp2_with fail
  rw [← HW0.out]
  clear HW0
  have hbd : Below w0.heap.size w0 w0.drew := Below.drew (Below.refl _ _)
  refine wp_region_held_drew (S := fun w' => w'.cell? ⟨w.heap.size, 0, none⟩ = some (.int .i64 2) ∧ w'.cell? ⟨w.heap.size + 1, 0, none⟩ = some (.slice A1 n1 c1) ∧ w'.cell? ⟨w.heap.size + 1, 1, none⟩ = some (.slice A2 n2 c2)) (by kernel_rfl) ⟨p0, q0, q1⟩ (fun hS => ?_)
  refine wpAnyH_takeD (i := 0) (v := ?_) rfl (by kernel_rfl) (by kernel_rfl) (by kernel_rfl) (fun _ _ _ h => h) (Or.inl ⟨by kernel_rfl, ?_⟩) hS ?_
  rotate_left 1
  · (intro w' hSw; (try dsimp only at hSw); go_simp; try (with_reducible rfl))
  try simp only [Act.put, List.setIfInBounds_toArray, List.set_cons_zero, List.set_cons_succ]
  refine wpAnyH_takeD (i := 2) (v := ?_) rfl (by kernel_rfl) (by kernel_rfl) (by kernel_rfl) (fun _ _ _ h => h) (Or.inl ⟨by kernel_rfl, ?_⟩) hS ?_
  rotate_left 1
  · (intro w' hSw; (try dsimp only at hSw); go_simp; try (with_reducible rfl))
  try simp only [Act.put, List.setIfInBounds_toArray, List.set_cons_zero, List.set_cons_succ]
  refine wpAnyH_takeD (i := 3) (v := ?_) rfl (by kernel_rfl) (by kernel_rfl) (by kernel_rfl) (fun _ _ _ h => h) (Or.inl ⟨by kernel_rfl, ?_⟩) hS ?_
  rotate_left 1
  · (intro w' hSw; (try dsimp only at hSw); go_simp; try (with_reducible rfl))
  try simp only [Act.put, List.setIfInBounds_toArray, List.set_cons_zero, List.set_cons_succ]
  refine wpAnyH_takeD (i := 4) (v := ?_) rfl (by kernel_rfl) (by kernel_rfl) (by kernel_rfl) (fun _ _ _ h => h) (Or.inl ⟨by kernel_rfl, ?_⟩) hS ?_
  rotate_left 1
  · (intro w' hSw; (try dsimp only at hSw); go_simp; try (with_reducible rfl))
  try simp only [Act.put, List.setIfInBounds_toArray, List.set_cons_zero, List.set_cons_succ]
  refine wpAnyH_oneD (i := 1) rfl (by kernel_rfl) (fun K hK => ?_)
  go_simp
  refine (rLen_any A1 A2 n1 c1 n2 c2 _ hl).mono ?_
  rintro e Rw1 ⟨rfl, hbRw1'⟩
  have hbRw1 : Below w0.heap.size w0 Rw1 := hbd.trans (hbRw1'.mono hbd.size)
  have hzRw1 := hbRw1.size
  have rRw1_0 := (hbRw1.cell (p := ⟨w.heap.size, 0, none⟩) hzr0).trans p0
  have rRw1_1 := (hbRw1.cell (p := ⟨w.heap.size + 1, 0, none⟩) hzr).trans q0
  have rRw1_2 := (hbRw1.cell (p := ⟨w.heap.size + 1, 1, none⟩) hzr).trans q1
  go_wp2_with fail
  refine hK.out _ _ ⟨rRw1_0, rRw1_1, rRw1_2⟩ (fun hS => ?_)
  clear hK
  try simp only [Act.put, List.setIfInBounds_toArray, List.set_cons_zero, List.set_cons_succ]
  refine wpAnyH_oneD (i := 5) rfl (by kernel_rfl) (fun K hK => ?_)
  go_simp
  refine (rfill_any (n1 + n2) _ _ (by omega)).mono ?_
  rintro e Rw2 ⟨v, rfl, hown, hbRw2', _⟩
  have hbRw2 : Below w0.heap.size w0 Rw2 := hbRw1.trans (hbRw2'.mono hbRw1.size)
  have hzRw2 := hbRw2.size
  have rRw2_0 := (hbRw2.cell (p := ⟨w.heap.size, 0, none⟩) hzr0).trans p0
  have rRw2_1 := (hbRw2.cell (p := ⟨w.heap.size + 1, 0, none⟩) hzr).trans q0
  have rRw2_2 := (hbRw2.cell (p := ⟨w.heap.size + 1, 1, none⟩) hzr).trans q1
  obtain ⟨g, cap, rfl, hBc⟩ := boc_form hown hbRw2' (by omega)
  go_wp2_with fail
  refine hK.out _ _ ⟨rRw2_0, rRw2_1, rRw2_2⟩ (fun hS => ?_)
  clear hK
  try simp only [Act.put, List.setIfInBounds_toArray, List.set_cons_zero, List.set_cons_succ]
  refine wpAnyH_takeD (i := 6) (v := ?_) rfl (by kernel_rfl) (by kernel_rfl) (by kernel_rfl) (fun _ _ _ h => h) (Or.inl ⟨by kernel_rfl, ?_⟩) hS ?_
  rotate_left 1
  · (intro w' hSw; (try dsimp only at hSw); go_simp; try (with_reducible rfl))
  try simp only [Act.put, List.setIfInBounds_toArray, List.set_cons_zero, List.set_cons_succ]
  refine wpAnyH_done (by kernel_rfl) ?_ _

  have hw1 : w.heap.size ≤ Rw1.heap.size := by omega
  have HB1 := Lib.hid (HB0.out.trans (hbRw1.mono HB0.out.size))
  have HBC := Lib.hid hBc
  clear hBc hown hbd hbRw1' hbRw2' hS
  generalize hN : n1 + n2 = N at *
  go_wp2
  go_loopw [6] (fun i wr => i = .int .i64 0 ∧ wr = Rw2) (fun _ _ => 0)
  case atStart => exact ⟨rfl, rfl⟩
  case round =>
    obtain ⟨rfl, rfl⟩ := hrel
    have hN0 : 0 < N := by omega
    go_wp2
    go_ret
    exact ⟨_, rfl, own_base HBC.out.own hw1, HB1.out.trans (HBC.out.bel.mono hw1), by simp⟩
end Go.Proofs.YtamhjgkigjpbhaaDoor
