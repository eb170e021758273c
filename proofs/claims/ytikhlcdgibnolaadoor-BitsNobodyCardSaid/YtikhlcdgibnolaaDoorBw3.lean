/- The walks of layer 3: Drop, made, mate. -/
import Derived.Test.YtikhlcdgibnolaaDoorBw2
namespace Go.Proofs.YtikhlcdgibnolaaDoor
open Go.RowKit

theorem equalIn_nil {P : Program} (w : World) (d : Nat) (t e : TypeId) (a : Option Addr) (l c : Nat) (h : P.underlying t = some (.slice e)) : (Op.equalIn (d + 1) t (.slice a l c) (.slice none 0 0)).run P w = .ok a.isNone w := by
  cases a <;> simp [Op.equalIn, run_underlying h]
theorem equal_nil {P : Program} (w : World) (t e : TypeId) (a : Option Addr) (l c : Nat) (h : P.underlying t = some (.slice e)) : (Op.equal t (.slice a l c) (.slice none 0 0)).run P w = .ok a.isNone w := equalIn_nil w 9999 t e a l c h
theorem neq_nil {P : Program} (w : World) (t e : TypeId) (a : Option Addr) (l c : Nat) (h : P.underlying t = some (.slice e)) : (binOp .neq t (.slice a l c) (.slice none 0 0)).run P w = .ok (.bool (!a.isNone)) w := by
  simp [binOp, equal_nil w t e a l c h]
theorem andNot_bit {x y : Nat} (hx : x < 2 ^ 64) (hy : y < 2 ^ 64) : bits .andNot .u64 (x : Int) (y : Int) = ((bare64 x y : Nat) : Int) := by
  have hb : bare64 x y < 2 ^ 64 := bare64_lt y hx
  show IntKind.u64.wrap ((BitVec.ofInt 64 (x : Int) &&& ~~~ BitVec.ofInt 64 (y : Int)).toNat : Int) = _
  rw [BitVec.toNat_and, BitVec.toNat_not, BitVec.ofInt_natCast, BitVec.toNat_ofNat, BitVec.ofInt_natCast, BitVec.toNat_ofNat, Nat.mod_eq_of_lt hx, Nat.mod_eq_of_lt hy, IntKind.wrap_u64]
  have e : x &&& (2 ^ 64 - 1 - y) = bare64 x y := by rw [bare64]; congr 1; omega
  rw [e]
  omega
def dropW (W : List Nat) (i : Nat) : List Nat := W.set (i / 64) (bare64 (W.getD (i / 64) 0) (2 ^ (i % 64)))
def dropI (n : Nat) (W : List Nat) (i : Int) : List Nat := if hasI n W i = true then dropW W i.toNat else W
set_option maxHeartbeats 1000000 in
theorem bdropI_any (S q n : Nat) (W : List Nat) (i : Int) (w : World) (h : BSet S q n W w) : Calls Tryd.prog 20 #[.pointer (some ⟨S, 0, none⟩), .int .i64 i] w (BPost S q n (dropI n W i) (hasI n W i) w) := by
  have HH := Lib.hid (bhasI_any S q n W i w h)
  cases hb : hasI n W i
  · have hput : dropI n W i = W := by simp [dropI, hb]
    rw [hput]
    have HB := Lib.hid hb
    have HS := Lib.hid h
    clear hput hb h
    go_enter Tryd.func20, Tryd.ntmps20
    go_wp2_with fail
    refine Calls.mono HH.out ?_
    rw [HB.out]
    rintro e w1 ⟨rfl, rfl⟩
    go_wp2
    go_ret
    exact ⟨rfl, HS.out, Tch.refl _ _⟩
  · have hin : 0 ≤ i ∧ i < (n : Int) := by simp [hasI, inB] at hb; exact hb.1
    obtain ⟨h0, hi'⟩ := hin
    obtain ⟨i, rfl⟩ := Int.eq_ofNat_of_zero_le h0
    have hi : i < n := by omega
    have hput : dropI n W (i : Int) = W.set (i / 64) (bare64 (W.getD (i / 64) 0) (2 ^ (i % 64))) := by simp [dropI, hb, dropW]
    have HP := Lib.hid hput
    have HB := Lib.hid hb
    obtain ⟨⟨c0, c1⟩, _, hS⟩ := blk2 h.1
    have hk : i / 64 < W.length := by rw [h.2.2.1]; omega
    obtain ⟨c2, f2, hbd⟩ := h.at_ hk
    have hj : i % 64 < 64 := Nat.mod_lt _ (by omega)
    have hset := h.set (i / 64) (bare64 (W.getD (i / 64) 0) (2 ^ (i % 64))) (bare64_lt _ hbd)
    have hlW : W.length ≤ 1024 := by rw [h.2.2.1]; have := h.2.2.2.2; omega
    have hsh : Op.shift .shl .u64 1 .i64 ((i % 64 : Nat) : Int) = pure (.int .u64 ((2 ^ (i % 64) : Nat) : Int)) := by
      rw [shift_shl .u64 .i64 1 _ (by omega) (by show ((i % 64 : Nat) : Int) ≤ 64; omega), Int.toNat_natCast, Int.one_mul, wrap_pow hj]
    have hor := andNot_bit hbd (pow_lt64 hj)
    have hor2 := andNot_bit hbd (pow_lt64 hj)
    rw [← wrap_pow hj] at hor2
    have HO2 := Lib.hid hor2
    clear hor2
    have e1 : IntKind.i64.wrap ((i : Int) / 64) = ((i / 64 : Nat) : Int) := by rw [IntWalk.i64_in _ (by have := h.2.2.2.2; omega)]; omega
    have e2 : ((i : Int)).tmod 64 = ((i % 64 : Nat) : Int) := by rw [Int.tmod_eq_emod_of_nonneg (by omega)]; omega
    generalize 2 ^ (i % 64) = p at *
    generalize W.getD (i / 64) 0 = x at *
    generalize hga : i / 64 = a at *
    generalize hgr : i % 64 = r at *
    have hq := h.lt.2
    have i0 : (0 : Int) ≤ (a : Int) := by omega
    have i1 : (a : Int) < (W.length : Int) := by omega
    clear hga hgr
    have HS := Lib.hid hset
    clear h hput hb hset
    have HSH := Lib.hid hsh
    have HO := Lib.hid hor
    have HE1 := Lib.hid e1
    have HE2 := Lib.hid e2
    clear hsh hor e1 e2
    go_enter Tryd.func20, Tryd.ntmps20
    go_wp2_with fail
    refine Calls.mono HH.out ?_
    rw [HB.out]
    rintro e w1 ⟨rfl, rfl⟩
    go_wp2_with fail
    have hsh := HSH.out
    have hor := HO.out
    have e1 := HE1.out
    have e2 := HE2.out
    refine wp_region_T (S := fun w' => w'.cell? ⟨S, 1, none⟩ = some (.slice (some ⟨q, 0, none⟩) W.length W.length) ∧ w'.cell? ⟨q, a, none⟩ = some (.int .u64 (x : Int))) 13 (by kernel_rfl) ⟨c1, c2⟩ (fun hS => ?_)
    refine wpAnyT_takeD (i := 0) (v := ?_) rfl (by kernel_rfl) (by kernel_rfl) (by kernel_rfl) (by kernel_rfl) (fun _ _ _ h => h) (Or.inl ⟨by kernel_rfl, ?_⟩) hS ?_
    rotate_left 1
    · (intro w' hSw; (try dsimp only at hSw); go_simp; try (with_reducible rfl))
    try simp only [Act.put, List.setIfInBounds_toArray, List.set_cons_zero, List.set_cons_succ]
    refine wpAnyT_takeD (i := 1) (v := ?_) rfl (by kernel_rfl) (by kernel_rfl) (by kernel_rfl) (by kernel_rfl) (fun _ _ _ h => h) (Or.inl ⟨by kernel_rfl, ?_⟩) hS ?_
    rotate_left 1
    · (intro w' hSw; (try dsimp only at hSw); go_simp; try (with_reducible rfl))
    try simp only [Act.put, List.setIfInBounds_toArray, List.set_cons_zero, List.set_cons_succ]
    refine wpAnyT_takeD (i := 2) (v := ?_) rfl (by kernel_rfl) (by kernel_rfl) (by kernel_rfl) (by kernel_rfl) (fun _ _ _ h => h) (Or.inl ⟨by kernel_rfl, ?_⟩) hS ?_
    rotate_left 1
    · (intro w' hSw; (try dsimp only at hSw); go_simp; try (with_reducible rfl))
    try simp only [Act.put, List.setIfInBounds_toArray, List.set_cons_zero, List.set_cons_succ]
    refine wpAnyT_takeD (i := 3) (v := ?_) rfl (by kernel_rfl) (by kernel_rfl) (by kernel_rfl) (by kernel_rfl) (fun _ _ _ h => h) (Or.inl ⟨by kernel_rfl, ?_⟩) hS ?_
    rotate_left 1
    · (intro w' hSw; (try dsimp only at hSw); go_simp; try (with_reducible rfl))
    try simp only [Act.put, List.setIfInBounds_toArray, List.set_cons_zero, List.set_cons_succ]
    refine wpAnyT_takeD (i := 4) (v := ?_) rfl (by kernel_rfl) (by kernel_rfl) (by kernel_rfl) (by kernel_rfl) (fun _ _ _ h => h) (Or.inl ⟨by kernel_rfl, ?_⟩) hS ?_
    rotate_left 1
    · (intro w' hSw; (try dsimp only at hSw); go_simp; try (with_reducible rfl))
    try simp only [Act.put, List.setIfInBounds_toArray, List.set_cons_zero, List.set_cons_succ]
    refine wpAnyT_takeD (i := 5) (v := ?_) rfl (by kernel_rfl) (by kernel_rfl) (by kernel_rfl) (by kernel_rfl) (fun _ _ _ h => h) (Or.inl ⟨by kernel_rfl, ?_⟩) hS ?_
    rotate_left 1
    · (intro w' hSw; (try dsimp only at hSw); go_simp; try (with_reducible rfl))
    try simp only [Act.put, List.setIfInBounds_toArray, List.set_cons_zero, List.set_cons_succ]
    refine wpAnyT_takeD (i := 6) (v := ?_) rfl (by kernel_rfl) (by kernel_rfl) (by kernel_rfl) (by kernel_rfl) (fun _ _ _ h => h) (Or.inl ⟨by kernel_rfl, ?_⟩) hS ?_
    rotate_left 1
    · (intro w' hSw; (try dsimp only at hSw); go_simp; try (with_reducible rfl))
    try simp only [Act.put, List.setIfInBounds_toArray, List.set_cons_zero, List.set_cons_succ]
    refine wpAnyT_takeD (i := 7) (v := ?_) rfl (by kernel_rfl) (by kernel_rfl) (by kernel_rfl) (by kernel_rfl) (fun _ _ _ h => h) (Or.inl ⟨by kernel_rfl, ?_⟩) hS ?_
    rotate_left 1
    · (intro w' hSw; (try dsimp only at hSw); go_simp; try (with_reducible rfl))
    try simp only [Act.put, List.setIfInBounds_toArray, List.set_cons_zero, List.set_cons_succ]
    refine wpAnyT_takeD (i := 8) (v := ?_) rfl (by kernel_rfl) (by kernel_rfl) (by kernel_rfl) (by kernel_rfl) (fun _ _ _ h => h) (Or.inl ⟨by kernel_rfl, ?_⟩) hS ?_
    rotate_left 1
    · (intro w' hSw; (try dsimp only at hSw); go_simp; try (with_reducible rfl))
    try simp only [Act.put, List.setIfInBounds_toArray, List.set_cons_zero, List.set_cons_succ]
    refine wpAnyT_takeD (i := 9) (v := ?_) rfl (by kernel_rfl) (by kernel_rfl) (by kernel_rfl) (by kernel_rfl) (fun _ _ _ h => h) (Or.inl ⟨by kernel_rfl, ?_⟩) hS ?_
    rotate_left 1
    · (intro w' hSw; (try dsimp only at hSw); go_simp; try (with_reducible rfl))
    try simp only [Act.put, List.setIfInBounds_toArray, List.set_cons_zero, List.set_cons_succ]
    refine wpAnyT_takeD (i := 10) (v := ?_) rfl (by kernel_rfl) (by kernel_rfl) (by kernel_rfl) (by kernel_rfl) (fun _ _ _ h => h) (Or.inl ⟨by kernel_rfl, ?_⟩) hS ?_
    rotate_left 1
    · (intro w' hSw; (try dsimp only at hSw); go_simp; try (with_reducible rfl))
    try simp only [Act.put, List.setIfInBounds_toArray, List.set_cons_zero, List.set_cons_succ]
    refine wpAnyT_takeD (i := 11) (v := ?_) rfl (by kernel_rfl) (by kernel_rfl) (by kernel_rfl) (by kernel_rfl) (fun _ _ _ h => h) (Or.inl ⟨by kernel_rfl, ?_⟩) hS ?_
    rotate_left 1
    · (intro w' hSw; (try dsimp only at hSw); go_simp; try (with_reducible rfl))
    try simp only [Act.put, List.setIfInBounds_toArray, List.set_cons_zero, List.set_cons_succ]
    refine wpAnyT_takeD (i := 12) (v := ?_) rfl (by kernel_rfl) (by kernel_rfl) (by kernel_rfl) (by kernel_rfl) (fun _ _ _ h => h) (Or.inl ⟨by kernel_rfl, ?_⟩) hS ?_
    rotate_left 1
    · (intro w' hSw; (try dsimp only at hSw); go_simp; try (with_reducible rfl))
    try simp only [Act.put, List.setIfInBounds_toArray, List.set_cons_zero, List.set_cons_succ]
    refine wpAnyT_endD rfl (by kernel_rfl) (by kernel_rfl) (fun K hK => ?_)
    go_simp
    refine hK.out _ _ ?_
    clear hK
    clear hsh hor e1 e2
    go_wp2
    go_ret
    rw [HO2.out]
    exact ⟨rfl, by rw [HP.out]; exact HS.out.1.below (Below.drew (Below.refl _ _)), Tch.drewN HS.out.2 1⟩
theorem bmade_any (S q n : Nat) (W : List Nat) (w : World) (h : BSet S q n W w) : Calls Tryd.prog 40 #[.pointer (some ⟨S, 0, none⟩)] w fun e w' => e = .returned (.bool true) ∧ w' = w := by
  obtain ⟨⟨c0, c1⟩, _, hS⟩ := blk2 h.1
  have hnil := fun (w : World) (a : Option Addr) (l c : Nat) => neq_nil (P := Tryd.prog) w 57 22 a l c Tryd.underlying57
  clear h
  go_enter Tryd.func40, Tryd.ntmps40
  go_wp2
  go_ret
  exact ⟨rfl, rfl⟩
theorem copyW_run {w : World} {g q : Nat} {W : List Nat} {old : Array Value} (hg : w.heap[g]? = some (.cells old 22 (0, 0))) (hos : old.size = W.length) (hq : w.ownsRow 0 22 1 (.slice (some ⟨q, 0, none⟩) W.length W.length) W.length (wcells W)) :
    ∃ W', (Builtin.copy_ #[57, 57] 3 #[.slice (some ⟨g, 0, none⟩) W.length W.length, .slice (some ⟨q, 0, none⟩) W.length W.length]).run Tryd.prog w = .ok (.int .i64 (W.length : Int)) W' ∧ W'.heap[g]? = some (.cells (wcells W).toArray 22 (0, 0)) ∧ Tch (fun k => k = g) w W' := by
  by_cases h0 : W.length = 0
  · have hW : W = [] := List.eq_nil_of_length_eq_zero h0
    subst hW
    have hold : old = #[] := Array.eq_empty_of_size_eq_zero hos
    subst hold
    refine ⟨w, ?_, hg, Tch.refl _ _⟩
    exact run_copy_none (P := Tryd.prog) w 57 57 3 22 (some ⟨g, 0, none⟩) (some ⟨q, 0, none⟩) 0 0 0 0 Tryd.underlying57 (by kernel_rfl) rfl
  · have hlen : (wcells W).length = W.length := wcells_len W
    have hsrc : ∀ j v, (wcells W)[j]? = some v → w.cell? ((⟨q, 0, none⟩ : Addr).add j) = some v := fun j v hv => hq.cells (g := q) rfl j v hv
    have := run_copy_row (P := Tryd.prog) w 57 57 3 22 g 0 W.length W.length ⟨q, 0, none⟩ W.length W.length old 22 (wcells W) Tryd.underlying57 (by kernel_rfl) hg (by rw [hlen]; simp) hsrc (by rw [hlen, hos]; simp) (fun v hv => by
      obtain ⟨b, _, rfl⟩ := List.mem_map.1 hv
      rfl)
    rw [hlen] at this
    refine ⟨_, this, ?_, ⟨rfl, rfl, rfl, by simp [World.setRow], fun k hk hn => ?_⟩⟩
    · rw [setRow_heap _ _ _ _ _ _ hg]
      simp [hos]
    · have hn' : ¬ g = k := fun e => hn e.symm
      simp [World.setRow, Array.getElem?_modify, hn']
theorem bset_copied {S q n : Nat} {W V : List Nat} {w w' : World} (h : BSet S q n V w) (hV : V.length = W.length) (hW : ∀ x ∈ W, x < 2 ^ 64) (hq : w'.heap[q]? = some (.cells (wcells W).toArray 22 (0, 0))) (ht : Tch (fun k => k = q) w w') : BSet S q n W w' := by
  have hlen : W.length = (n + 63) / 64 := by rw [← hV]; exact h.2.2.1
  refine ⟨?_, ⟨by rw [wcells_len, Nat.mul_one], .inr ⟨q, W.length, _, rfl, Nat.zero_le _, hq, Nat.le_refl _, ?_, by simp [wcells_len], by simp only [Nat.mul_one]; exact List.take_of_length_le (by simp [wcells_len])⟩⟩, hlen, hW, h.2.2.2.2⟩
  · have := ht.blk h.1 h.ne
    rw [hV] at this; exact this
  · have := h.2.2.2.2; unfold maxLen; omega
set_option maxHeartbeats 2000000 in
set_option maxRecDepth 100000 in
theorem bmate_any (S q n : Nat) (W : List Nat) (S2 q2 : Nat) (V : List Nat) (w : World) (h : BSet S q n W w) (h2 : BSet S2 q2 n V w) : Calls Tryd.prog 38 #[.pointer (some ⟨S, 0, none⟩), .pointer (some ⟨S2, 0, none⟩)] w (NewSet w n W) := by
  have hM1 := bmade_any S q n W w.drew (h.below (Below.refl _ _).drew)
  have hM2 := bmade_any S2 q2 n V w.drew (h2.below (Below.refl _ _).drew)
  obtain ⟨⟨c0, c1⟩, _, hSl⟩ := blk2 h.1
  obtain ⟨⟨d0, d1⟩, _, hS2⟩ := blk2 h2.1
  have hk : W.length = (n + 63) / 64 := h.2.2.1
  have hn := h.2.2.2.2
  have HH := Lib.hid h
  have HK := Lib.hid hk
  have HM1 := Lib.hid hM1
  have HM2 := Lib.hid hM2
  have hnn : ((n : Int) != (n : Int)) = false := by simp
  clear h h2 hM1 hM2 hk
  go_enter Tryd.func38, Tryd.ntmps38
  go_wp2
  refine wp_region_held_drew (S := fun w' => w'.cell? ⟨S, 0, none⟩ = some (.int .i64 (n : Int)) ∧ w'.cell? ⟨S2, 0, none⟩ = some (.int .i64 (n : Int))) (by kernel_rfl) ⟨c0, d0⟩ (fun hS => ?_)
  refine wpAnyH_takeD (i := 0) (v := ?_) rfl (by kernel_rfl) (by kernel_rfl) (by kernel_rfl) (fun _ _ _ h => h) (Or.inl ⟨by kernel_rfl, ?_⟩) hS ?_
  rotate_left 1
  · (intro w' hSw; (try dsimp only at hSw); go_simp; try (with_reducible rfl))
  try simp only [Act.put, List.setIfInBounds_toArray, List.set_cons_zero, List.set_cons_succ]
  refine wpAnyH_oneD (i := 1) rfl (by kernel_rfl) (fun K hK => ?_)
  go_simp
  refine Calls.mono HM1.out ?_
  rintro e _ ⟨rfl, rfl⟩
  go_wp2_with fail
  refine hK.out _ _ ⟨c0, d0⟩ (fun hS => ?_)
  clear hK
  try simp only [Act.put, List.setIfInBounds_toArray, List.set_cons_zero, List.set_cons_succ]
  refine wpAnyH_takeD (i := 2) (v := ?_) rfl (by kernel_rfl) (by kernel_rfl) (by kernel_rfl) (fun _ _ _ h => h) (Or.inl ⟨by kernel_rfl, ?_⟩) hS ?_
  rotate_left 1
  · (intro w' hSw; (try dsimp only at hSw); go_simp; try (with_reducible rfl))
  try simp only [Act.put, List.setIfInBounds_toArray, List.set_cons_zero, List.set_cons_succ]
  refine wpAnyH_takeD (i := 3) (v := ?_) rfl (by kernel_rfl) (by kernel_rfl) (by kernel_rfl) (fun _ _ _ h => h) (Or.inl ⟨by kernel_rfl, ?_⟩) hS ?_
  rotate_left 1
  · (intro w' hSw; (try dsimp only at hSw); go_simp; try (with_reducible rfl))
  try simp only [Act.put, List.setIfInBounds_toArray, List.set_cons_zero, List.set_cons_succ]
  refine wpAnyH_takeD (i := 4) (v := ?_) rfl (by kernel_rfl) (by kernel_rfl) (by kernel_rfl) (fun _ _ _ h => h) (Or.inl ⟨by kernel_rfl, ?_⟩) hS ?_
  rotate_left 1
  · (intro w' hSw; (try dsimp only at hSw); go_simp; try (with_reducible rfl))
  try simp only [Act.put, List.setIfInBounds_toArray, List.set_cons_zero, List.set_cons_succ]
  refine wpAnyH_oneD (i := 5) rfl (by kernel_rfl) (fun K hK => ?_)
  rw [if_pos (by kernel_rfl)]
  go_simp
  refine Calls.mono HM2.out ?_
  rintro e _ ⟨rfl, rfl⟩
  go_wp2_with fail
  refine hK.out _ _ ⟨c0, d0⟩ (fun hS => ?_)
  clear hK
  try simp only [Act.put, List.setIfInBounds_toArray, List.set_cons_zero, List.set_cons_succ]
  refine wpAnyH_takeD (i := 6) (v := ?_) rfl (by kernel_rfl) (by kernel_rfl) (by kernel_rfl) (fun _ _ _ h => h) (Or.inl ⟨by kernel_rfl, ?_⟩) hS ?_
  rotate_left 1
  · (intro w' hSw; (try dsimp only at hSw); go_simp; try (with_reducible rfl))
  try simp only [Act.put, List.setIfInBounds_toArray, List.set_cons_zero, List.set_cons_succ]
  refine wpAnyH_takeD (i := 7) (v := ?_) rfl (by kernel_rfl) (by kernel_rfl) (by kernel_rfl) (fun _ _ _ h => h) (Or.inl ⟨by kernel_rfl, ?_⟩) hS ?_
  rotate_left 1
  · (intro w' hSw; (try dsimp only at hSw); go_simp; try (with_reducible rfl))
  try simp only [Act.put, List.setIfInBounds_toArray, List.set_cons_zero, List.set_cons_succ]
  refine wpAnyH_takeD (i := 8) (v := ?_) rfl (by kernel_rfl) (by kernel_rfl) (by kernel_rfl) (fun _ _ _ h => h) (Or.inl ⟨by kernel_rfl, ?_⟩) hS ?_
  rotate_left 1
  · (intro w' hSw; (try dsimp only at hSw); go_simp; try (with_reducible rfl))
  try simp only [Act.put, List.setIfInBounds_toArray, List.set_cons_zero, List.set_cons_succ]
  refine wpAnyH_takeD (i := 9) (v := ?_) rfl (by kernel_rfl) (by kernel_rfl) (by kernel_rfl) (fun _ _ _ h => h) (Or.inl ⟨by kernel_rfl, ?_⟩) hS ?_
  rotate_left 1
  · (intro w' hSw; (try dsimp only at hSw); go_simp; try (with_reducible rfl))
  try simp only [Act.put, List.setIfInBounds_toArray, List.set_cons_zero, List.set_cons_succ]
  refine wpAnyH_takeD (i := 10) (v := ?_) rfl (by kernel_rfl) (by kernel_rfl) (by kernel_rfl) (fun _ _ _ h => h) (Or.inl ⟨by kernel_rfl, ?_⟩) hS ?_
  rotate_left 1
  · (intro w' hSw; (try dsimp only at hSw); go_simp; try (with_reducible rfl))
  try simp only [Act.put, List.setIfInBounds_toArray, List.set_cons_zero, List.set_cons_succ]
  refine wpAnyH_takeD (i := 11) (v := ?_) rfl (by kernel_rfl) (by kernel_rfl) (by kernel_rfl) (fun _ _ _ h => h) (Or.inl ⟨by kernel_rfl, ?_⟩) hS ?_
  rotate_left 1
  · (intro w' hSw; (try dsimp only at hSw); go_simp; try (with_reducible rfl))
  try simp only [Act.put, List.setIfInBounds_toArray, List.set_cons_zero, List.set_cons_succ]
  refine wpAnyH_takeD (i := 12) (v := ?_) rfl (by kernel_rfl) (by kernel_rfl) (by kernel_rfl) (fun _ _ _ h => h) (Or.inl ⟨by kernel_rfl, ?_⟩) hS ?_
  rotate_left 1
  · (intro w' hSw; (try dsimp only at hSw); go_simp; try (with_reducible rfl))
  try simp only [Act.put, List.setIfInBounds_toArray, List.set_cons_zero, List.set_cons_succ]
  refine wpAnyH_takeD (i := 13) (v := ?_) rfl (by kernel_rfl) (by kernel_rfl) (by kernel_rfl) (fun _ _ _ h => h) (Or.inl ⟨by kernel_rfl, ?_⟩) hS ?_
  rotate_left 1
  · (intro w' hSw; (try dsimp only at hSw); go_simp; try (with_reducible rfl))
  try simp only [Act.put, List.setIfInBounds_toArray, List.set_cons_zero, List.set_cons_succ]
  refine wpAnyH_takeD (i := 14) (v := ?_) rfl (by kernel_rfl) (by kernel_rfl) (by kernel_rfl) (fun _ _ _ h => h) (Or.inl ⟨by kernel_rfl, ?_⟩) hS ?_
  rotate_left 1
  · (intro w' hSw; (try dsimp only at hSw); go_simp; try (with_reducible rfl))
  try simp only [Act.put, List.setIfInBounds_toArray, List.set_cons_zero, List.set_cons_succ]
  refine wpAnyH_takeD (i := 15) (v := ?_) rfl (by kernel_rfl) (by kernel_rfl) (by kernel_rfl) (fun _ _ _ h => h) (Or.inl ⟨by kernel_rfl, ?_⟩) hS ?_
  rotate_left 1
  · (intro w' hSw; (try dsimp only at hSw); go_simp; try (with_reducible rfl))
  try simp only [Act.put, List.setIfInBounds_toArray, List.set_cons_zero, List.set_cons_succ]
  refine wpAnyH_takeD (i := 16) (v := ?_) rfl (by kernel_rfl) (by kernel_rfl) (by kernel_rfl) (fun _ _ _ h => h) (Or.inl ⟨by kernel_rfl, ?_⟩) hS ?_
  rotate_left 1
  · (intro w' hSw; (try dsimp only at hSw); go_simp; try (with_reducible rfl))
  try simp only [Act.put, List.setIfInBounds_toArray, List.set_cons_zero, List.set_cons_succ]
  refine wpAnyH_takeD (i := 17) (v := ?_) rfl (by kernel_rfl) (by kernel_rfl) (by kernel_rfl) (fun _ _ _ h => h) (Or.inl ⟨by kernel_rfl, ?_⟩) hS ?_
  rotate_left 1
  · (intro w' hSw; (try dsimp only at hSw); go_simp; try (with_reducible rfl))
  try simp only [Act.put, List.setIfInBounds_toArray, List.set_cons_zero, List.set_cons_succ]
  refine wpAnyH_takeD (i := 18) (v := ?_) rfl (by kernel_rfl) (by kernel_rfl) (by kernel_rfl) (fun _ _ _ h => h) (Or.inl ⟨by kernel_rfl, ?_⟩) hS ?_
  rotate_left 1
  · (intro w' hSw; (try dsimp only at hSw); go_simp; try (with_reducible rfl))
  try simp only [Act.put, List.setIfInBounds_toArray, List.set_cons_zero, List.set_cons_succ]
  refine wpAnyH_done (by kernel_rfl) ?_ _
  have hst := BSet.start n w.drew (k := W.length) HK.out hn
  have HNW := Lib.hid (bnew_any n W.length w.drew hn HK.out)
  have hbel : Below w.heap.size w ((w.drew.alloc (.cells (madeCells #[.int .u64 0] W.length) 22)).alloc (.cells #[.int .i64 (n : Int), .slice (some ⟨w.drew.heap.size, 0, none⟩) W.length W.length] 59)) :=
    (((Below.refl _ _).drew).alloc (Nat.le_refl _) _).alloc (by simp) _
  have hq1 : ((w.drew.alloc (.cells (madeCells #[.int .u64 0] W.length) 22)).alloc (.cells #[.int .i64 (n : Int), .slice (some ⟨w.drew.heap.size, 0, none⟩) W.length W.length] 59)).heap[w.heap.size]? = some (.cells (madeCells #[.int .u64 0] W.length) 22 (0, 0)) :=
    (Below.heap_alloc _ _ _ (by simp)).trans (heap_alloc_new w.drew _)
  go_wp2_with fail
  refine Calls.mono HNW.out ?_
  rintro e w1 ⟨rfl, hw1⟩
  rw [← hw1] at hst hbel hq1
  clear hw1
  have hz1 := hbel.size
  have hzs : w.heap.size + 1 < w1.heap.size := hst.lt.1
  have hsz : (madeCells #[Value.int .u64 0] W.length).size = W.length := by
    have := congrArg List.length (toList_madeCells_one (Value.int .u64 0) W.length); simpa using this
  have hcp1 := copyW_run (w := w1.drew) (g := w.heap.size) (q := q) (W := W) hq1 hsz (own_below HH.out.2.1 ((hbel.drew)))
  obtain ⟨w2, hcp, hq2, ht2⟩ := hcp1
  have hst2 := bset_copied (w := w1.drew) (hst.below (Below.refl _ _).drew) (by simp) HH.out.2.2.2.1 hq2 ht2
  have HST2 := Lib.hid hst2
  obtain ⟨⟨n0, n1⟩, _, _⟩ := blk2 hst.1
  rw [List.length_replicate] at n1
  have n1' : w1.cell? ⟨w.heap.size + 1, 1, none⟩ = some (.slice (some ⟨w.heap.size, 0, none⟩) W.length W.length) := n1
  have c1' := (hbel.cell (p := ⟨S, 1, none⟩) hSl).trans c1
  have hb2 : Below w.heap.size w w2 := hbel.trans ((Tch.undrew ht2).below hz1 (fun g hg e => by omega))
  have hm2 : w2.cell? ⟨S, 1, none⟩ = some (.slice (some ⟨q, 0, none⟩) W.length W.length) := (hb2.cell (p := ⟨S, 1, none⟩) hSl).trans c1
  have hm1 : w2.cell? ⟨w.heap.size + 1, 1, none⟩ = some (.slice (some ⟨w.heap.size, 0, none⟩) W.length W.length) := (blk2 hst2.1).1.2
  clear hst hst2 hq1 hq2 n0 n1 HK HNW HM1 HM2 c0 d0 d1
  go_wp2_with fail
  refine wp_region_held_drew (S := fun w' => w'.cell? ⟨w.heap.size + 1, 1, none⟩ = some (.slice (some ⟨w.heap.size, 0, none⟩) W.length W.length) ∧ w'.cell? ⟨S, 1, none⟩ = some (.slice (some ⟨q, 0, none⟩) W.length W.length)) (by kernel_rfl) ⟨n1', c1'⟩ (fun hS => ?_)
  refine wpAnyH_takeD (i := 0) (v := ?_) rfl (by kernel_rfl) (by kernel_rfl) (by kernel_rfl) (fun _ _ _ h => h) (Or.inl ⟨by kernel_rfl, ?_⟩) hS ?_
  rotate_left 1
  · (intro w' hSw; (try dsimp only at hSw); go_simp; try (with_reducible rfl))
  try simp only [Act.put, List.setIfInBounds_toArray, List.set_cons_zero, List.set_cons_succ]
  refine wpAnyH_takeD (i := 1) (v := ?_) rfl (by kernel_rfl) (by kernel_rfl) (by kernel_rfl) (fun _ _ _ h => h) (Or.inl ⟨by kernel_rfl, ?_⟩) hS ?_
  rotate_left 1
  · (intro w' hSw; (try dsimp only at hSw); go_simp; try (with_reducible rfl))
  try simp only [Act.put, List.setIfInBounds_toArray, List.set_cons_zero, List.set_cons_succ]
  refine wpAnyH_takeD (i := 2) (v := ?_) rfl (by kernel_rfl) (by kernel_rfl) (by kernel_rfl) (fun _ _ _ h => h) (Or.inl ⟨by kernel_rfl, ?_⟩) hS ?_
  rotate_left 1
  · (intro w' hSw; (try dsimp only at hSw); go_simp; try (with_reducible rfl))
  try simp only [Act.put, List.setIfInBounds_toArray, List.set_cons_zero, List.set_cons_succ]
  refine wpAnyH_takeD (i := 3) (v := ?_) rfl (by kernel_rfl) (by kernel_rfl) (by kernel_rfl) (fun _ _ _ h => h) (Or.inl ⟨by kernel_rfl, ?_⟩) hS ?_
  rotate_left 1
  · (intro w' hSw; (try dsimp only at hSw); go_simp; try (with_reducible rfl))
  try simp only [Act.put, List.setIfInBounds_toArray, List.set_cons_zero, List.set_cons_succ]
  refine wpAnyH_takeD (i := 4) (v := ?_) rfl (by kernel_rfl) (by kernel_rfl) (by kernel_rfl) (fun _ _ _ h => h) (Or.inl ⟨by kernel_rfl, ?_⟩) hS ?_
  rotate_left 1
  · (intro w' hSw; (try dsimp only at hSw); go_simp; try (with_reducible rfl))
  try simp only [Act.put, List.setIfInBounds_toArray, List.set_cons_zero, List.set_cons_succ]
  refine wpAnyH_takeD (i := 5) (v := ?_) rfl (by kernel_rfl) (by kernel_rfl) (by kernel_rfl) (fun _ _ _ h => h) (Or.inl ⟨by kernel_rfl, ?_⟩) hS ?_
  rotate_left 1
  · (intro w' hSw; (try dsimp only at hSw); go_simp; try (with_reducible rfl))
  try simp only [Act.put, List.setIfInBounds_toArray, List.set_cons_zero, List.set_cons_succ]
  refine wpAnyH_takeD (i := 6) (v := ?_) rfl (by kernel_rfl) (by kernel_rfl) (by kernel_rfl) (fun _ _ _ h => h) (Or.inl ⟨by kernel_rfl, ?_⟩) hS ?_
  rotate_left 1
  · (intro w' hSw; (try dsimp only at hSw); go_simp; try (with_reducible rfl))
  try simp only [Act.put, List.setIfInBounds_toArray, List.set_cons_zero, List.set_cons_succ]
  refine wpAnyH_takeD (i := 7) (v := ?_) rfl (by kernel_rfl) (by kernel_rfl) (by kernel_rfl) (fun _ _ _ h => h) (Or.inl ⟨by kernel_rfl, ?_⟩) hS ?_
  rotate_left 1
  · (intro w' hSw; (try dsimp only at hSw); go_simp; try (with_reducible rfl))
  try simp only [Act.put, List.setIfInBounds_toArray, List.set_cons_zero, List.set_cons_succ]
  refine wpAnyH_oneD (i := 8) rfl (by kernel_rfl) (fun K hK => ?_)
  go_simp
  refine hK.out _ _ ⟨hm1, hm2⟩ (fun hS => ?_)
  clear hK
  try simp only [Act.put, List.setIfInBounds_toArray, List.set_cons_zero, List.set_cons_succ]
  refine wpAnyH_done (by kernel_rfl) ?_ _
  clear hcp
  go_wp2
  go_ret
  exact ⟨_, _, rfl, HST2.out, by omega, Nat.le_refl _, hb2⟩
end Go.Proofs.YtikhlcdgibnolaaDoor
