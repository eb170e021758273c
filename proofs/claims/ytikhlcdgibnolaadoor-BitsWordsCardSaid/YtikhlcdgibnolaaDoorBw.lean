/- The walks of layer 3 (sets of small numbers): New, Len, Has, Put. -/
import Derived.Test.YtikhlcdgibnolaaDoorProg
import Derived.Test.YtikhlcdgibnolaaDoorMa
import Derived.Test.YtikhlcdgibnolaaDoorMe
import Derived.Test.YtikhlcdgibnolaaDoorOnes
import Derived.Test.YtikhlcdgibnolaaDoorMb
import Derived.Outline
import Derived.IntWalk
import Derived.Deep.OwnRows
namespace Go.Proofs.YtikhlcdgibnolaaDoor
open Go.RowKit

theorem bits_and_one {x : Nat} (hx : x < 2 ^ 64) : bits .and .u64 (x : Int) 1 = ((x % 2 : Nat) : Int) := by
  show IntKind.u64.wrap ((BitVec.ofInt 64 (x : Int) &&& BitVec.ofInt 64 ((1 : Nat) : Int)).toNat : Int) = _
  rw [BitVec.toNat_and, BitVec.ofInt_natCast, BitVec.toNat_ofNat, BitVec.ofInt_natCast, BitVec.toNat_ofNat, Nat.mod_eq_of_lt hx, Nat.mod_eq_of_lt (by omega), Nat.and_one_is_mod, IntKind.wrap_u64]
  omega
theorem has_bit {x j : Nat} (hx : x < 2 ^ 64) : (bits .and .u64 ((x : Int) / 2 ^ j) 1 == 1) = x.testBit j := by
  have e : (x : Int) / 2 ^ j = ((x / 2 ^ j : Nat) : Int) := by simp
  rw [e, bits_and_one (Nat.lt_of_le_of_lt (Nat.div_le_self _ _) hx), Nat.testBit_eq_decide_div_mod_eq, Bool.eq_iff_iff]
  simp
  omega
theorem wrap_pow {j : Nat} (hj : j < 64) : IntKind.u64.wrap (2 ^ j) = ((2 ^ j : Nat) : Int) := by
  have hp : 2 ^ j ≤ 2 ^ 63 := Nat.pow_le_pow_right (by omega) (by omega)
  have e2 : (2 : Int) ^ j = ((2 ^ j : Nat) : Int) := by simp
  rw [IntKind.wrap_u64, e2]
  generalize 2 ^ j = c at hp ⊢
  omega
theorem pow_lt64 {j : Nat} (hj : j < 64) : 2 ^ j < 2 ^ 64 := Nat.pow_lt_pow_right (by omega) hj
theorem or_bit {x y : Nat} (hx : x < 2 ^ 64) (hy : y < 2 ^ 64) : bits .or .u64 (x : Int) (y : Int) = ((x ||| y : Nat) : Int) := by
  have hor : x ||| y < 2 ^ 64 := Nat.or_lt_two_pow hx hy
  show IntKind.u64.wrap ((BitVec.ofInt 64 (x : Int) ||| BitVec.ofInt 64 (y : Int)).toNat : Int) = _
  rw [BitVec.toNat_or, BitVec.ofInt_natCast, BitVec.toNat_ofNat, BitVec.ofInt_natCast, BitVec.toNat_ofNat, Nat.mod_eq_of_lt hx, Nat.mod_eq_of_lt hy, IntKind.wrap_u64]
  omega

def wcells (W : List Nat) : List Value := W.map (fun (x : Nat) => .int .u64 (x : Int))
theorem wcells_len (W : List Nat) : (wcells W).length = W.length := by simp [wcells]
theorem heap_new {w : World} {o : Obj} {k : Nat} (h : k = w.heap.size) : (w.alloc o).heap[k]? = some o := by subst h; exact heap_alloc_new _ _
theorem own_made {w : World} {base e n : Nat} {v : Value} (hb : base ≤ w.heap.size) (hn : n ≤ maxLen) : (w.alloc (.cells (madeCells #[v] n) e)).ownsRow base e 1 (.slice (some ⟨w.heap.size, 0, none⟩) n n) n (List.replicate n v) := by
  have hm : (madeCells #[v] n).toList = List.replicate n v := toList_madeCells_one _ _
  have hs : (madeCells #[v] n).size = n := by have := congrArg List.length hm; simpa using this
  refine ⟨by simp, .inr ⟨w.heap.size, n, _, rfl, hb, heap_alloc_new w _, Nat.le_refl _, hn, by rw [hs, Nat.mul_one], ?_⟩⟩
  rw [List.take_of_length_le (by rw [Array.length_toList, hs]; omega)]
  exact hm
/-- A set in memory: its struct in block S, its words in block q. -/
def BSet (S q n : Nat) (W : List Nat) (w : World) : Prop :=
  w.heap[S]? = some (.cells #[.int .i64 n, .slice (some ⟨q, 0, none⟩) W.length W.length] 59 (0, 0)) ∧ w.ownsRow 0 22 1 (.slice (some ⟨q, 0, none⟩) W.length W.length) W.length (wcells W) ∧
    W.length = (n + 63) / 64 ∧ (∀ x ∈ W, x < 2 ^ 64) ∧ n ≤ 65536
theorem blk2 {w : World} {g T : Nat} {a b : Value} (h : w.heap[g]? = some (.cells #[a, b] T (0, 0))) : (w.cell? ⟨g, 0, none⟩ = some a ∧ w.cell? ⟨g, 1, none⟩ = some b) ∧ (w.frozen? ⟨g, 0, none⟩ = false ∧ w.frozen? ⟨g, 1, none⟩ = false) ∧ g < w.heap.size :=
  ⟨⟨by rw [cell_of_row w g 0 _ _ _ h]; rfl, by rw [cell_of_row w g 1 _ _ _ h]; rfl⟩, ⟨frozen_of_row w g 0 _ _ h, frozen_of_row w g 1 _ _ h⟩, lt_of_block h⟩
theorem infoU : (Tryd.prog.info? 22).map (fun i => (i.zero, i.size, i.bytes)) = some (some (.int .u64 0), 1, 8) := by kernel_rfl
section
variable {S q n : Nat} {W : List Nat} {w w' : World}
theorem BSet.below (h : BSet S q n W w) (hb : Below w.heap.size w w') : BSet S q n W w' :=
  ⟨(hb.block S (lt_of_block h.1)).trans h.1, own_below h.2.1 hb, h.2.2⟩
theorem BSet.tch {F : Nat → Prop} (h : BSet S q n W w) (ht : Tch F w w') (h1 : ¬ F S) (h2 : ¬ F q) : BSet S q n W w' :=
  ⟨ht.blk h.1 h1, own_tch h.2.1 ht (fun g hg => by simp [Value.ownBlock] at hg; subst hg; exact h2), h.2.2⟩
theorem BSet.ne (h : BSet S q n W w) : S ≠ q := fun e => own_ne_blk h.2.1 h.1 (by decide) (by rw [e]; rfl)
theorem BSet.lt (h : BSet S q n W w) : S < w.heap.size ∧ q < w.heap.size := ⟨lt_of_block h.1, (h.2.1.lt q rfl).2⟩
theorem BSet.start (n : Nat) (w : World) {k : Nat} (hk : k = (n + 63) / 64) (hn : n ≤ 65536) : BSet (w.heap.size + 1) w.heap.size n (List.replicate k 0) ((w.alloc (.cells (madeCells #[.int .u64 0] k) 22)).alloc (.cells #[.int .i64 (n : Int), .slice (some ⟨w.heap.size, 0, none⟩) k k] 59)) := by
  have h1 := own_made (w := w) (base := 0) (e := 22) (n := k) (v := .int .u64 0) (Nat.zero_le _) (by unfold maxLen; omega)
  refine ⟨?_, ?_, by simp [hk], fun x hx => by rw [List.mem_replicate] at hx; omega, hn⟩
  · rw [List.length_replicate]; exact heap_new (by simp)
  · rw [List.length_replicate, show wcells (List.replicate k 0) = List.replicate k (.int .u64 0) by simp [wcells]]
    exact h1.alloc _
theorem BSet.at_ (h : BSet S q n W w) {j : Nat} (hj : j < W.length) : w.cell? ⟨q, j, none⟩ = some (.int .u64 (W.getD j 0 : Nat)) ∧ w.frozen? ⟨q, j, none⟩ = false ∧ W.getD j 0 < 2 ^ 64 := by
  refine ⟨?_, h.2.1.frozenAt j, ?_⟩
  · rw [h.2.1.cellAt j (by omega), wcells, List.getElem?_map, List.getElem?_eq_getElem hj]
    simp [List.getD, hj]
  · simp only [List.getD, List.getElem?_eq_getElem hj, Option.getD_some]
    exact h.2.2.2.1 _ (List.getElem_mem hj)
/-- A word is stored. -/
theorem BSet.set (h : BSet S q n W w) (j x : Nat) (hx : x < 2 ^ 64) : BSet S q n (W.set j x) (w.setCell ⟨q, j, none⟩ (.int .u64 (x : Int))) ∧ Tch (fun k => k = q) w (w.setCell ⟨q, j, none⟩ (.int .u64 (x : Int))) := by
  have ht : Tch (fun k => k = q) w (w.setCell ⟨q, j, none⟩ (.int .u64 (x : Int))) := Tch.setCell (S := fun k => k = q) (p := ⟨q, j, none⟩) (Tch.refl _ w) (fun _ => rfl) _
  refine ⟨⟨?_, ?_, by rw [List.length_set]; exact h.2.2.1, fun y hy => ?_, h.2.2.2.2⟩, ht⟩
  · rw [List.length_set]; exact ht.blk h.1 h.ne
  · have := (h.2.1.stored j (.int .u64 (x : Int))).1
    rw [List.length_set]
    simpa [wcells, List.map_set] using this
  · rcases List.mem_or_eq_of_mem_set hy with h' | h'
    · exact h.2.2.2.1 y h'
    · rw [h']; exact hx
end

set_option maxHeartbeats 400000 in
theorem bnew_any (n k : Nat) (w : World) (hn : n ≤ 65536) (hk : k = (n + 63) / 64) : Calls Tryd.prog 13 #[.int .i64 (n : Int)] w fun e w' => e = .returned (.pointer (some ⟨w.heap.size + 1, 0, none⟩)) ∧ w' = (w.alloc (.cells (madeCells #[.int .u64 0] k) 22)).alloc (.cells #[.int .i64 (n : Int), .slice (some ⟨w.heap.size, 0, none⟩) k k] 59) := by
  have d1 : decide ((65536 : Int) < (n : Int)) = false := by simp; omega
  have d2 : decide ((n : Int) < 0) = false := by simp
  have hmk := run_make_row' (P := Tryd.prog) 57 22 (.int .u64 0) 8 Tryd.underlying57 infoU rfl .i64 .i64 k (by omega) (by omega)
  have e : ((n : Int) + 64 - 1) / 64 = (k : Int) := by omega
  simp only [← e] at hmk
  clear e hk
  go_enter Tryd.func13, Tryd.ntmps13
  go_wp2
  go_ret
  exact ⟨rfl, rfl⟩
set_option maxHeartbeats 400000 in
theorem blen_any (S q n : Nat) (W : List Nat) (w : World) (h : BSet S q n W w) : Calls Tryd.prog 15 #[.pointer (some ⟨S, 0, none⟩)] w fun e w' => e = .returned (.int .i64 (n : Int)) ∧ w = w' := by
  obtain ⟨⟨c0, c1⟩, _, hS⟩ := blk2 h.1
  clear h
  go_enter Tryd.func15, Tryd.ntmps15
  go_wp2
  go_ret
  exact ⟨rfl, rfl⟩
/-- Is the digit i 1? -/
def bitOf (W : List Nat) (i : Nat) : Bool := (W.getD (i / 64) 0).testBit (i % 64)
set_option maxHeartbeats 400000 in
theorem bhas_any (S q n : Nat) (W : List Nat) (i : Nat) (w : World) (h : BSet S q n W w) (hi : i < n) : Calls Tryd.prog 16 #[.pointer (some ⟨S, 0, none⟩), .int .i64 (i : Int)] w fun e w' => e = .returned (.bool (bitOf W i)) ∧ w = w' := by
  have HL := Lib.hid (blen_any S q n W w h)
  obtain ⟨⟨c0, c1⟩, _, hS⟩ := blk2 h.1
  have hk : i / 64 < W.length := by rw [h.2.2.1]; omega
  obtain ⟨c2, _, hb⟩ := h.at_ hk
  have hlW : W.length ≤ 1024 := by rw [h.2.2.1]; have := h.2.2.2.2; omega
  unfold bitOf
  generalize W.getD (i / 64) 0 = x at *
  have d1 : decide ((i : Int) < (n : Int)) = true := by simp; omega
  clear h
  go_enter Tryd.func16, Tryd.ntmps16
  go_wp2_with fail
  refine Calls.mono HL.out ?_
  rintro e w1 ⟨rfl, rfl⟩
  go_wp2
  go_ret
  exact ⟨ret_bool (has_bit hb), rfl⟩
/-- A set behind Put, and whether it is new there. -/
def BPost (S q n : Nat) (W : List Nat) (b : Bool) (w : World) (en : Ending) (w' : World) : Prop := en = .returned (.bool b) ∧ BSet S q n W w' ∧ Tch (fun k => k = q) w w'
def putW (W : List Nat) (i : Nat) : List Nat := if bitOf W i = true then W else W.set (i / 64) (W.getD (i / 64) 0 ||| 2 ^ (i % 64))
set_option maxHeartbeats 400000 in
theorem bput_any (S q n : Nat) (W : List Nat) (i : Nat) (w : World) (h : BSet S q n W w) (hi : i < n) : Calls Tryd.prog 19 #[.pointer (some ⟨S, 0, none⟩), .int .i64 (i : Int)] w (BPost S q n (putW W i) (!bitOf W i) w) := by
  have HL := Lib.hid (blen_any S q n W w h)
  have HH := Lib.hid (bhas_any S q n W i w h hi)
  have d1 : decide ((n : Int) ≤ (i : Int)) = false := by simp; omega
  have d2 : decide ((i : Int) < 0) = false := by simp
  cases hb : bitOf W i
  · have hput : putW W i = W.set (i / 64) (W.getD (i / 64) 0 ||| 2 ^ (i % 64)) := by rw [putW, hb]; rfl
    have HP := Lib.hid hput
    have HB := Lib.hid hb
    obtain ⟨⟨c0, c1⟩, _, hS⟩ := blk2 h.1
    have hk : i / 64 < W.length := by rw [h.2.2.1]; omega
    obtain ⟨c2, f2, hbd⟩ := h.at_ hk
    have hj : i % 64 < 64 := Nat.mod_lt _ (by omega)
    have hset := h.set (i / 64) (W.getD (i / 64) 0 ||| 2 ^ (i % 64)) (Nat.or_lt_two_pow hbd (pow_lt64 hj))
    have hlW : W.length ≤ 1024 := by rw [h.2.2.1]; have := h.2.2.2.2; omega
    have hsh : Op.shift .shl .u64 1 .i64 ((i % 64 : Nat) : Int) = pure (.int .u64 ((2 ^ (i % 64) : Nat) : Int)) := by
      rw [shift_shl .u64 .i64 1 _ (by omega) (by show ((i % 64 : Nat) : Int) ≤ 64; omega), Int.toNat_natCast, Int.one_mul, wrap_pow hj]
    have hor := or_bit hbd (pow_lt64 hj)
    have hor2 := or_bit hbd (pow_lt64 hj)
    rw [← wrap_pow hj] at hor2
    have HO2 := Lib.hid hor2
    clear hor2
    have e1 : IntKind.i64.wrap ((i : Int) / 64) = ((i / 64 : Nat) : Int) := by rw [IntWalk.i64_in _ (by have := h.2.2.2.2; omega)]; omega
    have e2 : ((i : Int)).tmod 64 = ((i % 64 : Nat) : Int) := by rw [Int.tmod_eq_emod_of_nonneg (by omega)]; omega
    have hpl : 2 ^ (i % 64) < 2 ^ 64 := pow_lt64 hj
    generalize 2 ^ (i % 64) = p at *
    generalize W.getD (i / 64) 0 = x at *
    generalize hga : i / 64 = a at *
    generalize hgr : i % 64 = r at *
    have hq := h.lt.2
    have i0 : (0 : Int) ≤ (a : Int) := by omega
    have i1 : (a : Int) < (W.length : Int) := by omega
    clear hga hgr
    have HS := Lib.hid hset
    clear h hput hb hset
    have HSH := Lib.hid hsh
    have HO := Lib.hid hor
    have HE1 := Lib.hid e1
    have HE2 := Lib.hid e2
    clear hsh hor e1 e2
    go_enter Tryd.func19, Tryd.ntmps19
    go_wp2_with fail
    refine Calls.mono HL.out ?_
    rintro e w1 ⟨rfl, rfl⟩
    go_wp2_with fail
    refine Calls.mono HH.out ?_
    rw [HB.out]
    rintro e w1 ⟨rfl, rfl⟩
    go_wp2_with fail
    have hsh := HSH.out
    have hor := HO.out
    have e1 := HE1.out
    have e2 := HE2.out
    refine wp_region_T (S := fun w' => w'.cell? ⟨S, 1, none⟩ = some (.slice (some ⟨q, 0, none⟩) W.length W.length) ∧ w'.cell? ⟨q, a, none⟩ = some (.int .u64 (x : Int))) 13 (by kernel_rfl) ⟨c1, c2⟩ (fun hS => ?_)
    refine wpAnyT_takeD (i := 0) (v := ?_) rfl (by kernel_rfl) (by kernel_rfl) (by kernel_rfl) (by kernel_rfl) (fun _ _ _ h => h) (Or.inl ⟨by kernel_rfl, ?_⟩) hS ?_
    rotate_left 1
    · (intro w' hSw; (try dsimp only at hSw); go_simp; try (with_reducible rfl))
    try simp only [Act.put, List.setIfInBounds_toArray, List.set_cons_zero, List.set_cons_succ]
    refine wpAnyT_takeD (i := 1) (v := ?_) rfl (by kernel_rfl) (by kernel_rfl) (by kernel_rfl) (by kernel_rfl) (fun _ _ _ h => h) (Or.inl ⟨by kernel_rfl, ?_⟩) hS ?_
    rotate_left 1
    · (intro w' hSw; (try dsimp only at hSw); go_simp; try (with_reducible rfl))
    try simp only [Act.put, List.setIfInBounds_toArray, List.set_cons_zero, List.set_cons_succ]
    refine wpAnyT_takeD (i := 2) (v := ?_) rfl (by kernel_rfl) (by kernel_rfl) (by kernel_rfl) (by kernel_rfl) (fun _ _ _ h => h) (Or.inl ⟨by kernel_rfl, ?_⟩) hS ?_
    rotate_left 1
    · (intro w' hSw; (try dsimp only at hSw); go_simp; try (with_reducible rfl))
    try simp only [Act.put, List.setIfInBounds_toArray, List.set_cons_zero, List.set_cons_succ]
    refine wpAnyT_takeD (i := 3) (v := ?_) rfl (by kernel_rfl) (by kernel_rfl) (by kernel_rfl) (by kernel_rfl) (fun _ _ _ h => h) (Or.inl ⟨by kernel_rfl, ?_⟩) hS ?_
    rotate_left 1
    · (intro w' hSw; (try dsimp only at hSw); go_simp; try (with_reducible rfl))
    try simp only [Act.put, List.setIfInBounds_toArray, List.set_cons_zero, List.set_cons_succ]
    refine wpAnyT_takeD (i := 4) (v := ?_) rfl (by kernel_rfl) (by kernel_rfl) (by kernel_rfl) (by kernel_rfl) (fun _ _ _ h => h) (Or.inl ⟨by kernel_rfl, ?_⟩) hS ?_
    rotate_left 1
    · (intro w' hSw; (try dsimp only at hSw); go_simp; try (with_reducible rfl))
    try simp only [Act.put, List.setIfInBounds_toArray, List.set_cons_zero, List.set_cons_succ]
    refine wpAnyT_takeD (i := 5) (v := ?_) rfl (by kernel_rfl) (by kernel_rfl) (by kernel_rfl) (by kernel_rfl) (fun _ _ _ h => h) (Or.inl ⟨by kernel_rfl, ?_⟩) hS ?_
    rotate_left 1
    · (intro w' hSw; (try dsimp only at hSw); go_simp; try (with_reducible rfl))
    try simp only [Act.put, List.setIfInBounds_toArray, List.set_cons_zero, List.set_cons_succ]
    refine wpAnyT_takeD (i := 6) (v := ?_) rfl (by kernel_rfl) (by kernel_rfl) (by kernel_rfl) (by kernel_rfl) (fun _ _ _ h => h) (Or.inl ⟨by kernel_rfl, ?_⟩) hS ?_
    rotate_left 1
    · (intro w' hSw; (try dsimp only at hSw); go_simp; try (with_reducible rfl))
    try simp only [Act.put, List.setIfInBounds_toArray, List.set_cons_zero, List.set_cons_succ]
    refine wpAnyT_takeD (i := 7) (v := ?_) rfl (by kernel_rfl) (by kernel_rfl) (by kernel_rfl) (by kernel_rfl) (fun _ _ _ h => h) (Or.inl ⟨by kernel_rfl, ?_⟩) hS ?_
    rotate_left 1
    · (intro w' hSw; (try dsimp only at hSw); go_simp; try (with_reducible rfl))
    try simp only [Act.put, List.setIfInBounds_toArray, List.set_cons_zero, List.set_cons_succ]
    refine wpAnyT_takeD (i := 8) (v := ?_) rfl (by kernel_rfl) (by kernel_rfl) (by kernel_rfl) (by kernel_rfl) (fun _ _ _ h => h) (Or.inl ⟨by kernel_rfl, ?_⟩) hS ?_
    rotate_left 1
    · (intro w' hSw; (try dsimp only at hSw); go_simp; try (with_reducible rfl))
    try simp only [Act.put, List.setIfInBounds_toArray, List.set_cons_zero, List.set_cons_succ]
    refine wpAnyT_takeD (i := 9) (v := ?_) rfl (by kernel_rfl) (by kernel_rfl) (by kernel_rfl) (by kernel_rfl) (fun _ _ _ h => h) (Or.inl ⟨by kernel_rfl, ?_⟩) hS ?_
    rotate_left 1
    · (intro w' hSw; (try dsimp only at hSw); go_simp; try (with_reducible rfl))
    try simp only [Act.put, List.setIfInBounds_toArray, List.set_cons_zero, List.set_cons_succ]
    refine wpAnyT_takeD (i := 10) (v := ?_) rfl (by kernel_rfl) (by kernel_rfl) (by kernel_rfl) (by kernel_rfl) (fun _ _ _ h => h) (Or.inl ⟨by kernel_rfl, ?_⟩) hS ?_
    rotate_left 1
    · (intro w' hSw; (try dsimp only at hSw); go_simp; try (with_reducible rfl))
    try simp only [Act.put, List.setIfInBounds_toArray, List.set_cons_zero, List.set_cons_succ]
    refine wpAnyT_takeD (i := 11) (v := ?_) rfl (by kernel_rfl) (by kernel_rfl) (by kernel_rfl) (by kernel_rfl) (fun _ _ _ h => h) (Or.inl ⟨by kernel_rfl, ?_⟩) hS ?_
    rotate_left 1
    · (intro w' hSw; (try dsimp only at hSw); go_simp; try (with_reducible rfl))
    try simp only [Act.put, List.setIfInBounds_toArray, List.set_cons_zero, List.set_cons_succ]
    refine wpAnyT_takeD (i := 12) (v := ?_) rfl (by kernel_rfl) (by kernel_rfl) (by kernel_rfl) (by kernel_rfl) (fun _ _ _ h => h) (Or.inl ⟨by kernel_rfl, ?_⟩) hS ?_
    rotate_left 1
    · (intro w' hSw; (try dsimp only at hSw); go_simp; try (with_reducible rfl))
    try simp only [Act.put, List.setIfInBounds_toArray, List.set_cons_zero, List.set_cons_succ]
    refine wpAnyT_endD rfl (by kernel_rfl) (by kernel_rfl) (fun K hK => ?_)
    go_simp
    refine hK.out _ _ ?_
    clear hK
    clear hsh hor e1 e2
    go_wp2
    go_ret
    rw [HO2.out]
    exact ⟨rfl, by rw [HP.out]; exact HS.out.1.below (Below.drew (Below.refl _ _)), Tch.drewN HS.out.2 1⟩
  · have hput : putW W i = W := by rw [putW, hb]; rfl
    have HP := Lib.hid hput
    have HB := Lib.hid hb
    have HH' := Lib.hid h
    clear hput hb h
    go_enter Tryd.func19, Tryd.ntmps19
    go_wp2_with fail
    refine Calls.mono HL.out ?_
    rintro e w1 ⟨rfl, rfl⟩
    go_wp2_with fail
    refine Calls.mono HH.out ?_
    rw [HB.out]
    rintro e w1 ⟨rfl, rfl⟩
    go_wp2
    go_ret
    exact ⟨rfl, by rw [HP.out]; exact HH'.out, Tch.refl _ _⟩
end Go.Proofs.YtikhlcdgibnolaaDoor
