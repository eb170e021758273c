/- Texts that stand one behind the other, in one file. -/
import Derived.Test.YtiebpncpdbnelaaDoorZak
import Derived.IntWalk
set_option maxHeartbeats 400000
namespace Go.Proofs.YtiebpncpdbnelaaDoor
open Go.RowKit
theorem own_setB {w : World} {base q ne t : Nat} {D : List Bool} {d : Bool} (h : w.ownsRow base 4 1 (.slice (some ⟨q, 0, none⟩) ne ne) ne (bcells D)) :
  (w.setCell ⟨q, t, none⟩ (.bool d)).ownsRow base 4 1 (.slice (some ⟨q, 0, none⟩) ne ne) ne (bcells (D.set t d)) := by
 have := (h.stored t (.bool d)).1
 rw [bcells, List.map_set]; exact this
theorem own_getB {w : World} {base q ne t : Nat} {D : List Bool} (h : w.ownsRow base 4 1 (.slice (some ⟨q, 0, none⟩) ne ne) ne (bcells D)) (ht : t < ne) :
  w.cell? ⟨q, t, none⟩ = some (.bool (D.getD t false)) ∧ w.frozen? ⟨q, t, none⟩ = false ∧ q < w.1.size ∧ D.length = ne := by
 have hl : D.length = ne := by have := h.1; simpa [bcells] using this
 refine ⟨?_, h.frozenAt t, (h.lt q rfl).2, hl⟩
 rw [h.cellAt t (by omega)]
 simp [bcells, List.getD, hl, ht]
section
variable (ai ae al : Option Addr) (ni ci ne ce nl cl : Nat)
end
end Go.Proofs.YtiebpncpdbnelaaDoor
namespace Go.Proofs.YtiebpncpdbnelaaDoor
open Go.RowKit
theorem bits_and_one {x : Nat} (hx : x < 2 ^ 64) : bits .and .u64 (x : Int) 1 = ((x % 2 : Nat) : Int) := by
 show IntKind.u64.wrap ((BitVec.ofInt 64 (x : Int) &&& BitVec.ofInt 64 ((1 : Nat) : Int)).toNat : Int) = _
 rw [BitVec.toNat_and, BitVec.ofInt_natCast, BitVec.toNat_ofNat, BitVec.ofInt_natCast, BitVec.toNat_ofNat, Nat.mod_eq_of_lt hx, Nat.mod_eq_of_lt (by omega), Nat.and_one_is_mod, IntKind.wrap_u64]
 omega
theorem has_bit {x j : Nat} (hx : x < 2 ^ 64) : (bits .and .u64 ((x : Int) / 2 ^ j) 1 == 1) = x.testBit j := by
 have e : (x : Int) / 2 ^ j = ((x / 2 ^ j : Nat) : Int) := by simp
 rw [e, bits_and_one (Nat.lt_of_le_of_lt (Nat.div_le_self _ _) hx), Nat.testBit_eq_decide_div_mod_eq, Bool.eq_iff_iff]
 simp
 omega
theorem wrap_pow {j : Nat} (hj : j < 64) : IntKind.u64.wrap (2 ^ j) = ((2 ^ j : Nat) : Int) := by
 have hp : 2 ^ j ≤ 2 ^ 63 := Nat.pow_le_pow_right (by omega) (by omega)
 have e2 : (2 : Int) ^ j = ((2 ^ j : Nat) : Int) := by simp
 rw [IntKind.wrap_u64, e2]
 generalize 2 ^ j = c at hp ⊢
 omega
theorem pow_lt64 {j : Nat} (hj : j < 64) : 2 ^ j < 2 ^ 64 := Nat.pow_lt_pow_right (by omega) hj
theorem or_bit {x y : Nat} (hx : x < 2 ^ 64) (hy : y < 2 ^ 64) : bits .or .u64 (x : Int) (y : Int) = ((x ||| y : Nat) : Int) := by
 have hor : x ||| y < 2 ^ 64 := Nat.or_lt_two_pow hx hy
 show IntKind.u64.wrap ((BitVec.ofInt 64 (x : Int) ||| BitVec.ofInt 64 (y : Int)).toNat : Int) = _
 rw [BitVec.toNat_or, BitVec.ofInt_natCast, BitVec.toNat_ofNat, BitVec.ofInt_natCast, BitVec.toNat_ofNat, Nat.mod_eq_of_lt hx, Nat.mod_eq_of_lt hy, IntKind.wrap_u64]
 omega
def wcells (W : List Nat) : List Value := W.map (fun (x : Nat) => .int .u64 (x : Int))
def BSet (S q n : Nat) (W : List Nat) (w : World) : Prop :=
 w.1[S]? = some (.cells #[.int .i64 n, .slice (some ⟨q, 0, none⟩) W.length W.length] 107 (0, 0)) ∧ w.ownsRow 0 41 1 (.slice (some ⟨q, 0, none⟩) W.length W.length) W.length (wcells W) ∧
  W.length = (n + 63) / 64 ∧ (∀ x ∈ W, x < 2 ^ 64) ∧ n ≤ 65536
theorem blk2 {w : World} {g T : Nat} {a b : Value} (h : w.1[g]? = some (.cells #[a, b] T (0, 0))) : (w.cell? ⟨g, 0, none⟩ = some a ∧ w.cell? ⟨g, 1, none⟩ = some b) ∧ (w.frozen? ⟨g, 0, none⟩ = false ∧ w.frozen? ⟨g, 1, none⟩ = false) ∧ g < w.1.size :=
 ⟨⟨by rw [cell_of_row w g 0 _ _ _ h]; rfl, by rw [cell_of_row w g 1 _ _ _ h]; rfl⟩, ⟨frozen_of_row w g 0 _ _ h, frozen_of_row w g 1 _ _ h⟩, lt_of_block h⟩
theorem infoU : (Tryd.prog.info? 41).map (fun i => (i.zero, i.size, i.bytes)) = some (some (.int .u64 0), 1, 8) := by kernel_rfl
section
variable {S q n : Nat} {W : List Nat} {w w' : World}
theorem BSet.below (h : BSet S q n W w) (hb : Below w.1.size w w') : BSet S q n W w' :=
 ⟨(hb.block S (lt_of_block h.1)).trans h.1, own_below h.2.1 hb, h.2.2⟩
theorem BSet.tch {F : Nat → Prop} (h : BSet S q n W w) (ht : Tch F w w') (h1 : ¬ F S) (h2 : ¬ F q) : BSet S q n W w' :=
 ⟨ht.blk h.1 h1, own_tch h.2.1 ht (fun g hg => by simp [Value.ownBlock] at hg; subst hg; exact h2), h.2.2⟩
theorem BSet.ne (h : BSet S q n W w) : S ≠ q := fun e => own_ne_blk h.2.1 h.1 (by decide) (by rw [e]; rfl)
theorem BSet.lt (h : BSet S q n W w) : S < w.1.size ∧ q < w.1.size := ⟨lt_of_block h.1, (h.2.1.lt q rfl).2⟩
theorem BSet.at_ (h : BSet S q n W w) {j : Nat} (hj : j < W.length) : w.cell? ⟨q, j, none⟩ = some (.int .u64 (W.getD j 0 : Nat)) ∧ w.frozen? ⟨q, j, none⟩ = false ∧ W.getD j 0 < 2 ^ 64 := by
 refine ⟨?_, h.2.1.frozenAt j, ?_⟩
 ·rw [h.2.1.cellAt j (by omega), wcells, List.getElem?_map, gE hj]
  simp [List.getD, hj]
 ·simp only [List.getD, gE hj, Option.getD_some]
  exact h.2.2.2.1 _ (mM hj)
theorem BSet.set (h : BSet S q n W w) (j x : Nat) (hx : x < 2 ^ 64) : BSet S q n (W.set j x) (w.setCell ⟨q, j, none⟩ (.int .u64 (x : Int))) ∧ Tch (fun k => k = q) w (w.setCell ⟨q, j, none⟩ (.int .u64 (x : Int))) := by
 have ht : Tch (fun k => k = q) w (w.setCell ⟨q, j, none⟩ (.int .u64 (x : Int))) := Tch.setCell (S := fun k => k = q) (p := ⟨q, j, none⟩) (Tch.refl _ w) (fun _ => rfl) _
 refine ⟨⟨?_, ?_, by rw [List.length_set]; exact h.2.2.1, fun y hy => ?_, h.2.2.2.2⟩, ht⟩
 ·rw [List.length_set]; exact ht.blk h.1 h.ne
 ·have := (h.2.1.stored j (.int .u64 (x : Int))).1
  rw [List.length_set]
  simpa [wcells, List.map_set] using this
 ·rcases List.mem_or_eq_of_mem_set hy with h' | h'
  ·exact h.2.2.2.1 y h'
  ·rw [h']; exact hx
end
theorem bnew_any (n k : Nat) (w : World) (hn : n ≤ 65536) (hk : k = (n + 63) / 64) : Calls Tryd.prog 58 #[.int .i64 (n : Int)] w fun e w' => e = .returned (.pointer (some ⟨w.1.size + 1, 0, none⟩)) ∧ w' = (w.alloc (.cells (madeCells #[.int .u64 0] k) 41)).alloc (.cells #[.int .i64 (n : Int), .slice (some ⟨w.1.size, 0, none⟩) k k] 107) := by
 have d1 : decide ((65536 : Int) < (n : Int)) = false := by simp; omega
 have d2 : decide ((n : Int) < 0) = false := by simp
 have hmk := run_make_row' (P := Tryd.prog) 27 41 (.int .u64 0) 8 Tryd.underlying27 infoU rfl .i64 .i64 k (by omega) (by omega)
 have e : ((n : Int) + 64 - 1) / 64 = (k : Int) := by omega
 simp only [← e] at hmk
 clear e hk
 go_enter Tryd.func58, Tryd.ntmps58
 go_wp2
 go_ret
 exact ⟨rfl, rfl⟩
theorem blen_any (S q n : Nat) (W : List Nat) (w : World) (h : BSet S q n W w) : Calls Tryd.prog 90 #[.pointer (some ⟨S, 0, none⟩)] w fun e w' => e = .returned (.int .i64 (n : Int)) ∧ w = w' := by
 obtain ⟨⟨c0, c1⟩, _, hS⟩ := blk2 h.1
 clear h
 go_enter Tryd.func90, Tryd.ntmps90
 go_wp2
 go_ret
 exact ⟨rfl, rfl⟩
def bitOf (W : List Nat) (i : Nat) : Bool := (W.getD (i / 64) 0).testBit (i % 64)
theorem bhas_any (S q n : Nat) (W : List Nat) (i : Nat) (w : World) (h : BSet S q n W w) (hi : i < n) : Calls Tryd.prog 63 #[.pointer (some ⟨S, 0, none⟩), .int .i64 (i : Int)] w fun e w' => e = .returned (.bool (bitOf W i)) ∧ w = w' := by
 have HL := dh (blen_any S q n W w h)
 obtain ⟨⟨c0, c1⟩, _, hS⟩ := blk2 h.1
 have hk : i / 64 < W.length := by rw [h.2.2.1]; omega
 obtain ⟨c2, _, hb⟩ := h.at_ hk
 have hlW : W.length ≤ 1024 := by rw [h.2.2.1]; have := h.2.2.2.2; omega
 unfold bitOf
 generalize W.getD (i / 64) 0 = x at *
 have d1 : decide ((i : Int) < (n : Int)) = true := by simp; omega
 clear h
 go_enter Tryd.func63, Tryd.ntmps63
 go_wp2_with fail
 refine Calls.mono HL.out ?_
 rintro e w1 ⟨rfl, rfl⟩
 go_wp2
 go_ret
 exact ⟨ret_bool (has_bit hb), rfl⟩
def BPost (S q n : Nat) (W : List Nat) (b : Bool) (w : World) (en : Ending) (w' : World) : Prop := en = .returned (.bool b) ∧ BSet S q n W w' ∧ Tch (fun k => k = q) w w'
def putW (W : List Nat) (i : Nat) : List Nat := if bitOf W i = true then W else W.set (i / 64) (W.getD (i / 64) 0 ||| 2 ^ (i % 64))
theorem bput_any (S q n : Nat) (W : List Nat) (i : Nat) (w : World) (h : BSet S q n W w) (hi : i < n) : Calls Tryd.prog 61 #[.pointer (some ⟨S, 0, none⟩), .int .i64 (i : Int)] w (BPost S q n (putW W i) (!bitOf W i) w) := by
 have HL := dh (blen_any S q n W w h)
 have HH := dh (bhas_any S q n W i w h hi)
 have d1 : decide ((n : Int) ≤ (i : Int)) = false := by simp; omega
 have d2 : decide ((i : Int) < 0) = false := by simp
 cases hb : bitOf W i
 ·have hput : putW W i = W.set (i / 64) (W.getD (i / 64) 0 ||| 2 ^ (i % 64)) := by rw [putW, hb]; rfl
  have HP := dh hput
  have HB := dh hb
  obtain ⟨⟨c0, c1⟩, _, hS⟩ := blk2 h.1
  have hk : i / 64 < W.length := by rw [h.2.2.1]; omega
  obtain ⟨c2, f2, hbd⟩ := h.at_ hk
  have hj : i % 64 < 64 := Nat.mod_lt _ (by omega)
  have hset := h.set (i / 64) (W.getD (i / 64) 0 ||| 2 ^ (i % 64)) (Nat.or_lt_two_pow hbd (pow_lt64 hj))
  have hlW : W.length ≤ 1024 := by rw [h.2.2.1]; have := h.2.2.2.2; omega
  have hsh : Op.shift .shl .u64 1 .i64 ((i % 64 : Nat) : Int) = pure (.int .u64 ((2 ^ (i % 64) : Nat) : Int)) := by
   rw [shift_shl .u64 .i64 1 _ (by omega) (by show ((i % 64 : Nat) : Int) ≤ 64; omega), tN, Int.one_mul, wrap_pow hj]
  have hor := or_bit hbd (pow_lt64 hj)
  have hor2 := or_bit hbd (pow_lt64 hj)
  rw [← wrap_pow hj] at hor2
  have HO2 := dh hor2
  clear hor2
  have e1 : IntKind.i64.wrap ((i : Int) / 64) = ((i / 64 : Nat) : Int) := by rw [IntWalk.i64_in _ (by have := h.2.2.2.2; omega)]; omega
  have e2 : ((i : Int)).tmod 64 = ((i % 64 : Nat) : Int) := by rw [Int.tmod_eq_emod_of_nonneg (by omega)]; omega
  have hpl : 2 ^ (i % 64) < 2 ^ 64 := pow_lt64 hj
  generalize 2 ^ (i % 64) = p at *
  generalize W.getD (i / 64) 0 = x at *
  generalize hga : i / 64 = a at *
  generalize hgr : i % 64 = r at *
  have hq := h.lt.2
  have i0 : (0 : Int) ≤ (a : Int) := by omega
  have i1 : (a : Int) < (W.length : Int) := by omega
  clear hga hgr
  have HS := dh hset
  clear h hput hb hset
  have HSH := dh hsh
  have HO := dh hor
  have HE1 := dh e1
  have HE2 := dh e2
  clear hsh hor e1 e2
  go_enter Tryd.func61, Tryd.ntmps61
  go_wp2_with fail
  refine Calls.mono HL.out ?_
  rintro e w1 ⟨rfl, rfl⟩
  go_wp2_with fail
  refine Calls.mono HH.out ?_
  rw [HB.out]
  rintro e w1 ⟨rfl, rfl⟩
  go_wp2_with fail
  have hsh := HSH.out
  have hor := HO.out
  have e1 := HE1.out
  have e2 := HE2.out
  refine wp_region_T (S := fun w' => w'.cell? ⟨S, 1, none⟩ = some (.slice (some ⟨q, 0, none⟩) W.length W.length) ∧ w'.cell? ⟨q, a, none⟩ = some (.int .u64 (x : Int))) 13 (by kernel_rfl) ⟨c1, c2⟩ (fun hS => ?_)
  refine tkT 0 ?_
  refine tkT 1 ?_
  refine tkT 2 ?_
  refine tkT 3 ?_
  refine tkT 4 ?_
  refine tkT 5 ?_
  refine tkT 6 ?_
  refine tkT 7 ?_
  refine tkT 8 ?_
  refine tkT 9 ?_
  refine tkT 10 ?_
  refine tkT 11 ?_
  refine tkT 12 ?_
  refine wpAnyT_endD rfl (by kernel_rfl) (by kernel_rfl) (fun K hK => ?_)
  go_simp
  refine hK.out _ _ ?_
  clear hK
  clear hsh hor e1 e2
  go_wp2
  go_ret
  rw [HO2.out]
  exact ⟨rfl, by rw [HP.out]; exact HS.out.1.below (Below.drew bR), Tch.drewN HS.out.2 1⟩
 ·have hput : putW W i = W := by rw [putW, hb]; rfl
  have HP := dh hput
  have HB := dh hb
  have HH' := dh h
  clear hput hb h
  go_enter Tryd.func61, Tryd.ntmps61
  go_wp2_with fail
  refine Calls.mono HL.out ?_
  rintro e w1 ⟨rfl, rfl⟩
  go_wp2_with fail
  refine Calls.mono HH.out ?_
  rw [HB.out]
  rintro e w1 ⟨rfl, rfl⟩
  go_wp2
  go_ret
  exact ⟨rfl, by rw [HP.out]; exact HH'.out, Tch.refl _ _⟩
end Go.Proofs.YtiebpncpdbnelaaDoor
namespace Go.Proofs.YtiebpncpdbnelaaDoor
open Go.RowKit
theorem own_seti {w : World} {base q ne t : Nat} {D : List Int} {d : Int} (h : w.ownsRow base 3 1 (.slice (some ⟨q, 0, none⟩) ne ne) ne (icells D)) :
  (w.setCell ⟨q, t, none⟩ (.int .i64 d)).ownsRow base 3 1 (.slice (some ⟨q, 0, none⟩) ne ne) ne (icells (D.set t d)) := by
 have := (h.stored t (.int .i64 d)).1
 rw [icells, List.map_set]; exact this
theorem own_geti {w : World} {base q ne t : Nat} {D : List Int} (h : w.ownsRow base 3 1 (.slice (some ⟨q, 0, none⟩) ne ne) ne (icells D)) (ht : t < ne) :
  w.cell? ⟨q, t, none⟩ = some (.int .i64 (D.getD t 0)) ∧ w.frozen? ⟨q, t, none⟩ = false ∧ q < w.1.size ∧ D.length = ne := by
 have hl : D.length = ne := by have := h.1; simpa [icells] using this
 refine ⟨?_, h.frozenAt t, (h.lt q rfl).2, hl⟩
 rw [h.cellAt t (by omega)]
 simp [icells, List.getD, hl, ht]
theorem tch_cell {w : World} (b o : Nat) (v : Value) : Tch (fun k => k = b) w (w.setCell ⟨b, o, none⟩ v) := Tch.setCell (S := fun k => k = b) (p := ⟨b, o, none⟩) (Tch.refl _ w) (fun _ => rfl) v
section
variable {wR w w' w1 w2 : World} {qf qd Sd ne p : Nat} {v : Value} {s : List Int × List Int}
end
end Go.Proofs.YtiebpncpdbnelaaDoor
