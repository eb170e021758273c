/- Texts that stand one behind the other, in one file. -/
import Derived.Lib.TrailingZeros
import Derived.RangeFuncBound
import Derived.RangeFuncCalls
import Derived.RangeFuncLeaves
import Derived.Shelf.Abstract
import Derived.OwnWalkIn
import Derived.TacticsInMore
import Derived.LoopNIn
import Derived.LoopIn
import Derived.Test.YtiebpncpdbnelaaGreatDoorZbb
set_option maxHeartbeats 4000000
set_option maxRecDepth 100000
namespace Go.Proofs.YtiebpncpdbnelaaGreatDoor
def bitsL (x : Nat) : List Nat := (List.range 64).filter x.testBit
theorem bitsL_zero : bitsL 0 = [] := by simp [bitsL]
theorem ctz_form {x : Nat} (h0 : x ≠ 0) (h : x < 2 ^ 64) : ∃ m, x = 2 ^ Lib.ctz 64 x * (2 * m + 1) ∧ Lib.ctz 64 x < 64 := by
 have e : Lib.ctz 64 x = Lib.ctzFrom 64 x := by simp [Lib.ctz, h0]
 rw [e]
 exact Lib.ctzFrom_spec 64 x (by omega) h
theorem odd_bits {k m i : Nat} : (2 ^ k * (2 * m + 1)).testBit i = (decide (k ≤ i) && (decide (i = k) || (2 * m).testBit (i - k))) := by
 rw [Nat.mul_comm, Nat.testBit_mul_two_pow]
 by_cases h : k ≤ i
 ·simp only [h, decide_true, Bool.true_and]
  obtain ⟨j, rfl⟩ : ∃ j, i = k + j := ⟨i - k, by omega⟩
  rw [show k + j - k = j by omega]
  rcases j with _ | j
  ·simp
  ·rw [Nat.testBit_succ, Nat.testBit_succ, show (2 * m + 1) / 2 = m by omega, show 2 * m / 2 = m by omega]
   have : ¬ (k + (j + 1) = k) := by omega
   simp
 ·simp [h]
theorem off_bits {x i : Nat} (h0 : x ≠ 0) (h : x < 2 ^ 64) : (x &&& (x - 1)).testBit i = (x.testBit i && decide (i ≠ Lib.ctz 64 x)) := by
 obtain ⟨m, hm, hk⟩ := ctz_form h0 h
 generalize Lib.ctz 64 x = k at *
 have hx1 : x - 1 = 2 ^ k * (2 * m) + (2 ^ k - 1) := by
  have := Nat.two_pow_pos k
  rw [hm, Nat.mul_add]
  omega
 rw [Nat.testBit_and, hx1, Nat.testBit_two_pow_mul_add _ (by have := Nat.two_pow_pos k; omega), hm, odd_bits]
 by_cases hi : i < k
 ·have : ¬ k ≤ i := by omega
  simp [this]
 ·have hki : k ≤ i := by omega
  by_cases he : i = k
  ·subst he
   simp [Nat.testBit_zero]
  ·simp [hi, hki, he]
theorem off_lt {x : Nat} (h : x < 2 ^ 64) : x &&& (x - 1) < 2 ^ 64 := Nat.lt_of_le_of_lt Nat.and_le_left h
theorem bits_step {x : Nat} (h0 : x ≠ 0) (h : x < 2 ^ 64) : bitsL x = Lib.ctz 64 x :: bitsL (x &&& (x - 1)) := by
 obtain ⟨m, hm, hk⟩ := ctz_form h0 h
 have hoff := fun i => off_bits (i := i) h0 h
 have hlow : ∀ i, i < Lib.ctz 64 x → x.testBit i = false := by
  intro i hi
  rw [hm, odd_bits]
  have : ¬ Lib.ctz 64 x ≤ i := by omega
  simp [this]
 have hat : x.testBit (Lib.ctz 64 x) = true := by
  have h2 := odd_bits (k := Lib.ctz 64 x) (m := m) (i := Lib.ctz 64 x)
  rw [← hm] at h2
  rw [h2]; simp
 generalize Lib.ctz 64 x = k at *
 have hr : List.range 64 = List.range k ++ (k :: List.range' (k + 1) (63 - k)) := by
  have h1 : List.range 64 = List.range k ++ List.range' k (64 - k) := by
   rw [List.range_eq_range', List.range_eq_range', show 64 = k + (64 - k) by omega, ← List.range'_append_1]
   simp
  rw [h1, show 64 - k = (63 - k) + 1 by omega, List.range'_succ]
 unfold bitsL
 rw [hr, List.filter_append, List.filter_append, List.filter_cons, List.filter_cons]
 have e1 : (List.range k).filter x.testBit = [] := by
  rw [List.filter_eq_nil_iff]
  intro i hi
  rw [hlow i (List.mem_range.1 hi)]; simp
 have e2 : (List.range k).filter (x &&& (x - 1)).testBit = [] := by
  rw [List.filter_eq_nil_iff]
  intro i hi
  rw [hoff, hlow i (List.mem_range.1 hi)]; simp
 have e3 : (List.range' (k + 1) (63 - k)).filter (x &&& (x - 1)).testBit = (List.range' (k + 1) (63 - k)).filter x.testBit := by
  apply List.filter_congr
  intro i hi
  rw [hoff]
  have := (List.mem_range'_1.1 hi).1
  have : i ≠ k := by omega
  simp [this]
 rw [e1, e2, e3, hat, hoff k]
 simp
end Go.Proofs.YtiebpncpdbnelaaGreatDoor
namespace Go.Proofs.YtiebpncpdbnelaaGreatDoor
open Go.RowKit
theorem and_u64 {x y : Nat} (hx : x < 2 ^ 64) (hy : y < 2 ^ 64) : bits .and .u64 (x : Int) (y : Int) = ((x &&& y : Nat) : Int) := by
 have hand : x &&& y < 2 ^ 64 := Nat.lt_of_le_of_lt Nat.and_le_left hx
 show IntKind.u64.wrap ((BitVec.ofInt 64 (x : Int) &&& BitVec.ofInt 64 (y : Int)).toNat : Int) = _
 rw [BitVec.toNat_and, BitVec.ofInt_natCast, BitVec.toNat_ofNat, BitVec.ofInt_natCast, BitVec.toNat_ofNat, Nat.mod_eq_of_lt hx, Nat.mod_eq_of_lt hy, IntKind.wrap_u64]
 omega
end Go.Proofs.YtiebpncpdbnelaaGreatDoor
namespace Go.Proofs.YtiebpncpdbnelaaGreatDoor
def bare64 (x y : Nat) : Nat := x &&& (2 ^ 64 - (y + 1))
theorem bare64_bit {x y : Nat} (hx : x < 2 ^ 64) (hy : y < 2 ^ 64) (i : Nat) : (bare64 x y).testBit i = (x.testBit i && !y.testBit i) := by
 rw [bare64, Nat.testBit_and, Nat.testBit_two_pow_sub_succ hy]
 by_cases h : i < 64
 ·simp [h]
 ·rw [Nat.testBit_lt_two_pow (Nat.lt_of_lt_of_le hx (Nat.pow_le_pow_right (by omega) (by omega)))]; rfl
theorem bare64_lt {x : Nat} (y : Nat) (hx : x < 2 ^ 64) : bare64 x y < 2 ^ 64 := Nat.lt_of_le_of_lt Nat.and_le_left hx
end Go.Proofs.YtiebpncpdbnelaaGreatDoor
namespace Go.Proofs.YtiebpncpdbnelaaGreatDoor
open Go.RowKit
theorem andNot_bit {x y : Nat} (hx : x < 2 ^ 64) (hy : y < 2 ^ 64) : bits .andNot .u64 (x : Int) (y : Int) = ((bare64 x y : Nat) : Int) := by
 have hb : bare64 x y < 2 ^ 64 := bare64_lt y hx
 show IntKind.u64.wrap ((BitVec.ofInt 64 (x : Int) &&& ~~~ BitVec.ofInt 64 (y : Int)).toNat : Int) = _
 rw [BitVec.toNat_and, BitVec.toNat_not, BitVec.ofInt_natCast, BitVec.toNat_ofNat, BitVec.ofInt_natCast, BitVec.toNat_ofNat, Nat.mod_eq_of_lt hx, Nat.mod_eq_of_lt hy, IntKind.wrap_u64]
 have e : x &&& (2 ^ 64 - 1 - y) = bare64 x y := by rw [bare64]; congr 1; omega
 rw [e]
 omega
end Go.Proofs.YtiebpncpdbnelaaGreatDoor
namespace Go.Proofs.YtiebpncpdbnelaaGreatDoor
def allL (x : List Bool) : List Nat := (List.range x.length).filter (fun i => x.getD i false)
def numsW (W : List Nat) : List Nat := (List.range (64 * W.length)).filter (bitOf W)
def numsK (W : List Nat) (k : Nat) : List Nat := (List.range k).flatMap fun j => (bitsL (W.getD j 0)).map (fun i => j * 64 + i)
theorem numsK_succ (W : List Nat) (k : Nat) : numsK W (k + 1) = numsK W k ++ (bitsL (W.getD k 0)).map (fun i => k * 64 + i) := by
 simp [numsK, List.range_succ]
theorem numsK_range (W : List Nat) : ∀ k, numsK W k = (List.range (64 * k)).filter (bitOf W)
 | 0 => by simp [numsK]
 | k + 1 => by
  have hr : List.range (64 * (k + 1)) = List.range (64 * k) ++ (List.range 64).map (fun i => k * 64 + i) := by
   rw [show 64 * (k + 1) = 64 * k + 64 by omega, List.range_add]
   congr 1
   exact List.map_congr_left (fun i _ => by omega)
  rw [numsK_succ, numsK_range W k, hr, List.filter_append, List.filter_map]
  congr 1
  unfold bitsL
  congr 1
  apply List.filter_congr
  intro i hi
  have hi := List.mem_range.1 hi
  simp only [Function.comp, bitOf]
  rw [show (k * 64 + i) / 64 = k by omega, show (k * 64 + i) % 64 = i by omega]
theorem numsW_all (W : List Nat) : numsK W W.length = numsW W := numsK_range W W.length
structure SameW (n : Nat) (W : List Nat) (x : List Bool) : Prop where
 len : x.length = n
 wl : W.length = (n + 63) / 64
 bit : ∀ i, bitOf W i = x.getD i false
theorem SameW.nums {n : Nat} {W : List Nat} {x : List Bool} (h : SameW n W x) : numsW W = allL x := by
 have hn : n ≤ 64 * W.length := by have := h.wl; omega
 rw [numsW, allL, h.len, show 64 * W.length = n + (64 * W.length - n) by omega, List.range_add, List.filter_append]
 have e : ((List.range (64 * W.length - n)).map (fun i => n + i)).filter (bitOf W) = [] := by
  rw [List.filter_eq_nil_iff]
  intro i hi
  obtain ⟨j, _, rfl⟩ := List.mem_map.1 hi
  rw [h.bit, gD, List.getElem?_eq_none (by rw [h.len]; omega)]
  simp
 rw [e, List.append_nil]
 exact List.filter_congr (fun i _ => h.bit i)
theorem SameW.start (n : Nat) : SameW n (List.replicate ((n + 63) / 64) 0) (List.replicate n false) := by
 refine ⟨by simp, by simp, fun i => ?_⟩
 have e1 : (List.replicate ((n + 63) / 64) 0).getD (i / 64) 0 = 0 := by
  rw [gD]
  by_cases h : i / 64 < (n + 63) / 64
  ·simp [h]
  ·rw [List.getElem?_eq_none (by simp; omega)]; rfl
 rw [bitOf, e1, gD]
 by_cases h : i < n
 ·simp [h]
 ·rw [List.getElem?_eq_none (by simp; omega)]; simp
theorem bit_set {W : List Nat} {i j y : Nat} (hi : i / 64 < W.length) : bitOf (W.set (i / 64) y) j = if j / 64 = i / 64 then y.testBit (j % 64) else bitOf W j := by
 unfold bitOf
 rw [gD, List.getElem?_set]
 by_cases h : i / 64 = j / 64
 ·rw [if_pos h, if_pos h.symm]
  simp [hi]
 ·rw [if_neg h, if_neg (fun e => h e.symm), ← gD]
theorem SameW.put {n : Nat} {W : List Nat} {x : List Bool} (h : SameW n W x) {i : Nat} (hi : i < n) : SameW n (putW W i) (x.set i true) := by
 have hl : i / 64 < W.length := by rw [h.wl]; omega
 have key : ∀ j, bitOf (putW W i) j = (bitOf W j || decide (j = i)) := by
  intro j
  unfold putW
  by_cases hb : bitOf W i = true
  ·rw [if_pos hb]
   by_cases e : j = i
   ·subst e; simp [hb]
   ·simp [e]
  ·rw [if_neg hb, bit_set hl]
   by_cases e : j / 64 = i / 64
   ·rw [if_pos e, Nat.testBit_or, Nat.testBit_two_pow]
    unfold bitOf
    rw [e]
    congr 1
    rw [decide_eq_decide]
    omega
   ·rw [if_neg e]
    have : j ≠ i := fun hh => e (by rw [hh])
    simp [this]
 refine ⟨by rw [List.length_set, h.len], ?_, fun j => ?_⟩
 ·unfold putW; split <;> simp [h.wl]
 ·rw [key, h.bit, gD, gD, List.getElem?_set]
  by_cases e : i = j
  ·subst e
   simp [show i < x.length by rw [h.len]; exact hi]
  ·have : j ≠ i := fun hh => e hh.symm
   simp [e, this]
end Go.Proofs.YtiebpncpdbnelaaGreatDoor
namespace Go.Proofs.YtiebpncpdbnelaaGreatDoor
open Go.RowKit Go.Shelf
attribute [local go_sem] Oper.semAt_some
theorem tz_core (x k idx : Nat) (w : World) (hx0 : ((x : Int) == 0) = false)
  (key : IntKind.u64.wrap (bits BinOp.and IntKind.u64 (x : Int) (IntKind.u64.wrap (-(x : Int))) * 285870213051353865) / 288230376151711744 = (idx : Int))
  (hi : idx < 64) (hk : k < 64) (hcell : w.cell? ⟨0, idx, none⟩ = some (.int .u8 k)) :
  Calls Tryz.prog 75 #[.int .u64 x] w fun e w' => e = .returned (.int .i64 k) ∧ w' = w := by
 go_enter Tryz.func75, Tryz.ntmps75
 go_wp2_with (simp only [key])
 go_ret
 exact ⟨rfl, rfl⟩
theorem tz_any (x : Nat) (hx : x < 2 ^ 64) (hx0 : x ≠ 0) (w : World) (hT : TabAt 0 Lib.deBruijn64tab w) :
  Calls Tryz.prog 75 #[.int .u64 x] w fun e w' => e = .returned (.int .i64 (Lib.ctz 64 x : Nat)) ∧ w' = w := by
 obtain ⟨hlow, hk⟩ := Lib.lowest_bit 64 x hx0 hx
 obtain ⟨hi, htab⟩ := Lib.deBruijn64_at _ hk
 have hcell := hT _ hi
 rw [htab] at hcell
 exact tz_core x _ _ w (by simp; omega) (tz64_key x _ hx hx0 hlow) hi hk hcell
theorem tab_tch {g : Nat} {tab : List Nat} {M : Nat → Prop} {A B : World} (h : TabAt g tab A) (hg : g < A.1.size) (hm : ¬ M g) (hb : Tch M A B) : TabAt g tab B := fun j hj => bD hb hg hm (h j hj)
theorem off_word {y : Nat} (h0 : y ≠ 0) (h : y < 2 ^ 64) : bits .and .u64 (y : Int) ((y : Int) - 1) = ((y &&& (y - 1) : Nat) : Int) := by
 have e : (y : Int) - 1 = ((y - 1 : Nat) : Int) := by omega
 rw [e]
 exact and_u64 h (by omega)
theorem each1_in (n : Nat) (hn : 1 ≤ n) (l Bx x : Nat) (hx : x < 2 ^ 64) (M : Nat → Prop) (J Jx : List Nat × (Nat → Prop) → World → Prop)
  (hY : ∀ pre (i : Nat) N W, J (pre, N) W → pre ++ [i] <+: bitsL x → YieldAt Fence.wide (n - 1) Tryz.prog l #[.int .i64 (i : Int)] W fun e W' => ∃ N', Rnd N W N' W' ∧
   ((e = .returned (.bool true) ∧ J (pre ++ [i], N') W') ∨ (e = .returned (.bool false) ∧ Jx (pre ++ [i], N') W')))
  (W : World) (hM : ∀ k, M k → k < W.1.size) (hg : 0 < W.1.size) (hgM : ¬ M 0) (hBx : W.cell? ⟨Bx, 0, none⟩ = some (.int .u64 (x : Int))) (hT : TabAt 0 Lib.deBruijn64tab W) (h0 : J ([], M) W) :
  CallsIn Fence.wide n Tryz.prog 74 #[.func (.yield l) #[] #[], .pointer (some ⟨Bx, 0, none⟩)] W fun e W' => (∃ v, e = .returned v) ∧
   ((∃ N, J (bitsL x, N) W') ∨ (∃ pre N, pre <+: bitsL x ∧ Jx (pre, N) W')) := by
 refine callsIn_of_wp Tryz.func74 rfl trivial ?_ rfl
 simp only [Tryz.ntmps74, List.size_toArray, List.length_cons, List.length_nil, Nat.reduceAdd, Nat.reduceSub, Array.replicate_succ, Array.replicate_zero, List.push_toArray, List.append_toArray, List.nil_append, List.cons_append]
 gi_wp2
 gi_loopw [3] (fun p wr => ∃ (pre : List Nat) (y : Nat), p = .int .u64 (y : Int) ∧ y < 2 ^ 64 ∧ bitsL x = pre ++ bitsL y ∧ ∃ N, J (pre, N) wr ∧ Rnd M W N wr)
  (fun p _ => (bitsL (intOf p).toNat).length)
 case atStart => exact ⟨[], x, rfl, hx, rfl, M, h0, Rnd.refl hM⟩
 case round =>
  obtain ⟨pre, y, rfl, hy64, hsplit, N, hJs, hnx⟩ := hrel
  by_cases hy0 : y = 0
  ·subst hy0
   rw [bitsL_zero, List.append_nil] at hsplit
   gi_wp2
   go_end0
   exact ⟨⟨_, rfl⟩, .inl ⟨N, by rw [hsplit]; exact hJs⟩⟩
  ·have hstep := bits_step hy0 hy64
   have hw := off_word hy0 hy64
   have hne : ((y : Int) == 0) = false := by simp; omega
   obtain ⟨fn, tmps, assign, body, hy, hR⟩ := hY _ (Lib.ctz 64 y) N wr hJs (by rw [hsplit, hstep]; exact ⟨bitsL (y &&& (y - 1)), by simp⟩)
   have hTr := tab_tch hT hg hgM hnx.tch
   have hT1 := dh (tz_any y hy64 hy0 wr hTr)
   clear hTr
   gi_wp2_with (refine ⟨trivial, ?_⟩; gi_at_call 75; refine (callsIn_wide.2 hT1.out).mono ?_; rintro e w' ⟨rfl, rfl⟩)
   refine hR.mono ?_
   rintro e W3 ⟨N3, hk3, (⟨rfl, hJ3⟩ | ⟨rfl, hJx3⟩)⟩
   ·-- THE ROUND GOES ON
    gi_wp2
    go_roundw
    case rel => exact ⟨pre ++ [Lib.ctz 64 y], y &&& (y - 1), rfl, off_lt hy64, by rw [hsplit, hstep]; simp, N3, hJ3, hnx.trans hk3⟩
    case measure => simp only [intOf, tN]; rw [hstep]; simp
   ·gi_wp2
    refine bodyPost_ret (results_none rfl _ _ _) rfl ?_
    exact ⟨⟨_, rfl⟩, .inr ⟨pre ++ [Lib.ctz 64 y], N3, ⟨bitsL (y &&& (y - 1)), by rw [hsplit, hstep]; simp⟩, hJx3⟩⟩
theorem each_any (x : Nat) (w : World) :
  Calls Tryz.prog 57 #[.int .u64 (x : Int)] w fun e w' => e = .returned (.func (.func 74) #[] #[.pointer (some ⟨w.1.size, 0, none⟩)]) ∧ w' = w.alloc (.cells #[.int .u64 (x : Int)] 34) := by
 go_enter Tryz.func57, Tryz.ntmps57
 go_wp2
 go_ret
 exact ⟨rfl, rfl⟩
theorem each_T (n : Nat) (hn : 1 ≤ n) (Bx x : Nat) (hx : x < 2 ^ 64) (M : Nat → Prop) (w : World) (hM : ∀ k, M k → k < w.1.size) (hg : 0 < w.1.size) (hgM : ¬ M 0) (hB : Bx < w.1.size)
  (hc : w.cell? ⟨Bx, 0, none⟩ = some (.int .u64 (x : Int))) (hT : TabAt 0 Lib.deBruijn64tab w) :
  SeqT Fence.wide n Tryz.prog 74 #[.pointer (some ⟨Bx, 0, none⟩)] (fun i : Nat => #[Value.int .i64 (i : Int)]) M (bitsL x) w := fun l J Jx W hW hl hlW _ _ hY h0 =>
 each1_in n hn l Bx x hx (ext l M) J Jx hY W (fun k e => e.elim (fun e => Nat.lt_of_lt_of_le (hM k e) hW.size) (fun e => e ▸ hlW)) (Nat.lt_of_lt_of_le hg hW.size) (fun e => e.elim hgM (fun e => by omega)) (bD hW hB (fun e => e) hc) (tab_tch hT hg (fun e => e) hW) h0
end Go.Proofs.YtiebpncpdbnelaaGreatDoor
namespace Go.Proofs.YtiebpncpdbnelaaGreatDoor
open Go.RowKit Go.Shelf
attribute [local go_sem] Oper.semAt_some
theorem bitsAll_any (p : Option Addr) (w : World) :
  Calls Tryz.prog 33 #[.pointer p] w fun e w' => e = .returned (.func (.func 56) #[] #[.pointer (some ⟨w.1.size, 0, none⟩)]) ∧ w' = w.alloc (.cells #[.pointer p] 59) := by
 go_enter Tryz.func33, Tryz.ntmps33
 go_wp2
 go_ret
 exact ⟨rfl, rfl⟩
theorem numsK_pre {X : List Nat} {j k : Nat} (h : j ≤ k) : numsK X j <+: numsK X k := by
 obtain ⟨d, rfl⟩ : ∃ d, k = j + d := ⟨k - j, by omega⟩
 clear h
 induction d with
 | zero => exact List.prefix_refl _
 | succ d ih => rw [show j + (d + 1) = (j + d) + 1 by omega, numsK_succ]; exact ih.trans (List.prefix_append _ _)
theorem all1_in (m : Nat) (hm : 3 ≤ m) (l Bs S q n : Nat) (X : List Nat) (M : Nat → Prop) (J Jx : List Nat × (Nat → Prop) → World → Prop)
  (W : World) (hM : ∀ k, M k → k < W.1.size) (hJ : OwnFrom W.1.size J) (hJx : OwnFrom W.1.size Jx)
  (hY : ∀ pre (i : Nat) N W, J (pre, N) W → pre ++ [i] <+: numsW X → YieldAt Fence.wide (m - 1) Tryz.prog l #[.int .i64 (i : Int)] W fun e W' => ∃ N', Rnd N W N' W' ∧
   ((e = .returned (.bool true) ∧ J (pre ++ [i], N') W') ∨ (e = .returned (.bool false) ∧ Jx (pre ++ [i], N') W')))
  (hg : 0 < W.1.size) (hgM : ¬ M 0) (hBs : W.cell? ⟨Bs, 0, none⟩ = some (.pointer (some ⟨S, 0, none⟩))) (hX : BSet S q n X W) (hqM : ¬ M q) (hT : TabAt 0 Lib.deBruijn64tab W) (h0 : J ([], M) W) :
  CallsIn Fence.wide m Tryz.prog 56 #[.func (.yield l) #[] #[], .pointer (some ⟨Bs, 0, none⟩)] W fun e W' => (∃ v, e = .returned v) ∧
   ((∃ N, J (numsW X, N) W') ∨ (∃ pre N, pre <+: numsW X ∧ Jx (pre, N) W')) := by
 obtain ⟨⟨c0, c1⟩, _, hSl⟩ := blk2 hX.1
 have h1m : 1 ≤ m := by omega
 have hB1 := cell_al (.cells #[.func (.yield l) #[] #[]] 51) hBs
 have hc1 := cell_al (.cells #[.func (.yield l) #[] #[]] 51) c1
 have hlX : X.length ≤ 1024 := by rw [hX.2.2.1]; have := hX.2.2.2.2; omega
 have hqW := hX.lt.2
 have hYb := Boxed.new W 51 (.func (.yield l) #[] #[])
 have hT0 : Rnd M W M (W.alloc (.cells #[.func (.yield l) #[] #[]] 51)) := Rnd.of_tch ((Tch.refl _ _).alloc _) hM
 have hJ0 : J (numsK X 0, M) (W.alloc (.cells #[.func (.yield l) #[] #[]] 51)) := hJ.alloc _ (by simpa [numsK] using h0)
 refine callsIn_of_wp_marks Tryz.func56 rfl trivial ?_ rfl
 simp only [Tryz.ntmps56, List.size_toArray, List.length_cons, List.length_nil, Nat.reduceAdd, Nat.reduceSub, Array.replicate_succ, Array.replicate_zero, List.push_toArray, List.append_toArray, List.nil_append, List.cons_append]
 gi_wp2
 clear hB1 hc1 c0 c1
 refine wpIn_loop (fun a' wr => ∃ (k : Nat) (Ds : List Nat) (N : Nat → Prop) (u3 u4 u5 u14 u15 u16 u17 u18 u19 u20 u21 u22 u23 u24 u25 u26 u27 u28 : Value), k ≤ X.length ∧ J (numsK X k, N) wr ∧ Rnd M W N wr ∧ (Boxed wr W.1.size 51 (.func (.yield l) #[] #[]) ∧ ¬ N W.1.size) ∧ (Marks W.1.size Ds wr ∧ ∀ D ∈ Ds, ¬ N D) ∧
   a' = { tmps := #[.func (.yield l) #[] #[], .pointer (some ⟨Bs, 0, none⟩), .pointer (some ⟨W.1.size, 0, none⟩), u3, u4, u5, .pointer (some ⟨S, 0, none⟩), .bool false, .pointer (some ⟨S, 0, none⟩), .pointer (some ⟨S, 0, none⟩), .pointer (some ⟨S, 1, none⟩), .slice (some ⟨q, 0, none⟩) X.length X.length, .int .i64 (X.length : Int), .int .i64 (k : Int), u14, u15, u16, u17, u18, u19, u20, u21, u22, u23, u24, u25, u26, u27, u28], defers := marksOf Ds })
  (fun a' _ => X.length - (intOf (a'.tmps.getD 13 undef)).toNat) ?start ?round
 case start => exact ⟨0, [], M, _, _, _, _, _, _, _, _, _, _, _, _, _, _, _, _, _, _, Nat.zero_le _, hJ0, hT0, ⟨hYb, fun e => Nat.lt_irrefl _ (hM _ e)⟩, ⟨Marks.nil _ _, fun _ h => by cases h⟩, rfl⟩
 case round =>
  rintro a' wr ⟨k, Ds, N, u3, u4, u5, u14, u15, u16, u17, u18, u19, u20, u21, u22, u23, u24, u25, u26, u27, u28, hk, hJs, hTs, ⟨hYs, hYn⟩, ⟨hMs, hMn⟩, rfl⟩
  by_cases hlt : k < X.length
  ·obtain ⟨cw, _, hw64⟩ := hX.at_ hlt
   have cw' := bD hTs.tch hqW hqM cw
   have HX := dh (numsK_succ X k)
   have hPk := numsK_pre (X := X) (show k + 1 ≤ X.length by omega)
   rw [numsW_all] at hPk
   have hP : ∀ pre, pre <+: bitsL (X.getD k 0) → numsK X k ++ pre.map (fun i => k * 64 + i) <+: numsW X := fun pre hpre =>
    List.IsPrefix.trans (by rw [numsK_succ]; exact (List.prefix_append_right_inj _).2 (hpre.map _)) hPk
   clear cw
   generalize X.getD k 0 = x at *
   gi_wp2_with (refine ⟨trivial, ?_⟩; gi_at_call 57; refine (callsIn_wide.2 (each_any _ _)).mono ?_; rintro e w' ⟨rfl, rfl⟩)
   obtain ⟨W0, hW0⟩ := xQ ((wr.alloc (.cells #[.int .i64 (k : Int)] 3)).alloc (.cells #[.int .u64 (x : Int)] 34))
   have t0 : Tch (fun _ => False) wr W0 := by rw [← hW0]; exact ((Tch.refl _ _).alloc _).alloc _
   have hsz : W0.1.size = wr.1.size + 2 := by rw [← hW0]; simp
   have hbk : Boxed W0 wr.1.size 3 (.int .i64 (k : Int)) := by rw [← hW0]; exact (Boxed.new wr _ _).alloc _
   have hbx : Boxed W0 (wr.1.size + 1) 34 (.int .u64 (x : Int)) := by
    rw [← hW0]; have := Boxed.new (wr.alloc (.cells #[.int .i64 (k : Int)] 3)) 34 (.int .u64 (x : Int)); rwa [World.size_alloc] at this
   have hJ1 : J (numsK X k ++ ([] : List Nat).map (fun i => k * 64 + i), N) W0 := by rw [← hW0]; exact hJ.alloc _ (hJ.alloc _ (by simpa using hJs))
   have hYs0 : Boxed W0 W.1.size 51 (.func (.yield l) #[] #[]) := boxed_tch hYs t0 (fun e => e)
   have hMs0 := hMs.tch t0 (fun _ _ e => e)
   have hwr := hTs.tch.size
   have hTs0 : Rnd M W N W0 := hTs.tch_right (t0.wide (fun _ e => e.elim))
   have hYl := Boxed.lt hYs
   rw [hW0]
   clear hW0 hYs hMs hJs
   have hNk : ¬ N wr.1.size := fun e => Nat.lt_irrefl _ (hTs.lt _ e)
   have hMl : ∀ D ∈ Ds, D < W0.1.size := fun D h => hMs0.lt h
   refine wpIn_rangeFunc_T rfl h1m (gf := 74) (lb := #[.pointer (some ⟨wr.1.size + 1, 0, none⟩)]) rfl trivial (enters_of Tryz.func74 (by kernel_rfl) rfl)
    (each_T (m - 1) (by omega) (wr.1.size + 1) x hw64 N W0 hTs0.lt (by omega) (hTs0.not hg hgM) (by omega) hbx.cell (tab_tch hT hg hgM hTs0.tch)) hTs0.lt (fun _ => rfl)
    (fun s V => J (numsK X k ++ s.1.map (fun i => k * 64 + i), s.2) V ∧ Rnd N W0 s.2 V)
    (fun c s V => (c = .ret ∧ Jx (numsK X k ++ s.1.map (fun i => k * 64 + i), s.2) V) ∧ Rnd N W0 s.2 V)
    (OwnFrom.and (ownFrom_mono (fun s X' Y row hs hg hr => hJ (numsK X k ++ s.1.map (fun i => k * 64 + i), s.2) X' Y row hs hg hr) (by omega)) (ownFrom_rnd lR (fun s : List Nat × (Nat → Prop) => s.2)))
    (fun c => OwnFrom.and (fun s X' Y row hs hg hr => ⟨hs.1, hJx _ X' Y row hs.2 hg (fun r e => ⟨by have := (hr r e).1; omega, (hr r e).2⟩)⟩) (ownFrom_rnd lR (fun s : List Nat × (Nat → Prop) => s.2)))
    ⟨hJ1, Rnd.refl hTs0.lt⟩
    (fun i a' _ => a' = { tmps := #[.func (.yield l) #[] #[], .pointer (some ⟨Bs, 0, none⟩), .pointer (some ⟨W.1.size, 0, none⟩), .pointer (some ⟨wr.1.size, 0, none⟩), .int .u64 (x : Int), .int .i64 (i : Int), .pointer (some ⟨S, 0, none⟩), .bool false, .pointer (some ⟨S, 0, none⟩), .pointer (some ⟨S, 0, none⟩), .pointer (some ⟨S, 1, none⟩), .slice (some ⟨q, 0, none⟩) X.length X.length, .int .i64 (X.length : Int), .int .i64 (k : Int), .bool true, .int .i64 (k : Int), .pointer (some ⟨q, k, none⟩), .int .u64 (x : Int), .int .u64 (x : Int), .func (.func 74) #[] #[.pointer (some ⟨wr.1.size + 1, 0, none⟩)], .int .i64 (i : Int), u21, u22, u23, u24, u25, u26, u27, u28], defers := [] })
    (fun _ _ _ _ _ _ hs _ _ => hs) ?assign ?body ?done ?stop
   case assign =>
    intro l2 pre i N1 V K hi _ hK
    gi_wp2
    exact hK _ _ (Tch.refl _ _) hi rfl
   case body =>
    rintro l2 pre i N1 a2 V hl2 _ _ _ ⟨hJv, hTv⟩ rfl hlen
    have by1 := (boxed_tch hYs0 hTv.tch hYn).cell
    have bk1 := (boxed_tch hbk hTv.tch hNk).cell
    obtain ⟨fn, tmps, assign, body, hy, hR⟩ := yieldAt_any (m - 1 - 1 - 1) (hY _ (k * 64 + i) N1 V hJv (by have := hP (pre ++ [i]) hlen; simpa using this))
    have hi64 : i < 64 := by
     have hm : i ∈ bitsL x := hlen.subset (by simp)
     exact List.mem_range.1 (List.mem_filter.1 hm).1
    have ek : ((k * 64 + i : Nat) : Int) = (k : Int) * 64 + (i : Int) := by omega
    rw [ek] at hy
    clear ek
    gi_wp2
    refine ⟨(fun h => by cases h), RoundIn.mono (F := Fence.wide.inRound l2) hR ?_⟩
    clear hR hy
    rintro e V2 ⟨N2, hT2, (⟨rfl, hJ2⟩ | ⟨rfl, hJ2⟩)⟩
    ·gi_wp2
     exact ⟨N2, hT2, by simpa using hJ2, hTv.trans hT2⟩
    ·gi_wp2
     exact ⟨N2, hT2, ⟨rfl, by simpa using hJ2⟩, hTv.trans hT2⟩
   case done =>
    rintro D N1 V hD hDN ⟨hJv, hTv⟩ hDv
    dsimp only at hJv hTv
    rw [← HX.out] at hJv
    gi_wp2
    exact ⟨⟨k + 1, D :: Ds, N1, _, _, _, _, _, _, _, _, _, _, _, _, _, _, _, _, _, _, hlt, hJv, hTs0.trans hTv, ⟨boxed_tch hYs0 hTv.tch hYn, hTv.not (by omega) hYn⟩,
     ⟨(hMs0.tch hTv.tch hMn).cons (by omega) hDv (fun e => by have := hMs0.lt e; omega), fun E hE => by rcases List.mem_cons.1 hE with rfl | hE; exact hDN; exact hTv.not (hMl E hE) (hMn E hE)⟩, rfl⟩, by simp [intOf]; omega⟩
   case stop =>
    rintro D c pre N1 V hD hDN hpre ⟨⟨rfl, hJv⟩, hTv⟩ hDv
    gi_wp2
    exact leaves_marks (B := W.1.size) (K := fun V => Jx (numsK X k ++ pre.map (fun i => k * 64 + i), N1) V) (fun _ => hJx _) (fun V h => ⟨_, results_none rfl _ _ _, ⟨_, rfl⟩, .inr ⟨_, hP pre hpre, N1, h⟩⟩) (D :: Ds) V ((hMs0.tch hTv.tch hMn).cons (by omega) hDv (fun e => by have := hMs0.lt e; omega)) hJv
  ·have hk' : k = X.length := by omega
   subst hk'
   gi_wp2
   exact leaves_marks (B := W.1.size) (K := fun V => J (numsK X X.length, N) V) (fun _ => hJ _) (fun V h => ⟨_, results_none rfl _ _ _, ⟨_, rfl⟩, .inl ⟨N, by rw [← numsW_all]; exact h⟩⟩) Ds wr hMs hJs
theorem all_T (m : Nat) (hm : 3 ≤ m) (Bs S q n : Nat) (X : List Nat) (M : Nat → Prop) (w : World) (hM : ∀ k, M k → k < w.1.size) (hg : 0 < w.1.size) (hgM : ¬ M 0)
  (hBs : w.cell? ⟨Bs, 0, none⟩ = some (.pointer (some ⟨S, 0, none⟩))) (hB : Bs < w.1.size) (hX : BSet S q n X w) (hqM : ¬ M q) (hT : TabAt 0 Lib.deBruijn64tab w) :
  SeqT Fence.wide m Tryz.prog 56 #[.pointer (some ⟨Bs, 0, none⟩)] (fun i : Nat => #[Value.int .i64 (i : Int)]) M (numsW X) w := fun l J Jx W hW hl hlW hJ hJx hY h0 =>
 all1_in m hm l Bs S q n X (ext l M) J Jx W (fun k e => e.elim (fun e => Nat.lt_of_lt_of_le (hM k e) hW.size) (fun e => e ▸ hlW)) hJ hJx hY (Nat.lt_of_lt_of_le hg hW.size) (fun e => e.elim hgM (fun e => by omega))
  (bD hW hB (fun e => e) hBs) (hX.tch hW (fun e => e) (fun e => e)) (fun e => e.elim hqM (fun e => by have := hX.lt.2; omega)) (tab_tch hT hg (fun e => e) hW) h0
end Go.Proofs.YtiebpncpdbnelaaGreatDoor
