/- The walk of math/bits.TrailingZeros64, and the contract of bits.Each's iterator. -/
import Derived.RangeFuncNested
import Derived.RangeFuncBound
import Derived.RangeFuncCalls
import Derived.RangeFuncLeaves
import Derived.Shelf.Abstract
import Derived.Shelf.RegionOpen
import Derived.WalkKit
import Derived.OwnWalkIn
import Derived.TacticsInMore
import Derived.LoopNIn
import Derived.LoopIn
import Derived.Shelf.Spec.TrailingZeros
import Derived.Test.YtikhlcdgibnolaaDoorTzQ
import Derived.Test.YtikhlcdgibnolaaDoorSeqT
namespace Go.Proofs.YtikhlcdgibnolaaDoor
open Go.RowKit Go.Shelf

attribute [local go_sem] Oper.semAt_some

set_option maxHeartbeats 1000000 in
theorem tz_core (x k idx : Nat) (w : World) (hx0 : ((x : Int) == 0) = false)
    (key : IntKind.u64.wrap (bits BinOp.and IntKind.u64 (x : Int) (IntKind.u64.wrap (-(x : Int))) * 285870213051353865) / 288230376151711744 = (idx : Int))
    (hi : idx < 64) (hk : k < 64) (hcell : w.cell? ⟨0, idx, none⟩ = some (.int .u8 k)) :
    Calls Tryd.prog 36 #[.int .u64 x] w fun e w' => e = .returned (.int .i64 k) ∧ w' = w := by
  go_enter Tryd.func36, Tryd.ntmps36
  go_wp2_with (simp only [key])
  go_ret
  exact ⟨rfl, rfl⟩
set_option maxHeartbeats 1000000 in
theorem tz_zero (w : World) : Calls Tryd.prog 36 #[.int .u64 0] w fun e w' => e = .returned (.int .i64 64) ∧ w' = w := by
  go_enter Tryd.func36, Tryd.ntmps36
  go_wp2
  go_ret
  exact ⟨rfl, rfl⟩
theorem tz_any (x : Nat) (hx : x < 2 ^ 64) (hx0 : x ≠ 0) (w : World) (hT : TabAt 0 Lib.deBruijn64tab w) :
    Calls Tryd.prog 36 #[.int .u64 x] w fun e w' => e = .returned (.int .i64 (Lib.ctz 64 x : Nat)) ∧ w' = w := by
  obtain ⟨hlow, hk⟩ := Lib.lowest_bit 64 x hx0 hx
  obtain ⟨hi, htab⟩ := Lib.deBruijn64_at _ hk
  have hcell := hT _ hi
  rw [htab] at hcell
  exact tz_core x _ _ w (by simp; omega) (tz64_key x _ hx hx0 hlow) hi hk hcell
theorem tab_tch {g : Nat} {tab : List Nat} {M : Nat → Prop} {A B : World} (h : TabAt g tab A) (hg : g < A.heap.size) (hm : ¬ M g) (hb : Tch M A B) : TabAt g tab B := fun j hj => (hb.cell (p := ⟨g, j, none⟩) hg hm).trans (h j hj)

theorem off_word {y : Nat} (h0 : y ≠ 0) (h : y < 2 ^ 64) : bits .and .u64 (y : Int) ((y : Int) - 1) = ((y &&& (y - 1) : Nat) : Int) := by
  have e : (y : Int) - 1 = ((y - 1 : Nat) : Int) := by omega
  rw [e]
  exact and_u64 h (by omega)

set_option maxRecDepth 100000 in
set_option maxHeartbeats 2000000 in
theorem each1_in (n : Nat) (hn : 1 ≤ n) (l Bx x : Nat) (hx : x < 2 ^ 64) (M : Nat → Prop) (J Jx : List Nat × (Nat → Prop) → World → Prop)
    (hY : ∀ pre (i : Nat) N W, J (pre, N) W → pre ++ [i] <+: bitsL x → YieldAt Fence.wide (n - 1) Tryd.prog l #[.int .i64 (i : Int)] W fun e W' => ∃ N', Rnd N W N' W' ∧
      ((e = .returned (.bool true) ∧ J (pre ++ [i], N') W') ∨ (e = .returned (.bool false) ∧ Jx (pre ++ [i], N') W')))
    (W : World) (hM : ∀ k, M k → k < W.heap.size) (hg : 0 < W.heap.size) (hgM : ¬ M 0) (hBx : W.cell? ⟨Bx, 0, none⟩ = some (.int .u64 (x : Int))) (hT : TabAt 0 Lib.deBruijn64tab W) (h0 : J ([], M) W) :
    CallsIn Fence.wide n Tryd.prog 35 #[.func (.yield l) #[] #[], .pointer (some ⟨Bx, 0, none⟩)] W fun e W' => (∃ v, e = .returned v) ∧
      ((∃ N, J (bitsL x, N) W') ∨ (∃ pre N, pre <+: bitsL x ∧ Jx (pre, N) W')) := by
  refine callsIn_of_wp Tryd.func35 rfl trivial ?_ rfl
  simp only [Tryd.ntmps35, List.size_toArray, List.length_cons, List.length_nil, Nat.reduceAdd, Nat.reduceSub, Array.replicate_succ, Array.replicate_zero, List.push_toArray, List.append_toArray, List.nil_append, List.cons_append]
  gi_wp2
  gi_loopw [3] (fun p wr => ∃ (pre : List Nat) (y : Nat), p = .int .u64 (y : Int) ∧ y < 2 ^ 64 ∧ bitsL x = pre ++ bitsL y ∧ ∃ N, J (pre, N) wr ∧ Rnd M W N wr)
    (fun p _ => (bitsL (intOf p).toNat).length)
  case atStart => exact ⟨[], x, rfl, hx, rfl, M, h0, Rnd.refl hM⟩
  case round =>
    obtain ⟨pre, y, rfl, hy64, hsplit, N, hJs, hnx⟩ := hrel
    by_cases hy0 : y = 0
    · subst hy0
      rw [bitsL_zero, List.append_nil] at hsplit
      gi_wp2
      go_end0
      exact ⟨⟨_, rfl⟩, .inl ⟨N, by rw [hsplit]; exact hJs⟩⟩
    · have hstep := bits_step hy0 hy64
      have hw := off_word hy0 hy64
      have hne : ((y : Int) == 0) = false := by simp; omega
      obtain ⟨fn, tmps, assign, body, hy, hR⟩ := hY _ (Lib.ctz 64 y) N wr hJs (by rw [hsplit, hstep]; exact ⟨bitsL (y &&& (y - 1)), by simp⟩)
      have hTr := tab_tch hT hg hgM hnx.tch
      have hT1 := Lib.hid (tz_any y hy64 hy0 wr hTr)
      clear hTr
      gi_wp2_with (refine ⟨trivial, ?_⟩; gi_at_call 36; refine (callsIn_wide.2 hT1.out).mono ?_; rintro e w' ⟨rfl, rfl⟩)
      refine hR.mono ?_
      rintro e W3 ⟨N3, hk3, (⟨rfl, hJ3⟩ | ⟨rfl, hJx3⟩)⟩
      · -- THE ROUND GOES ON
        gi_wp2
        go_roundw
        case rel => exact ⟨pre ++ [Lib.ctz 64 y], y &&& (y - 1), rfl, off_lt hy64, by rw [hsplit, hstep]; simp, N3, hJ3, hnx.trans hk3⟩
        case measure => simp only [intOf, Int.toNat_natCast]; rw [hstep]; simp
      · gi_wp2
        refine bodyPost_ret (results_none rfl _ _ _) rfl ?_
        exact ⟨⟨_, rfl⟩, .inr ⟨pre ++ [Lib.ctz 64 y], N3, ⟨bitsL (y &&& (y - 1)), by rw [hsplit, hstep]; simp⟩, hJx3⟩⟩

set_option maxHeartbeats 1000000 in
/-- bits.Each: the word is boxed; the iterator captures the box. -/
theorem each_any (x : Nat) (w : World) :
    Calls Tryd.prog 8 #[.int .u64 (x : Int)] w fun e w' => e = .returned (.func (.func 35) #[] #[.pointer (some ⟨w.heap.size, 0, none⟩)]) ∧ w' = w.alloc (.cells #[.int .u64 (x : Int)] 22) := by
  go_enter Tryd.func8, Tryd.ntmps8
  go_wp2
  go_ret
  exact ⟨rfl, rfl⟩
/-- The numbers of a word, one after the other. -/
theorem each_T (n : Nat) (hn : 1 ≤ n) (Bx x : Nat) (hx : x < 2 ^ 64) (M : Nat → Prop) (w : World) (hM : ∀ k, M k → k < w.heap.size) (hg : 0 < w.heap.size) (hgM : ¬ M 0) (hB : Bx < w.heap.size)
    (hc : w.cell? ⟨Bx, 0, none⟩ = some (.int .u64 (x : Int))) (hT : TabAt 0 Lib.deBruijn64tab w) :
    SeqT Fence.wide n Tryd.prog 35 #[.pointer (some ⟨Bx, 0, none⟩)] (fun i : Nat => #[Value.int .i64 (i : Int)]) M (bitsL x) w := fun l J Jx W hW hl hlW _ _ hY h0 =>
  each1_in n hn l Bx x hx (ext l M) J Jx hY W (fun k e => e.elim (fun e => Nat.lt_of_lt_of_le (hM k e) hW.size) (fun e => e ▸ hlW)) (Nat.lt_of_lt_of_le hg hW.size) (fun e => e.elim hgM (fun e => by omega)) ((hW.cell (p := ⟨Bx, 0, none⟩) hB (fun e => e)).trans hc) (tab_tch hT hg (fun e => e) hW) h0
end Go.Proofs.YtikhlcdgibnolaaDoor
