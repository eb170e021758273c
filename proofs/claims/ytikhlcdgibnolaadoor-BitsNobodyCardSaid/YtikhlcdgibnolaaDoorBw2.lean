/- The walks of layer 3: sets at any number, nil; Ones, Count, Of, Same. -/
import Derived.Test.YtikhlcdgibnolaaDoorBw
namespace Go.Proofs.YtikhlcdgibnolaaDoor
open Go.RowKit

def inB (n : Nat) (i : Int) : Bool := decide (0 ≤ i) && decide (i < (n : Int))
def hasI (n : Nat) (W : List Nat) (i : Int) : Bool := inB n i && bitOf W i.toNat
def putI (n : Nat) (W : List Nat) (i : Int) : List Nat := if inB n i = true then putW W i.toNat else W
set_option maxHeartbeats 400000 in
theorem bhasI_any (S q n : Nat) (W : List Nat) (i : Int) (w : World) (h : BSet S q n W w) : Calls Tryd.prog 16 #[.pointer (some ⟨S, 0, none⟩), .int .i64 i] w fun e w' => e = .returned (.bool (hasI n W i)) ∧ w = w' := by
  by_cases h0 : 0 ≤ i
  · by_cases h1 : i < (n : Int)
    · obtain ⟨k, rfl⟩ := Int.eq_ofNat_of_zero_le h0
      have e : hasI n W (k : Int) = bitOf W k := by simp [hasI, inB, h1]
      rw [e]
      exact bhas_any S q n W k w h (by omega)
    · have e : hasI n W i = false := by simp [hasI, inB]; intro _ h; omega
      rw [e]
      have HL := Lib.hid (blen_any S q n W w h)
      have d0 : decide (0 ≤ i) = true := by simpa using h0
      have d1 : decide (i < (n : Int)) = false := by simp; omega
      clear h e
      go_enter Tryd.func16, Tryd.ntmps16
      go_wp2_with fail
      refine Calls.mono HL.out ?_
      rintro e w1 ⟨rfl, rfl⟩
      go_wp2
      go_ret
      exact ⟨rfl, rfl⟩
  · have e : hasI n W i = false := by simp [hasI, inB]; intro h; omega
    rw [e]
    have d0 : decide (0 ≤ i) = false := by simpa using h0
    clear h e
    go_enter Tryd.func16, Tryd.ntmps16
    go_wp2
    go_ret
    exact ⟨rfl, rfl⟩
set_option maxHeartbeats 400000 in
theorem bputI_any (S q n : Nat) (W : List Nat) (i : Int) (w : World) (h : BSet S q n W w) : Calls Tryd.prog 19 #[.pointer (some ⟨S, 0, none⟩), .int .i64 i] w (BPost S q n (putI n W i) (inB n i && !bitOf W i.toNat) w) := by
  by_cases h0 : 0 ≤ i
  · by_cases h1 : i < (n : Int)
    · obtain ⟨k, rfl⟩ := Int.eq_ofNat_of_zero_le h0
      have hi : inB n (k : Int) = true := by simp [inB]; omega
      have e : putI n W (k : Int) = putW W k := by simp [putI, hi]
      rw [e, hi, Bool.true_and]
      exact bput_any S q n W k w h (by omega)
    · have hi : inB n i = false := by simp [inB]; intro _; omega
      have e : putI n W i = W := by simp [putI, hi]
      rw [e, hi]
      have HL := Lib.hid (blen_any S q n W w h)
      have HH := Lib.hid h
      have d0 : decide (i < 0) = false := by simp; omega
      have d1 : decide ((n : Int) ≤ i) = true := by simp; omega
      clear h e hi
      go_enter Tryd.func19, Tryd.ntmps19
      go_wp2_with fail
      refine Calls.mono HL.out ?_
      rintro e w1 ⟨rfl, rfl⟩
      go_wp2
      go_ret
      exact ⟨rfl, HH.out, Tch.refl _ _⟩
  · have hi : inB n i = false := by simp [inB]; intro h; omega
    have e : putI n W i = W := by simp [putI, hi]
    rw [e, hi]
    have HH := Lib.hid h
    have d0 : decide (i < 0) = true := by simp; omega
    clear h e hi
    go_enter Tryd.func19, Tryd.ntmps19
    go_wp2
    go_ret
    exact ⟨rfl, HH.out, Tch.refl _ _⟩
/-- A set that is not there. -/
theorem bnilLen_any (w : World) : Calls Tryd.prog 15 #[.pointer none] w fun e w' => e = .returned (.int .i64 0) ∧ w = w' := by
  go_enter Tryd.func15, Tryd.ntmps15
  go_wp2
  go_ret
  exact ⟨rfl, rfl⟩
theorem bnilPut_any (i : Int) (w : World) : Calls Tryd.prog 19 #[.pointer none, .int .i64 i] w fun e w' => e = .returned (.bool false) ∧ w = w' := by
  by_cases h0 : i < 0
  · have d0 : decide (i < 0) = true := by simpa using h0
    go_enter Tryd.func19, Tryd.ntmps19
    go_wp2
    go_ret
    exact ⟨rfl, rfl⟩
  · have d0 : decide (i < 0) = false := by simpa using h0
    have d1 : decide ((0 : Int) ≤ i) = true := by simp; omega
    go_enter Tryd.func19, Tryd.ntmps19
    go_wp2_with fail
    refine (bnilLen_any _).mono ?_
    rintro e w1 ⟨rfl, rfl⟩
    go_wp2
    go_ret
    exact ⟨rfl, rfl⟩
theorem bnewNil_any (n : Int) (w : World) (h : n < 0 ∨ 65536 < n) : Calls Tryd.prog 13 #[.int .i64 n] w fun e w' => e = .returned (.pointer none) ∧ w = w' := by
  rcases h with h | h
  · have d0 : decide (n < 0) = true := by simpa using h
    go_enter Tryd.func13, Tryd.ntmps13
    go_wp2
    go_ret
    exact ⟨rfl, rfl⟩
  · have d0 : decide (n < 0) = false := by simp; omega
    have d1 : decide (65536 < n) = true := by simpa using h
    go_enter Tryd.func13, Tryd.ntmps13
    go_wp2
    go_ret
    exact ⟨rfl, rfl⟩
theorem bones_any (x : Nat) (w : World) (hx : x < 2 ^ 64) : Calls Tryd.prog 10 #[.int .u64 (x : Int)] w fun e w' => e = .returned (.int .i64 (pc x : Nat)) ∧ w = w' := by
  go_enter Tryd.func10, Tryd.ntmps10
  go_wp2_with fail
  refine (ones_any x _ hx).mono ?_
  rintro e w1 ⟨rfl, rfl⟩
  go_wp2
  go_ret
  exact ⟨rfl, rfl⟩
theorem cntW_snoc {W : List Nat} {k : Nat} (hk : k < W.length) : cntW (W.take (k + 1)) = cntW (W.take k) + pc (W.getD k 0) := by
  rw [List.take_succ_eq_append_getElem hk, cntW, List.map_append, List.sum_append]
  simp [cntW, List.getD, hk]
theorem cntW_le (W : List Nat) (k : Nat) (hk : k ≤ W.length) : cntW (W.take k) ≤ 64 * k := by
  induction k with
  | zero => simp [cntW]
  | succ k ih =>
    rw [cntW_snoc (by omega)]
    have := ih (by omega)
    have := pc_le (W.getD k 0)
    omega
set_option maxHeartbeats 400000 in
theorem bcount_any (S q n : Nat) (W : List Nat) (w : World) (h : BSet S q n W w) : Calls Tryd.prog 34 #[.pointer (some ⟨S, 0, none⟩)] w fun e w' => e = .returned (.int .i64 (cntW W : Nat)) ∧ w = w' := by
  obtain ⟨⟨c0, c1⟩, _, hS⟩ := blk2 h.1
  have hlW : W.length ≤ 1024 := by rw [h.2.2.1]; have := h.2.2.2.2; omega
  have HA := Lib.hid (fun (j : Nat) (hj : j < W.length) => h.at_ hj)
  have HC := Lib.hid (cntW_le W)
  clear h
  go_enter Tryd.func34, Tryd.ntmps34
  go_wp2
  go_loop [3, 13] (fun t i => ∃ k : Nat, k ≤ W.length ∧ i = .int .i64 k ∧ t = .int .i64 (cntW (W.take k) : Nat)) (fun _ i => W.length - (intOf i).toNat)
  case atStart => exact ⟨0, by omega, rfl, rfl⟩
  case round =>
    obtain ⟨k, hk, rfl, rfl⟩ := hrel
    by_cases hlt : k < W.length
    · obtain ⟨c2, _, hb⟩ := HA.out k hlt
      have hsn := cntW_snoc hlt
      have hle := HC.out k hk
      have hp := pc_le (W.getD k 0)
      have HSN := Lib.hid hsn
      clear hsn
      generalize W.getD k 0 = x at *
      generalize cntW (W.take k) = t at *
      go_wp2_with fail
      refine (bones_any x _ hb).mono ?_
      rintro e w1 ⟨rfl, rfl⟩
      go_wp2
      go_round
      case rel => exact ⟨k + 1, by omega, by go_num, by rw [HSN.out]; go_num⟩
      case measure => simp [intOf]; omega
    · have hkn : k = W.length := by omega
      subst hkn
      rw [List.take_length]
      go_wp2
      go_ret
      exact ⟨rfl, rfl⟩
/-- A new set. -/
def NewSet (w : World) (n : Nat) (W : List Nat) (e : Ending) (w' : World) : Prop :=
  ∃ S q, e = .returned (.pointer (some ⟨S, 0, none⟩)) ∧ BSet S q n W w' ∧ w.heap.size ≤ S ∧ w.heap.size ≤ q ∧ Below w.heap.size w w'
def putsI (n : Nat) (l : List Int) (W : List Nat) : List Nat := l.foldl (putI n) W
theorem putsI_snoc {n : Nat} {l : List Int} {W : List Nat} {k : Nat} (hk : k < l.length) : putsI n (l.take (k + 1)) W = putI n (putsI n (l.take k) W) l[k] := by
  rw [putsI, List.take_succ_eq_append_getElem hk, List.foldl_append]; rfl
set_option maxHeartbeats 1000000 in
theorem bof_any (n : Nat) (A : Option Addr) (m c : Nat) (l : List Int) (w : World) (B : Nat) (hn : n ≤ 65536) (hm : m = l.length) (hs : Sl w B 1 A m c (icells l)) (hB : B ≤ w.heap.size) :
    Calls Tryd.prog 22 #[.int .i64 (n : Int), .slice A m c] w (NewSet w n (putsI n l (List.replicate ((n + 63) / 64) 0))) := by
  have hcm : m ≤ 9223372036854775807 := by have := hs.cap; have := hs.max; unfold maxLen at this; omega
  have HM := Lib.hid hm
  clear hm
  have hst := BSet.start n w (k := (n + 63) / 64) rfl hn
  have hbel : Below w.heap.size w ((w.alloc (.cells (madeCells #[.int .u64 0] ((n + 63) / 64)) 22)).alloc (.cells #[.int .i64 (n : Int), .slice (some ⟨w.heap.size, 0, none⟩) ((n + 63) / 64) ((n + 63) / 64)] 59)) :=
    ((Below.refl _ _).alloc (Nat.le_refl _) _).alloc (by simp) _
  have HST := Lib.hid hst
  have HNW := Lib.hid (bnew_any n _ w hn rfl)
  generalize (n + 63) / 64 = kk at *
  clear hst
  go_enter Tryd.func22, Tryd.ntmps22
  go_wp2_with fail
  refine Calls.mono HNW.out ?_
  rintro e w1 ⟨rfl, rfl⟩
  obtain ⟨w1, hw1⟩ : ∃ W, W = (w.alloc (.cells (madeCells #[.int .u64 0] kk) 22)).alloc (.cells #[.int .i64 (n : Int), .slice (some ⟨w.heap.size, 0, none⟩) kk kk] 59) := ⟨_, rfl⟩
  rw [← hw1] at HST hbel ⊢
  clear hw1
  go_wp2
  go_loopw [12] (fun i wr => ∃ k : Nat, k ≤ m ∧ i = .int .i64 k ∧ BSet (w.heap.size + 1) w.heap.size n (putsI n (l.take k) (List.replicate kk 0)) wr ∧ Below w.heap.size w wr) (fun i _ => m - (intOf i).toNat)
  case atStart => exact ⟨0, by omega, rfl, HST.out, hbel⟩
  case round =>
    clear hbel HST
    obtain ⟨k, hk, rfl, hS, hb⟩ := hrel
    by_cases hlt : k < m
    · have hkl : k < l.length := by rw [← HM.out]; exact hlt
      obtain ⟨b, o, rfl, _, hc⟩ := rd_int (hs.rd.below hb hB) hkl
      have hsn := putsI_snoc (n := n) (W := List.replicate kk 0) hkl
      have HSN := Lib.hid hsn
      clear hsn
      generalize l[k] = x at *
      have HP := Lib.hid (bputI_any (w.heap.size + 1) w.heap.size n _ x wr hS)
      go_wp2_with fail
      refine Calls.mono HP.out ?_
      rintro e w2 ⟨rfl, hS2, ht2⟩
      go_wp2
      go_roundw
      case rel => exact ⟨k + 1, by omega, by go_num, by rw [HSN.out]; exact hS2, hb.trans (ht2.below hb.size (fun g hg e => by omega))⟩
      case measure => simp [intOf]; omega
    · have hkn : k = m := by omega
      subst hkn
      rw [HM.out, List.take_length] at hS
      go_wp2
      go_ret
      exact ⟨_, _, rfl, hS, by omega, Nat.le_refl _, hb⟩
set_option maxHeartbeats 400000 in
theorem bofNil_any (n : Int) (A : Option Addr) (m c : Nat) (l : List Int) (w : World) (B : Nat) (hn : n < 0 ∨ 65536 < n) (hm : m = l.length) (hs : Sl w B 1 A m c (icells l)) :
    Calls Tryd.prog 22 #[.int .i64 n, .slice A m c] w fun e w' => e = .returned (.pointer none) ∧ w = w' := by
  have hcm : m ≤ 9223372036854775807 := by have := hs.cap; have := hs.max; unfold maxLen at this; omega
  have HM := Lib.hid hm
  have HN := Lib.hid (bnewNil_any n w hn)
  clear hm hn
  go_enter Tryd.func22, Tryd.ntmps22
  go_wp2_with fail
  refine Calls.mono HN.out ?_
  rintro e w1 ⟨rfl, rfl⟩
  go_wp2
  go_loop [12] (fun i => ∃ k : Nat, k ≤ m ∧ i = .int .i64 k) (fun i => m - (intOf i).toNat)
  case atStart => exact ⟨0, by omega, rfl⟩
  case round =>
    obtain ⟨k, hk, rfl⟩ := hrel
    by_cases hlt : k < m
    · have hkl : k < l.length := by rw [← HM.out]; exact hlt
      obtain ⟨b, o, rfl, _, hc⟩ := rd_int hs.rd hkl
      generalize l[k] = x at *
      go_wp2_with fail
      refine (bnilPut_any x _).mono ?_
      rintro e w2 ⟨rfl, rfl⟩
      go_wp2
      go_round
      case rel => exact ⟨k + 1, by omega, by go_num⟩
      case measure => simp [intOf]; omega
    · have hkn : k = m := by omega
      subst hkn
      go_wp2
      go_ret
      exact ⟨rfl, rfl⟩
end Go.Proofs.YtikhlcdgibnolaaDoor
