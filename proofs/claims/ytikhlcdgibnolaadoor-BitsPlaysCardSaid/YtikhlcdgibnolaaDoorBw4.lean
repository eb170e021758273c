/- The walks of layer 3: And, Or, Minus, Same. -/
import Derived.Test.YtikhlcdgibnolaaDoorBw3
namespace Go.Proofs.YtikhlcdgibnolaaDoor
open Go.RowKit

theorem BSet.len {S q n : Nat} {W : List Nat} {w : World} (h : BSet S q n W w) : W.length = (n + 63) / 64 := h.2.2.1
set_option maxHeartbeats 2000000 in
theorem band_any (S q n : Nat) (W : List Nat) (S2 q2 : Nat) (V : List Nat) (w : World) (h : BSet S q n W w) (h2 : BSet S2 q2 n V w) : Calls Tryd.prog 27 #[.pointer (some ⟨S, 0, none⟩), .pointer (some ⟨S2, 0, none⟩)] w (NewSet w n (List.zipWith (· &&& ·) W V)) := by
  have HMT := Lib.hid (bmate_any S q n W S2 q2 V w h h2)
  have hWV : W.length = V.length := by rw [h.len, h2.len]
  have hlW : W.length ≤ 1024 := by rw [h.len]; have := h.2.2.2.2; omega
  have HW := Lib.hid hWV
  have H2 := Lib.hid h2
  have hWx := Lib.hid h.2.2.2.1
  clear hWV h h2
  go_enter Tryd.func27, Tryd.ntmps27
  go_wp2_with fail
  refine Calls.mono HMT.out ?_
  rintro e w1 ⟨T, t, rfl, hT, hTl, htl, hb1⟩
  have hne := hT.ne
  have h21 := H2.out.below hb1
  obtain ⟨⟨c0, c1⟩, _, hS2⟩ := blk2 h21.1
  rw [← HW.out] at c1
  go_wp2
  go_loopw [18] (fun i wr => ∃ k : Nat, k ≤ W.length ∧ i = .int .i64 k ∧ BSet T t n (zipK (· &&& ·) W V k) wr ∧ Tch (fun g => g = t) w1 wr) (fun i _ => W.length - (intOf i).toNat)
  case atStart => exact ⟨0, by omega, rfl, by rw [zipK_zero]; exact hT, Tch.refl _ _⟩
  case round =>
    clear c0 c1 hS2 h21 hT
    obtain ⟨k, hk, rfl, hX, hb⟩ := hrel
    have hzb := hb.size
    have hbw : Below w.heap.size w wr := hb1.trans (hb.below hb1.size (fun g hg e => by omega))
    have h2r := H2.out.below hbw
    obtain ⟨⟨c0, c1⟩, _, hS2⟩ := blk2 h2r.1
    obtain ⟨⟨d0, d1⟩, _, hTl2⟩ := blk2 hX.1
    rw [← HW.out] at c1
    rw [zipK_len (· &&& ·) HW.out hk] at d1
    by_cases hlt : k < W.length
    · obtain ⟨c2, _, hy⟩ := h2r.at_ (show k < V.length by rw [← HW.out]; exact hlt)
      obtain ⟨d2, f2, hx⟩ := hX.at_ (show k < (zipK (· &&& ·) W V k).length by rw [zipK_len (· &&& ·) HW.out hk]; exact hlt)
      rw [zipK_get (· &&& ·) HW.out hlt] at d2 hx
      have hst := zipK_step (· &&& ·) HW.out hlt
      have hop := and_u64 hx hy
      have hset := hX.set k ((· &&& ·) (W.getD k 0) (V.getD k 0)) (Nat.lt_of_le_of_lt Nat.and_le_left hx)
      rw [hst] at hset
      have HS := Lib.hid hset
      clear hset hst
      generalize W.getD k 0 = x at *
      generalize V.getD k 0 = y at *
      clear h2r hX hx hy
      try dsimp only at HS
      go_wp2
      go_roundw
      case rel => exact ⟨k + 1, by omega, by go_num, HS.out.1, hb.trans HS.out.2 (fun _ _ e => e)⟩
      case measure => simp [intOf]; omega
    · have hkn : k = W.length := by omega
      subst hkn
      rw [zipK_all (· &&& ·) HW.out] at hX
      go_wp2
      go_ret
      exact ⟨T, t, rfl, hX, hTl, htl, hbw⟩
set_option maxHeartbeats 2000000 in
theorem bor_any (S q n : Nat) (W : List Nat) (S2 q2 : Nat) (V : List Nat) (w : World) (h : BSet S q n W w) (h2 : BSet S2 q2 n V w) : Calls Tryd.prog 28 #[.pointer (some ⟨S, 0, none⟩), .pointer (some ⟨S2, 0, none⟩)] w (NewSet w n (List.zipWith (· ||| ·) W V)) := by
  have HMT := Lib.hid (bmate_any S q n W S2 q2 V w h h2)
  have hWV : W.length = V.length := by rw [h.len, h2.len]
  have hlW : W.length ≤ 1024 := by rw [h.len]; have := h.2.2.2.2; omega
  have HW := Lib.hid hWV
  have H2 := Lib.hid h2
  have hWx := Lib.hid h.2.2.2.1
  clear hWV h h2
  go_enter Tryd.func28, Tryd.ntmps28
  go_wp2_with fail
  refine Calls.mono HMT.out ?_
  rintro e w1 ⟨T, t, rfl, hT, hTl, htl, hb1⟩
  have hne := hT.ne
  have h21 := H2.out.below hb1
  obtain ⟨⟨c0, c1⟩, _, hS2⟩ := blk2 h21.1
  rw [← HW.out] at c1
  go_wp2
  go_loopw [18] (fun i wr => ∃ k : Nat, k ≤ W.length ∧ i = .int .i64 k ∧ BSet T t n (zipK (· ||| ·) W V k) wr ∧ Tch (fun g => g = t) w1 wr) (fun i _ => W.length - (intOf i).toNat)
  case atStart => exact ⟨0, by omega, rfl, by rw [zipK_zero]; exact hT, Tch.refl _ _⟩
  case round =>
    clear c0 c1 hS2 h21 hT
    obtain ⟨k, hk, rfl, hX, hb⟩ := hrel
    have hzb := hb.size
    have hbw : Below w.heap.size w wr := hb1.trans (hb.below hb1.size (fun g hg e => by omega))
    have h2r := H2.out.below hbw
    obtain ⟨⟨c0, c1⟩, _, hS2⟩ := blk2 h2r.1
    obtain ⟨⟨d0, d1⟩, _, hTl2⟩ := blk2 hX.1
    rw [← HW.out] at c1
    rw [zipK_len (· ||| ·) HW.out hk] at d1
    by_cases hlt : k < W.length
    · obtain ⟨c2, _, hy⟩ := h2r.at_ (show k < V.length by rw [← HW.out]; exact hlt)
      obtain ⟨d2, f2, hx⟩ := hX.at_ (show k < (zipK (· ||| ·) W V k).length by rw [zipK_len (· ||| ·) HW.out hk]; exact hlt)
      rw [zipK_get (· ||| ·) HW.out hlt] at d2 hx
      have hst := zipK_step (· ||| ·) HW.out hlt
      have hop := or_bit hx hy
      have hset := hX.set k ((· ||| ·) (W.getD k 0) (V.getD k 0)) (Nat.or_lt_two_pow hx hy)
      rw [hst] at hset
      have HS := Lib.hid hset
      clear hset hst
      generalize W.getD k 0 = x at *
      generalize V.getD k 0 = y at *
      clear h2r hX hx hy
      try dsimp only at HS
      go_wp2
      go_roundw
      case rel => exact ⟨k + 1, by omega, by go_num, HS.out.1, hb.trans HS.out.2 (fun _ _ e => e)⟩
      case measure => simp [intOf]; omega
    · have hkn : k = W.length := by omega
      subst hkn
      rw [zipK_all (· ||| ·) HW.out] at hX
      go_wp2
      go_ret
      exact ⟨T, t, rfl, hX, hTl, htl, hbw⟩
set_option maxHeartbeats 2000000 in
theorem bminus_any (S q n : Nat) (W : List Nat) (S2 q2 : Nat) (V : List Nat) (w : World) (h : BSet S q n W w) (h2 : BSet S2 q2 n V w) : Calls Tryd.prog 29 #[.pointer (some ⟨S, 0, none⟩), .pointer (some ⟨S2, 0, none⟩)] w (NewSet w n (List.zipWith bare64 W V)) := by
  have HMT := Lib.hid (bmate_any S q n W S2 q2 V w h h2)
  have hWV : W.length = V.length := by rw [h.len, h2.len]
  have hlW : W.length ≤ 1024 := by rw [h.len]; have := h.2.2.2.2; omega
  have HW := Lib.hid hWV
  have H2 := Lib.hid h2
  have hWx := Lib.hid h.2.2.2.1
  clear hWV h h2
  go_enter Tryd.func29, Tryd.ntmps29
  go_wp2_with fail
  refine Calls.mono HMT.out ?_
  rintro e w1 ⟨T, t, rfl, hT, hTl, htl, hb1⟩
  have hne := hT.ne
  have h21 := H2.out.below hb1
  obtain ⟨⟨c0, c1⟩, _, hS2⟩ := blk2 h21.1
  rw [← HW.out] at c1
  go_wp2
  go_loopw [18] (fun i wr => ∃ k : Nat, k ≤ W.length ∧ i = .int .i64 k ∧ BSet T t n (zipK bare64 W V k) wr ∧ Tch (fun g => g = t) w1 wr) (fun i _ => W.length - (intOf i).toNat)
  case atStart => exact ⟨0, by omega, rfl, by rw [zipK_zero]; exact hT, Tch.refl _ _⟩
  case round =>
    clear c0 c1 hS2 h21 hT
    obtain ⟨k, hk, rfl, hX, hb⟩ := hrel
    have hzb := hb.size
    have hbw : Below w.heap.size w wr := hb1.trans (hb.below hb1.size (fun g hg e => by omega))
    have h2r := H2.out.below hbw
    obtain ⟨⟨c0, c1⟩, _, hS2⟩ := blk2 h2r.1
    obtain ⟨⟨d0, d1⟩, _, hTl2⟩ := blk2 hX.1
    rw [← HW.out] at c1
    rw [zipK_len bare64 HW.out hk] at d1
    by_cases hlt : k < W.length
    · obtain ⟨c2, _, hy⟩ := h2r.at_ (show k < V.length by rw [← HW.out]; exact hlt)
      obtain ⟨d2, f2, hx⟩ := hX.at_ (show k < (zipK bare64 W V k).length by rw [zipK_len bare64 HW.out hk]; exact hlt)
      rw [zipK_get bare64 HW.out hlt] at d2 hx
      have hst := zipK_step bare64 HW.out hlt
      have hop := andNot_bit hx hy
      have hset := hX.set k (bare64 (W.getD k 0) (V.getD k 0)) (bare64_lt _ hx)
      rw [hst] at hset
      have HS := Lib.hid hset
      clear hset hst
      generalize W.getD k 0 = x at *
      generalize V.getD k 0 = y at *
      clear h2r hX hx hy
      try dsimp only at HS
      go_wp2
      go_roundw
      case rel => exact ⟨k + 1, by omega, by go_num, HS.out.1, hb.trans HS.out.2 (fun _ _ e => e)⟩
      case measure => simp [intOf]; omega
    · have hkn : k = W.length := by omega
      subst hkn
      rw [zipK_all bare64 HW.out] at hX
      go_wp2
      go_ret
      exact ⟨T, t, rfl, hX, hTl, htl, hbw⟩
set_option maxHeartbeats 2000000 in
theorem bsame_any (S q n : Nat) (W : List Nat) (S2 q2 : Nat) (w : World) (h : BSet S q n W w) (h2 : BSet S2 q2 n W w) : Calls Tryd.prog 30 #[.pointer (some ⟨S, 0, none⟩), .pointer (some ⟨S2, 0, none⟩)] w (Tru w true) := by
  have HL := Lib.hid (blen_any S q n W w h)
  have HL2 := Lib.hid (blen_any S2 q2 n W w h2)
  have hlW : W.length ≤ 1024 := by rw [h.len]; have := h.2.2.2.2; omega
  obtain ⟨⟨c0, c1⟩, _, hS⟩ := blk2 h.1
  obtain ⟨⟨d0, d1⟩, _, hS2⟩ := blk2 h2.1
  have hnn : ((n : Int) != (n : Int)) = false := by simp
  have HA := Lib.hid (fun (j : Nat) (hj : j < W.length) => h.at_ hj)
  have HA2 := Lib.hid (fun (j : Nat) (hj : j < W.length) => h2.at_ hj)
  clear h h2
  by_cases h0 : n = 0
  · have hn0 : ((n : Int) == 0) = true := by simp [h0]
    clear h0
    go_enter Tryd.func30, Tryd.ntmps30
    go_wp2_with fail
    refine Calls.mono HL.out ?_
    rintro e w1 ⟨rfl, rfl⟩
    go_wp2_with fail
    refine Calls.mono HL2.out ?_
    rintro e w1 ⟨rfl, rfl⟩
    go_wp2_with fail
    refine Calls.mono HL.out ?_
    rintro e w1 ⟨rfl, rfl⟩
    go_wp2
    go_ret
    exact ⟨rfl, Below.refl _ _⟩
  have hn0 : ((n : Int) == 0) = false := by simpa using h0
  go_enter Tryd.func30, Tryd.ntmps30
  go_wp2_with fail
  refine Calls.mono HL.out ?_
  rintro e w1 ⟨rfl, rfl⟩
  go_wp2_with fail
  refine Calls.mono HL2.out ?_
  rintro e w1 ⟨rfl, rfl⟩
  go_wp2_with fail
  refine Calls.mono HL.out ?_
  rintro e w1 ⟨rfl, rfl⟩
  go_wp2
  go_loop [20] (fun i => ∃ k : Nat, k ≤ W.length ∧ i = .int .i64 k) (fun i => W.length - (intOf i).toNat)
  case atStart => exact ⟨0, by omega, rfl⟩
  case round =>
    obtain ⟨k, hk, rfl⟩ := hrel
    by_cases hlt : k < W.length
    · obtain ⟨c2, _, _⟩ := HA.out k hlt
      obtain ⟨d2, _, _⟩ := HA2.out k hlt
      generalize W.getD k 0 = x at *
      have hxx : ((x : Int) != (x : Int)) = false := by simp
      go_wp2
      go_round
      case rel => exact ⟨k + 1, by omega, by go_num⟩
      case measure => simp [intOf]; omega
    · have hkn : k = W.length := by omega
      subst hkn
      go_wp2
      go_ret
      exact ⟨rfl, Below.refl _ _⟩
end Go.Proofs.YtikhlcdgibnolaaDoor
