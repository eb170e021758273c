/- The walks of fix: equal, of. -/
import Derived.Test.YtfpncpjdmgfkbaaFx1
namespace Go.Proofs.Ytfpncpjdmgfkbaa
open Go.RowKit

set_option maxHeartbeats 1000000 in
theorem fequal_any (A1 A2 : Option Addr) (n1 c1 c2 : Nat) (xs ys : List Bool) (w : World) (B1 B2 : Nat) (hx : Sl w B1 1 A1 n1 c1 (xs.map (.bool))) (hy : Sl w B2 1 A2 n1 c2 (ys.map (.bool)))
    (hn1 : n1 = xs.length) (hn2 : n1 = ys.length) (hl : n1 ≤ 100000000000000) :
    Calls Try.prog 68 #[.slice A1 n1 c1, .slice A2 n1 c2] w (Said w (decide (xs = ys))) := by
  have HN1 := Lib.hid hn1
  have HN2 := Lib.hid hn2
  clear hn1 hn2
  go_enter Try.func68, Try.ntmps68
  go_wp2
  go_loopw [8] (fun i wr => ∃ k m : Nat, k ≤ n1 ∧ i = .int .i64 k ∧ wr = w.drewN m ∧ Hid (xs.take k = ys.take k)) (fun i _ => n1 - (intOf i).toNat)
  case atStart => exact ⟨0, 0, by omega, rfl, rfl, rfl⟩
  case round =>
    obtain ⟨k, m, hk, rfl, rfl, ht⟩ := hrel
    by_cases hlt : k < n1
    · have hkx : k < xs.length := by rw [← HN1.out]; exact hlt
      have hky : k < ys.length := by rw [← HN2.out]; exact hlt
      obtain ⟨b, o, rfl, _, hc⟩ := hx.rd.at_ (j := k) (u := .bool xs[k]) (by simp [hkx])
      obtain ⟨b', o', rfl, _, hc'⟩ := hy.rd.at_ (j := k) (u := .bool ys[k]) (by simp [hky])
      have hs := fun h => take_eq_snoc ht.out hkx hky h
      generalize hX : xs[k] = x at *
      generalize hY : ys[k] = y at *
      have HX := Lib.hid hX
      have HY := Lib.hid hY
      have HS := Lib.hid hs
      clear hX hY hs
      have h0 : (0 : Int) ≤ (k : Int) := by omega
      have h1 : (k : Int) < (n1 : Int) := by omega
      cases x
      · cases y
        · go_wp2_with fail
          go_quiet (fail)
          go_wp2
          go_roundw
          case rel => exact ⟨k + 1, _, by omega, by go_num, by first | rfl | rw [World.drewN_drewN], HS.out (by first | rfl | trivial)⟩
          case measure => simp [intOf]; omega
        · go_wp2_with fail
          go_quiet (fail)
          go_wp2
          go_ret
          refine ⟨ret_bool ?_, _, by rw [World.drewN_drewN]⟩
          symm; rw [decide_eq_false_iff_not]
          rintro rfl
          exact Bool.noConfusion (HX.out.symm.trans HY.out)
      · cases y
        · go_wp2_with fail
          go_quiet (fail)
          go_wp2
          go_ret
          refine ⟨ret_bool ?_, _, by rw [World.drewN_drewN]⟩
          symm; rw [decide_eq_false_iff_not]
          rintro rfl
          exact Bool.noConfusion (HX.out.symm.trans HY.out)
        · go_wp2_with fail
          go_quiet (fail)
          go_wp2
          go_roundw
          case rel => exact ⟨k + 1, _, by omega, by go_num, by first | rfl | rw [World.drewN_drewN], HS.out (by first | rfl | trivial)⟩
          case measure => simp [intOf]; omega
    · have hkn : k = n1 := by omega
      subst hkn
      go_wp2
      go_ret
      refine ⟨ret_bool ?_, _, rfl⟩
      have := ht.out
      rw [List.take_of_length_le (by rw [← HN1.out]; exact Nat.le_refl _), List.take_of_length_le (by rw [← HN2.out]; exact Nat.le_refl _)] at this
      simp [this]

set_option maxHeartbeats 400000 in
theorem of_any (A : Option Addr) (n c : Nat) (s : List Bool) (k : Nat) (w : World) (B : Nat) (hn : n = s.length) (hs : Sl w B 1 A n c (s.map .bool)) :
    Calls Try.prog 78 #[.slice A n c, .int .i64 k] w (Tru w (hasB s k)) := by
  subst hn
  by_cases h1 : k < s.length
  · have h1' : decide ((k : Int) < (s.length : Int)) = true := by simpa using h1
    have h1'' : decide (k < s.length) = true := by simpa using h1
    obtain ⟨b, o, rfl, _, hc⟩ := hs.rd.at_ (bcells'_at h1)
    have hr : hasB s (k : Int) = s.getD k false := hasB_nat h1
    have HR := Lib.hid hr
    clear hr
    generalize s.getD k false = x at *
    go_enter Try.func78, Try.ntmps78
    go_wp2
    go_ret
    exact ⟨ret_bool (by simp [HR.out]), Below.refl _ _⟩
  · have h1' : decide ((k : Int) < (s.length : Int)) = false := by simpa using h1
    have h1'' : decide (k < s.length) = false := by simpa using h1
    have hr : hasB s (k : Int) = false := by simp [hasB, isNd, h1]
    have HR := Lib.hid hr
    clear hr
    go_enter Try.func78, Try.ntmps78
    go_wp2
    go_ret
    exact ⟨ret_bool (by simp [HR.out]), Below.refl _ _⟩

theorem fair1_any (i : Int) (w : World) : Calls Try.prog 65 #[.int .i64 i] w (Tru w true) := by
  go_enter Try.func65, Try.ntmps65
  go_wp2
  go_ret
  exact ⟨rfl, Below.refl _ _⟩
end Go.Proofs.Ytfpncpjdmgfkbaa
