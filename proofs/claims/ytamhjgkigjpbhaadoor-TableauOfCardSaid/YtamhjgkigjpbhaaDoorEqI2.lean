/- The walk of a function that holds two lists against one another. -/
import Derived.Test.YtamhjgkigjpbhaaDoorProg
import Derived.Test.YtamhjgkigjpbhaaDoorMa
namespace Go.Proofs.YtamhjgkigjpbhaaDoor
open Go.RowKit

set_option maxHeartbeats 1000000 in
theorem equalI_any (A1 A2 : Option Addr) (n1 c1 n2 c2 : Nat) (xs ys : List Int) (w : World) (B1 B2 : Nat) (hx : Sl w B1 1 A1 n1 c1 (xs.map (.int .i64))) (hy : Sl w B2 1 A2 n2 c2 (ys.map (.int .i64)))
    (hn1 : n1 = xs.length) (hn2 : n2 = ys.length) (hl : n1 ≤ 100000000000000) :
    Calls Tryd.prog 19 #[.slice A1 n1 c1, .slice A2 n2 c2] w (Said w (decide (xs = ys))) := by
  by_cases hne : n1 = n2
  · subst hne
    have HN1 := Lib.hid hn1
    have HN2 := Lib.hid hn2
    clear hn1 hn2
    have hd : ((n1 : Int) != (n1 : Int)) = false := by simp
    go_enter Tryd.func19, Tryd.ntmps19
    go_wp2
    go_loopw [13] (fun i wr => ∃ k m : Nat, k ≤ n1 ∧ i = .int .i64 k ∧ wr = w.drewN m ∧ Hid (xs.take k = ys.take k)) (fun i _ => n1 - (intOf i).toNat)
    case atStart => exact ⟨0, 0, by omega, rfl, rfl, rfl⟩
    case round =>
      obtain ⟨k, m, hk, rfl, rfl, ht⟩ := hrel
      by_cases hlt : k < n1
      · have hkx : k < xs.length := by rw [← HN1.out]; exact hlt
        have hky : k < ys.length := by rw [← HN2.out]; exact hlt
        obtain ⟨b, o, rfl, _, hc⟩ := hx.rd.at_ (j := k) (u := .int .i64 xs[k]) (by simp [hkx])
        obtain ⟨b', o', rfl, _, hc'⟩ := hy.rd.at_ (j := k) (u := .int .i64 ys[k]) (by simp [hky])
        have hs := fun h => take_eq_snoc ht.out hkx hky h
        generalize hX : xs[k] = x at *
        generalize hY : ys[k] = y at *
        have HX := Lib.hid hX
        have HY := Lib.hid hY
        have HS := Lib.hid hs
        clear hX hY hs
        have h0 : (0 : Int) ≤ (k : Int) := by omega
        have h1 : (k : Int) < (n1 : Int) := by omega
        rcases Decidable.em (x = y) with he | he
        · have hb : (x != y) = false := by simp [he]
          have HE := Lib.hid he
          clear he
          go_wp2_with fail
          go_quiet (fail)
          go_wp2
          go_roundw
          case rel => exact ⟨k + 1, _, by omega, by go_num, by first | rfl | rw [World.drewN_drewN], HS.out HE.out⟩
          case measure => simp [intOf]; omega
        · have hb : (x != y) = true := by simp [he]
          have HE := Lib.hid he
          clear he
          go_wp2_with fail
          go_quiet (fail)
          go_wp2
          go_ret
          refine ⟨ret_bool ?_, _, by rw [World.drewN_drewN]⟩
          symm; rw [decide_eq_false_iff_not]
          rintro rfl
          exact HE.out (HX.out.symm.trans HY.out)
      · have hkn : k = n1 := by omega
        subst hkn
        go_wp2
        go_ret
        refine ⟨ret_bool ?_, _, rfl⟩
        have := ht.out
        rw [List.take_of_length_le (by rw [← HN1.out]; exact Nat.le_refl _), List.take_of_length_le (by rw [← HN2.out]; exact Nat.le_refl _)] at this
        simp [this]
  · have hd : ((n1 : Int) != (n2 : Int)) = true := by simp; omega
    have HD := Lib.hid hne
    have HN1 := Lib.hid hn1
    have HN2 := Lib.hid hn2
    clear hne hn1 hn2
    go_enter Tryd.func19, Tryd.ntmps19
    go_wp2
    go_ret
    refine ⟨ret_bool ?_, 0, rfl⟩
    symm; rw [decide_eq_false_iff_not]
    intro h
    exact HD.out (by rw [HN1.out, HN2.out, h])
end Go.Proofs.YtamhjgkigjpbhaaDoor
