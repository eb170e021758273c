/- The walks of law 27: sets, same, heavy. -/
import Derived.Test.YtkikkplpalabhaaWk13
import Derived.Test.YtkikkplpalabhaaWk14
namespace Go.Proofs.Ytkikkplpalabhaa
open Go.RowKit

set_option maxHeartbeats 1000000 in
theorem setsU_any (A1 A2 : Option Addr) (n1 c1 n2 c2 : Nat) (xs ys : List Int) (w : World) (B1 B2 : Nat) (hx : Sl w B1 1 A1 n1 c1 (xs.map (.int .u64))) (hy : Sl w B2 1 A2 n2 c2 (ys.map (.int .u64)))
    (hn1 : n1 = xs.length) (hn2 : n2 = ys.length) (hl : n1 ≤ 100000000000000) :
    Calls Try.prog 73 #[.slice A1 n1 c1, .slice A2 n2 c2] w (Said w (decide (xs = ys))) := by
  by_cases hne : n1 = n2
  · subst hne
    have HN1 := Lib.hid hn1
    have HN2 := Lib.hid hn2
    clear hn1 hn2
    have hd : ((n1 : Int) != (n1 : Int)) = false := by simp
    go_enter Try.func73, Try.ntmps73
    go_wp2
    go_loopw [5] (fun i wr => ∃ k m : Nat, k ≤ n1 ∧ i = .int .i64 k ∧ wr = w.drewN m ∧ Hid (xs.take k = ys.take k)) (fun i _ => n1 - (intOf i).toNat)
    case atStart => exact ⟨0, 0, by omega, rfl, rfl, rfl⟩
    case round =>
      obtain ⟨k, m, hk, rfl, rfl, ht⟩ := hrel
      by_cases hlt : k < n1
      · have hkx : k < xs.length := by rw [← HN1.out]; exact hlt
        have hky : k < ys.length := by rw [← HN2.out]; exact hlt
        obtain ⟨b, o, rfl, _, hc⟩ := hx.rd.at_ (j := k) (u := .int .u64 xs[k]) (by simp [hkx])
        obtain ⟨b', o', rfl, _, hc'⟩ := hy.rd.at_ (j := k) (u := .int .u64 ys[k]) (by simp [hky])
        have hs := fun h => take_eq_snoc ht.out hkx hky h
        generalize hX : xs[k] = x at *
        generalize hY : ys[k] = y at *
        have HX := Lib.hid hX
        have HY := Lib.hid hY
        have HS := Lib.hid hs
        clear hX hY hs
        have h0 : (0 : Int) ≤ (k : Int) := by omega
        have h1 : (k : Int) < (n1 : Int) := by omega
        rcases Decidable.em (x = y) with he | he
        · have hb : (x != y) = false := by simp [he]
          have HE := Lib.hid he
          clear he
          go_wp2_with fail
          go_quiet (fail)
          go_wp2
          go_roundw
          case rel => exact ⟨k + 1, _, by omega, by go_num, by first | rfl | rw [World.drewN_drewN], HS.out HE.out⟩
          case measure => simp [intOf]; omega
        · have hb : (x != y) = true := by simp [he]
          have HE := Lib.hid he
          clear he
          go_wp2_with fail
          go_quiet (fail)
          go_wp2
          go_ret
          refine ⟨ret_bool ?_, _, by rw [World.drewN_drewN]⟩
          symm; rw [decide_eq_false_iff_not]
          rintro rfl
          exact HE.out (HX.out.symm.trans HY.out)
      · have hkn : k = n1 := by omega
        subst hkn
        go_wp2
        go_ret
        refine ⟨ret_bool ?_, _, rfl⟩
        have := ht.out
        rw [List.take_of_length_le (by rw [← HN1.out]; exact Nat.le_refl _), List.take_of_length_le (by rw [← HN2.out]; exact Nat.le_refl _)] at this
        simp [this]
  · have hd : ((n1 : Int) != (n2 : Int)) = true := by simp; omega
    have HD := Lib.hid hne
    have HN1 := Lib.hid hn1
    have HN2 := Lib.hid hn2
    clear hne hn1 hn2
    go_enter Try.func73, Try.ntmps73
    go_wp2
    go_ret
    refine ⟨ret_bool ?_, 0, rfl⟩
    symm; rw [decide_eq_false_iff_not]
    intro h
    exact HD.out (by rw [HN1.out, HN2.out, h])

set_option maxHeartbeats 2000000 in
theorem sameU_any (A1 A2 D1 D2 : Option Addr) (n1 c1 n2 c2 m1 d1 m2 d2 : Nat) (st lo st' lo' : List Int) (w : World) (B B' : Nat) (h : WRd w B A1 A2 n1 c1 n2 c2 st lo) (h' : WRd w B' D1 D2 m1 d1 m2 d2 st' lo') (hB : B ≤ w.heap.size) (hB' : B' ≤ w.heap.size) (hl : n1 ≤ 100000000000000) (hl2 : n2 ≤ 100000000000000) :
    Calls Try.prog 41 #[.agg #[.slice A1 n1 c1, .slice A2 n2 c2], .agg #[.slice D1 m1 d1, .slice D2 m2 d2]] w (Tru w (decide ((st, lo) = (st', lo')))) := by
  obtain ⟨hb0, hx0, hx1, hxz⟩ := box2 w (.cells #[.slice A1 n1 c1, .slice A2 n2 c2] 34) (.cells #[.slice D1 m1 d1, .slice D2 m2 d2] 34)
  have HX0 := Lib.hid hx0
  have HX1 := Lib.hid hx1
  have HS1 := Lib.hid (setsU_any A1 D1 n1 c1 m1 d1 st st' _ _ _ (h.s1.below hb0 hB) (h'.s1.below hb0 hB') h.l1 h'.l1 hl)
  have HS2 := Lib.hid (fun nd : Nat => setsU_any A2 D2 n2 c2 m2 d2 lo lo' _ _ _ (h.s2.below (below_drewN hb0 nd) hB) (h'.s2.below (below_drewN hb0 nd) hB') h.l2 h'.l2 hl2)
  have HB := Lib.hid hb0
  have hd : decide ((st, lo) = (st', lo')) = (decide (st = st') && decide (lo = lo')) := by rw [← Bool.decide_and]; simp only [Prod.mk.injEq]
  rw [hd]
  generalize decide (st = st') = x1 at *
  generalize decide (lo = lo') = x2 at *
  clear hx0 hx1 hb0 hd h h' hxz
  go_enter Try.func41, Try.ntmps41
  go_wp2_with fail
  refine Calls.mono HS1.out ?_
  rintro e _ ⟨rfl, nd, rfl⟩
  obtain ⟨⟨p0, p1⟩, -⟩ := blk2 HX0.out
  obtain ⟨⟨q0, q1⟩, -⟩ := blk2 HX1.out
  cases x1
  · go_wp2
    go_ret
    exact ⟨rfl, below_drewN HB.out nd⟩
  · go_wp2_with fail
    refine Calls.mono (HS2.out nd) ?_
    rintro e _ ⟨rfl, nd2, rfl⟩
    go_wp2
    go_ret
    exact ⟨by cases x2 <;> rfl, below_drewN HB.out _⟩
theorem heavyW_any (A A1 A2 : Option Addr) (n c n1 c1 n2 c2 : Nat) (w : World) (hc : n ≤ 9223372036854775807) (h1 : n1 ≤ 9223372036854775807) (h2 : n2 ≤ 9223372036854775807) :
    Calls Try.prog 28 #[.slice A n c, .agg #[.slice A1 n1 c1, .slice A2 n2 c2]] w (Tru w (decide (60 < n) || decide (30 < n1) || decide (30 < n2))) := by
  have hb := (wbox w A1 A2 n1 c1 n2 c2).1
  by_cases d1 : 60 < n
  · have e1 : decide ((60 : Int) < (n : Int)) = true := by simp; omega
    go_enter Try.func28, Try.ntmps28
    go_wp2
    go_ret
    exact ⟨by simp [d1], hb⟩
  by_cases d2 : 30 < n1
  · have e1 : decide ((60 : Int) < (n : Int)) = false := by simp; omega
    have e2 : decide ((30 : Int) < (n1 : Int)) = true := by simp; omega
    go_enter Try.func28, Try.ntmps28
    go_wp2
    go_ret
    exact ⟨by simp [d1, d2], hb⟩
  · have e1 : decide ((60 : Int) < (n : Int)) = false := by simp; omega
    have e2 : decide ((30 : Int) < (n1 : Int)) = false := by simp; omega
    go_enter Try.func28, Try.ntmps28
    go_wp2
    go_ret
    exact ⟨by simp [d1, d2]; omega, hb⟩
end Go.Proofs.Ytkikkplpalabhaa
