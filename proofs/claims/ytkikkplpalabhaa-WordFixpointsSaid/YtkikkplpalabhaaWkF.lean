/- The walk of law 27's least. -/
import Derived.Test.YtkikkplpalabhaaWr10
import Derived.Test.YtkikkplpalabhaaWdF
namespace Go.Proofs.Ytkikkplpalabhaa
open Go.RowKit

set_option maxHeartbeats 4000000 in
theorem least_any (Aa Ab A1 A2 : Option Addr) (N n ca n' cb n1 c1 n2 c2 : Nat) (a b : List Bool) (k0 : Nat) (w : World) (B : Nat) (hN : N = n1 + n2) (hn : n = N) (hn' : n' = N) (ha : a.length = N) (hb : b.length = N) (hs : Sl w B 1 Aa n ca (bcells a)) (hs' : Sl w B 1 Ab n' cb (bcells b)) (hB : B ≤ w.heap.size) (hl : n1 + n2 ≤ 60000) (h2 : 0 < n2) (hk : k0 < N) :
    Calls Try.prog 48 #[.slice Aa n ca, .slice Ab n' cb, .agg #[.slice A1 n1 c1, .slice A2 n2 c2], .int .i64 (k0 : Int)] w (Tru w (run n1 N a b (2 * N + 1) k0)) := by
  obtain ⟨hb0, x0, x1⟩ := wbox w A1 A2 n1 c1 n2 c2
  obtain ⟨w0, hw0⟩ : ∃ W, W = w.alloc (.cells #[.slice A1 n1 c1, .slice A2 n2 c2] 34) := ⟨_, rfl⟩
  rw [← hw0] at hb0 x0 x1
  have HW0 := Lib.hid hw0
  have HA := Lib.hid (hs.below hb0 hB)
  have HB := Lib.hid (hs'.below hb0 hB)
  have HAL := Lib.hid ha
  have HBL := Lib.hid hb
  obtain ⟨M, HM⟩ : ∃ M, Hid (M = 2 * N) := ⟨_, Lib.hid rfl⟩
  have hM : M ≤ 120000 := by have := HM.out; omega
  have e1 : IntKind.i64.wrap (2 * (N : Int)) = (M : Int) := by rw [HM.out, IntWalk.i64_in _ (by omega)]; omega
  have hlp : n1 < N := by omega
  subst hn hn'
  rw [← HM.out]
  obtain ⟨rv, HRV⟩ : ∃ r, Hid (r = run n1 n' a b (M + 1) k0) := ⟨_, Lib.hid rfl⟩
  have hNb : n' ≤ 60000 := by omega
  have HNN := Lib.hid hN
  rw [← HRV.out]
  have HE := Lib.hid e1
  clear hw0 hs hs' ha hb hN e1
  go_enter Try.func48, Try.ntmps48
  go_wp2_with fail
  rw [← HW0.out]
  clear HW0
  have e1 := HE.out
  go_wp2
  go_loopw [3, 9] (fun jv iv wr => ∃ d j : Nat, d ≤ M + 1 ∧ j < n' ∧ iv = .int .i64 d ∧ jv = .int .i64 j ∧ wr = w0 ∧ Hid (run n1 n' a b (M + 1 - d) j = rv)) (fun _ iv _ => M + 1 - (intOf iv).toNat)
  case atStart => exact ⟨0, k0, by omega, hk, rfl, rfl, rfl, Lib.hid (by rw [Nat.sub_zero]; exact HRV.out.symm)⟩
  case round =>
    obtain ⟨d, j, hd, hj, rfl, rfl, rfl, hR⟩ := hrel
    have e1 := HE.out
    by_cases hdm : d ≤ M
    · have hdi : (d : Int) ≤ (M : Int) := by omega
      have hr := hR.out
      rw [show M + 1 - d = (M - d) + 1 by omega, run] at hr
      obtain ⟨ba, oa, rfl, _, hca⟩ := HA.out.rd.at_ (bcells_at (l := a) (i := j) (by rw [HAL.out]; exact hj))
      obtain ⟨bb, ob, rfl, _, hcb⟩ := HB.out.rd.at_ (bcells_at (l := b) (i := j) (by rw [HBL.out]; exact hj))
      cases hbv : b.getD j false
      · rw [hbv] at hcb hr
        cases hav : a.getD j false
        · rw [hav] at hca hr
          have HRR : Hid (rv = false) := Lib.hid (by rw [← hr]; rfl)
          clear hr hbv hav
          go_wp2
          go_ret
          exact ⟨ret_bool HRR.out.symm, hb0⟩
        · rw [hav] at hca hr
          have HRR : Hid (run n1 n' a b (M - d) (nx n1 n' j) = rv) := Lib.hid (by rw [← hr]; rfl)
          clear hr hbv hav
          by_cases hjn : j + 1 < n'
          · have hq : (((j : Int) + 1) == (n' : Int)) = false := by simp; omega
            go_wp2
            go_roundw
            case rel => exact ⟨d + 1, j + 1, by omega, hjn, by go_num, by go_num, by trivial, Lib.hid (by rw [← HRR.out, nx, if_pos hjn, show M + 1 - (d + 1) = M - d by omega])⟩
            case measure => simp [intOf]; omega
          · have hjn' : j + 1 = n' := by omega
            have hq : (((j : Int) + 1) == (n' : Int)) = true := by simp; omega
            have hnx : nx n1 n' j = n1 := by rw [nx, if_neg hjn]
            rw [hnx] at HRR
            clear hnx hjn hjn'
            go_wp2
            go_roundw
            case rel => exact ⟨d + 1, n1, by omega, hlp, by go_num, rfl, by trivial, Lib.hid (by rw [← HRR.out, show M + 1 - (d + 1) = M - d by omega])⟩
            case measure => simp [intOf]; omega
      · rw [hbv] at hcb hr
        have HRR : Hid (rv = true) := Lib.hid (by rw [← hr]; rfl)
        clear hr hbv hca
        go_wp2
        go_ret
        exact ⟨ret_bool HRR.out.symm, hb0⟩
    · have hdi : ¬ ((d : Int) ≤ (M : Int)) := by omega
      have hr := hR.out
      rw [show M + 1 - d = 0 by omega, run] at hr
      have HRR := Lib.hid hr
      clear hr
      go_wp2
      go_ret
      exact ⟨ret_bool HRR.out, hb0⟩
end Go.Proofs.Ytkikkplpalabhaa
