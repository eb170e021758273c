/- The walk of layer 23: Props. -/
import Derived.Test.YtpjhligbflmeoaaLtl4
namespace Go.Proofs.Ytpjhligbflmeoaa
open Go.RowKit

set_option maxHeartbeats 1000000 in
theorem Props_any (A : Option Addr) (c : Nat) (f : List Nd) (w : World) (B : Nat) (hf : Sl w B 2 A f.length c (ncells f)) (hB : B ≤ w.heap.size) (hl : f.length ≤ 1000000000) :
    Calls Try.prog 26 #[.slice A f.length c] w (NumU w (props f : Nat)) := by
  go_enter Try.func26, Try.ntmps26
  go_wp2_with fail
  refine (Spans_any A c f w B hf hB hl).mono ?_
  rintro e w1 ⟨v, rfl, hown, hb, _⟩
  obtain ⟨A1, c1, rfl, hsl1⟩ := own_sl hown
  clear hown hsl1
  by_cases hw : wrong f = 0
  · have HW := Lib.hid hw
    rw [spans_len hw]
    clear hw
    go_wp2
    go_loop [3, 8] (fun u i => ∃ k n : Nat, k ≤ f.length ∧ i = .int .i64 k ∧ u = .int .u64 n ∧ n < 256 ∧ Hid (n = propsF (f.take k))) (fun _ i => f.length - (intOf i).toNat)
    case atStart => exact ⟨0, 0, by omega, rfl, rfl, by omega, by simp [Hid, propsF]⟩
    case round =>
      obtain ⟨k, u, hk, rfl, rfl, hu, HU⟩ := hrel
      by_cases hlt : k < f.length
      · obtain ⟨b, o, rfl, _, hc0, hc1⟩ := rd_nd (hf.rd.below hb hB) hlt
        have hg := good_takes (good_at HW.out hlt).2
        have hsn := propsF_snoc hlt
        rw [← HU.out] at hsn
        have HS := Lib.hid hsn
        clear hsn
        generalize hx : f[k] = x at *
        obtain ⟨op, n⟩ := x
        dsimp only at *
        obtain ⟨_, _, hg⟩ := hg
        have Hx := Lib.hid hx
        clear hx
        by_cases h3 : op = 3
        · subst h3
          obtain ⟨hn1, hn2⟩ := hg rfl
          clear hg
          obtain ⟨e1, e2⟩ := or_step hu hn1 hn2
          have HE := Lib.hid e1
          clear e1
          go_wp2
          go_round
          case rel => exact ⟨k + 1, _, by omega, by go_num, by rw [HE.out], e2, by show _ = _; rw [HS.out, if_pos rfl]⟩
          case measure => simp [intOf]; omega
        · clear hg
          go_wp2
          go_round
          case rel => exact ⟨k + 1, u, by omega, by go_num, rfl, hu, by show _ = _; rw [HS.out, if_neg h3]⟩
          case measure => simp [intOf]; omega
      · have hkl : k = f.length := by omega
        subst hkl
        rw [List.take_of_length_le (Nat.le_refl _)] at HU
        go_wp2
        go_ret
        exact ⟨ret_int (by rw [props, if_pos HW.out, HU.out]), hb⟩
  · have hs : (spans f).length = 0 := by rw [(spans_nil_iff f).2 hw]; rfl
    rw [hs]
    have HW := Lib.hid hw
    clear hs hw
    go_wp2
    refine wp_loop_rounds 1 ?_
    rw [rounds_succ]
    go_wp2
    go_ret
    exact ⟨ret_int (by rw [props, if_neg HW.out]; rfl), hb⟩
end Go.Proofs.Ytpjhligbflmeoaa
