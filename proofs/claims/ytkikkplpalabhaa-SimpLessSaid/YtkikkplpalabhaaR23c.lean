/- The walks of the reference of layer 23: Props, Untils, Next. -/
import Derived.Test.YtkikkplpalabhaaR23a
import Derived.Test.YtkikkplpalabhaaMd
namespace Go.Proofs.Ytkikkplpalabhaa
open Go.RowKit

set_option maxHeartbeats 1000000 in
theorem PropsR_any (A : Option Addr) (c : Nat) (f : List Nd) (w : World) (B : Nat) (hf : Sl w B 2 A f.length c (ncells f)) (hl : f.length ≤ 1000000000) :
    Calls Try.prog 25 #[.slice A f.length c] w fun e w' => e = .returned (.int .u64 (props f : Nat)) ∧ w = w' := by
  by_cases hw : wrong f = 0
  · have hw' : (wrong f == 0) = true := by simp [hw]
    have HW := Lib.hid hw
    clear hw
    go_enter Try.func25, Try.ntmps25
    go_wp2_with (first | (go_at_call 62; refine (IsR23_any A c f w B hf hl).mono ?_; rintro e w' ⟨rfl, rfl⟩))
    go_loop [3, 4] (fun u i => ∃ k n : Nat, k ≤ f.length ∧ i = .int .i64 k ∧ u = .int .u64 n ∧ n < 256 ∧ Hid (n = propsF (f.take k))) (fun _ i => f.length - (intOf i).toNat)
    case atStart => exact ⟨0, 0, by omega, rfl, rfl, by omega, by simp [Hid, propsF]⟩
    case round =>
      obtain ⟨k, u, hk, rfl, rfl, hu, HU⟩ := hrel
      by_cases hlt : k < f.length
      · obtain ⟨b, o, rfl, _, hc0, hc1⟩ := rd_nd hf.rd hlt
        have hg := good_takes (good_at HW.out hlt).2
        have hsn := propsF_snoc hlt
        rw [← HU.out] at hsn
        have HS := Lib.hid hsn
        clear hsn
        generalize hx : f[k] = x at *
        obtain ⟨op, n⟩ := x
        dsimp only at *
        obtain ⟨_, _, hg⟩ := hg
        have Hx := Lib.hid hx
        clear hx
        by_cases h3 : op = 3
        · subst h3
          obtain ⟨hn1, hn2⟩ := hg rfl
          clear hg
          obtain ⟨e1, e2⟩ := or_step hu hn1 hn2
          have HE := Lib.hid e1
          clear e1
          go_wp2
          go_round
          case rel => exact ⟨k + 1, _, by omega, by go_num, by rw [HE.out], e2, by show _ = _; rw [HS.out, if_pos rfl]⟩
          case measure => simp [intOf]; omega
        · clear hg
          go_wp2
          go_round
          case rel => exact ⟨k + 1, u, by omega, by go_num, rfl, hu, by show _ = _; rw [HS.out, if_neg h3]⟩
          case measure => simp [intOf]; omega
      · have hkl : k = f.length := by omega
        subst hkl
        rw [List.take_of_length_le (Nat.le_refl _)] at HU
        go_wp2
        go_ret
        exact ⟨ret_int (by rw [props, if_pos HW.out, HU.out]), rfl⟩
  · have hw' : (wrong f == 0) = false := by simpa using hw
    have HW := Lib.hid hw
    clear hw
    go_enter Try.func25, Try.ntmps25
    go_wp2_with (first | (go_at_call 62; refine (IsR23_any A c f w B hf hl).mono ?_; rintro e w' ⟨rfl, rfl⟩))
    go_ret
    exact ⟨ret_int (by rw [props, if_neg HW.out]; rfl), rfl⟩

set_option maxHeartbeats 1000000 in
theorem NextR_any (A : Option Addr) (c : Nat) (f : List Nd) (w : World) (B : Nat) (hf : Sl w B 2 A f.length c (ncells f)) (hl : f.length ≤ 1000000000) :
    Calls Try.prog 26 #[.slice A f.length c] w fun e w' => e = .returned (.bool (nextF f)) ∧ w = w' := by
  go_enter Try.func26, Try.ntmps26
  go_wp2
  go_loop [3] (fun i => ∃ k : Nat, k ≤ f.length ∧ i = .int .i64 k ∧ Hid ((f.take k).any (fun x => x.op == 8) = false)) (fun i => f.length - (intOf i).toNat)
  case atStart => exact ⟨0, by omega, rfl, rfl⟩
  case round =>
    obtain ⟨k, hk, rfl, HA⟩ := hrel
    by_cases hlt : k < f.length
    · obtain ⟨b, o, rfl, _, hc0, hc1⟩ := rd_nd hf.rd hlt
      have hsn := any_take_snoc hlt (fun x => x.op == 8)
      rw [HA.out, Bool.false_or] at hsn
      have hany : f[k].op = 8 → hasNext f = true := fun h => List.any_eq_true.2 ⟨f[k], List.getElem_mem hlt, by simp [h]⟩
      have HS := Lib.hid hsn
      have HY := Lib.hid hany
      clear hsn hany
      generalize hx : f[k] = x at *
      obtain ⟨op, n⟩ := x
      dsimp only at *
      have Hx := Lib.hid hx
      clear hx
      by_cases h8 : op = 8
      · subst h8
        go_wp2_with (first | (go_at_call 62; refine (IsR23_any _ c f w B hf hl).mono ?_; rintro e w' ⟨rfl, rfl⟩))
        go_ret
        exact ⟨ret_bool (by rw [nextF, HY.out trivial, Bool.and_true]), rfl⟩
      · go_wp2
        go_round
        case rel => exact ⟨k + 1, by omega, by go_num, by show _ = _; rw [HS.out]; simpa using h8⟩
        case measure => simp [intOf]; omega
    · have hkl : k = f.length := by omega
      subst hkl
      rw [List.take_of_length_le (Nat.le_refl _)] at HA
      go_wp2
      go_ret
      exact ⟨ret_bool (by rw [nextF, hasNext, HA.out, Bool.and_false]), rfl⟩
end Go.Proofs.Ytkikkplpalabhaa
