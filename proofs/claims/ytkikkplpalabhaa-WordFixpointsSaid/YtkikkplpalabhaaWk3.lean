/- The walks of layer 27: Long, the lasso's next. -/
import Derived.Test.YtkikkplpalabhaaWk2
namespace Go.Proofs.Ytkikkplpalabhaa
open Go.RowKit

theorem partsW_neg {op m : Int} (h : op < 1 ∨ 12 < op) : partsW ⟨op, m⟩ = -1 := by
  unfold partsW
  rw [if_neg (fun hh => by have := hh.1; dsimp only at this; omega)]
  show takes op = -1
  unfold takes; (repeat' split) <;> omega
set_option maxHeartbeats 4000000 in
theorem long_any (A : Option Addr) (c : Nat) (f : List Nd) (w : World) (B : Nat) (hf : Sl w B 2 A f.length c (ncells f)) (hl : f.length ≤ 100000) :
    Calls Try.prog 66 #[.slice A f.length c] w fun e w' => e = .returned (.bool (wrong f == 0)) ∧ w = w' := by
  go_enter Try.func66, Try.ntmps66
  go_wp2
  go_loop [3, 4] (fun n i => ∃ k d : Nat, k ≤ f.length ∧ d ≤ k ∧ i = .int .i64 k ∧ n = .int .i64 d ∧ Hid (scan (f.take k) 0 = (0, d))) (fun _ i => f.length - (intOf i).toNat)
  case atStart => exact ⟨0, 0, by omega, by omega, rfl, rfl, rfl⟩
  case round =>
    obtain ⟨k, d, hk, hdk, rfl, rfl, HS⟩ := hrel
    by_cases hlt : k < f.length
    · obtain ⟨b, o, rfl, _, hc0, hc1⟩ := rd_nd hf.rd hlt
      have hmore := scan_more hlt HS.out
      have hstop := scan_stop hlt HS.out
      generalize hx : f[k] = x at *
      obtain ⟨op, m⟩ := x
      dsimp only at *
      generalize hp : partsW ⟨op, m⟩ = p at *
      have HM := Lib.hid hmore
      have HT := Lib.hid hstop
      have HP := Lib.hid hp
      clear hmore hstop hx hp
      rcases op_cases op with rfl | rfl | rfl | rfl | rfl | rfl | rfl | rfl | rfl | rfl | rfl | rfl | h
      case inr.inr.inl =>
        by_cases h0 : m < 0
        · have d0 : decide (m < 0) = true := by simpa using h0
          have hs : wrong f ≠ 0 := HT.out (.inl (by rw [← HP.out]; simp [partsW]; omega))
          have HW := Lib.hid hs
          clear hs h0
          go_wp2
          go_ret
          exact ⟨ret_bool (by have := HW.out; symm; simpa using this), rfl⟩
        · have d0 : decide (m < 0) = false := by simpa using h0
          by_cases h8 : 8 ≤ m
          · have d8 : decide (8 ≤ m) = true := by simpa using h8
            have hs : wrong f ≠ 0 := HT.out (.inl (by rw [← HP.out]; simp [partsW]; omega))
            have HW := Lib.hid hs
            clear hs h0 h8
            go_wp2
            go_ret
            exact ⟨ret_bool (by have := HW.out; symm; simpa using this), rfl⟩
          · have d8 : decide (8 ≤ m) = false := by simpa using h8
            have hp : p = 0 := by rw [← HP.out]; unfold partsW; rw [if_neg (fun hh => hh.2 ⟨by dsimp only; omega, by dsimp only; omega⟩)]; rfl
            have HM2 := HM.out (by rw [hp]; omega) (by rw [hp]; omega)
            rw [hp] at HM2
            have HM3 := Lib.hid HM2
            clear HM2 hp h0 h8
            have dd : decide ((d : Int) < 0) = false := by simp
            go_wp2
            go_round
            case rel => exact ⟨k + 1, d + 1, by omega, by omega, by go_num, by go_num, HM3⟩
            case measure => simp [intOf]; omega
      case inr.inr.inr.inr.inr.inr.inr.inr.inr.inr.inr.inr =>
        have hs : wrong f ≠ 0 := HT.out (.inl (by rw [← HP.out, partsW_neg h]; omega))
        have HW := Lib.hid hs
        clear hs
        rcases h with h | h
        · have d1 : decide (op < 1) = true := by simpa using h
          clear h
          go_wp2
          go_ret
          exact ⟨ret_bool (by have := HW.out; symm; simpa using this), rfl⟩
        · have d1 : decide (op < 1) = false := by simp; omega
          have d2 : decide (12 < op) = true := by simpa using h
          clear h
          go_wp2
          go_ret
          exact ⟨ret_bool (by have := HW.out; symm; simpa using this), rfl⟩
      -- no part
      case inl =>
        have HM3 := Lib.hid (show scan (f.take (k + 1)) 0 = (0, d + 1) from by
          have hp0 : p = 0 := by rw [← HP.out]; simp [partsW, takes]
          have := HM.out (by omega) (by omega)
          rw [hp0] at this; exact this)
        have dd : decide ((d : Int) < 0) = false := by simp
        go_wp2
        go_round
        case rel => exact ⟨k + 1, d + 1, by omega, by omega, by go_num, by go_num, HM3⟩
        case measure => simp [intOf]; omega
      case inr.inl =>
        have HM3 := Lib.hid (show scan (f.take (k + 1)) 0 = (0, d + 1) from by
          have hp0 : p = 0 := by rw [← HP.out]; simp [partsW, takes]
          have := HM.out (by omega) (by omega)
          rw [hp0] at this; exact this)
        have dd : decide ((d : Int) < 0) = false := by simp
        go_wp2
        go_round
        case rel => exact ⟨k + 1, d + 1, by omega, by omega, by go_num, by go_num, HM3⟩
        case measure => simp [intOf]; omega
      all_goals first
        | (have hp1 : p = 1 := by rw [← HP.out]; simp [partsW, takes]; done
           by_cases hd : (d : Int) < 1
           · have hs := Lib.hid (HT.out (.inr (by rw [hp1]; exact hd)))
             clear hp1
             go_wp2
             go_ret
             exact ⟨ret_bool (by have := hs.out; symm; simpa using this), rfl⟩
           · have dd : decide ((d : Int) < 1) = false := by simpa using hd
             have HM2 := HM.out (by rw [hp1]; omega) (by rw [hp1]; omega)
             rw [hp1] at HM2
             have HM3 := Lib.hid HM2
             clear HM2 hp1
             go_wp2
             go_round
             case rel => exact ⟨k + 1, d - 1 + 1, by omega, by omega, by go_num, by congr 1; omega, HM3⟩
             case measure => simp [intOf]; omega)
        | (have hp1 : p = 2 := by rw [← HP.out]; simp [partsW, takes]; done
           by_cases hd : (d : Int) < 2
           · have hs := Lib.hid (HT.out (.inr (by rw [hp1]; exact hd)))
             clear hp1
             go_wp2
             go_ret
             exact ⟨ret_bool (by have := hs.out; symm; simpa using this), rfl⟩
           · have dd : decide ((d : Int) < 2) = false := by simpa using hd
             have HM2 := HM.out (by rw [hp1]; omega) (by rw [hp1]; omega)
             rw [hp1] at HM2
             have HM3 := Lib.hid HM2
             clear HM2 hp1
             go_wp2
             go_round
             case rel => exact ⟨k + 1, d - 2 + 1, by omega, by omega, by go_num, by congr 1; omega, HM3⟩
             case measure => simp [intOf]; omega)
    · have hkl : k = f.length := by omega
      subst hkl
      have hs := HS.out
      rw [List.take_of_length_le (Nat.le_refl _)] at hs
      have HL := Lib.hid (scan_last hs)
      clear hs
      go_wp2
      go_ret
      exact ⟨ret_bool HL.out.symm, rfl⟩
set_option maxHeartbeats 400000 in
theorem pnext_any (A1 A2 : Option Addr) (n1 c1 n2 c2 : Nat) (k : Nat) (w : World) (hl : n1 + n2 ≤ 60000) (hk : k < n1 + n2) :
    Calls Try.prog 98 #[lassoV A1 A2 n1 c1 n2 c2, .int .i64 (k : Int)] w (Num w ((nx n1 (n1 + n2) k : Nat) : Int)) := by
  unfold lassoV
  by_cases h : k + 1 < n1 + n2
  · have e : nx n1 (n1 + n2) k = k + 1 := by rw [nx, if_pos h]
    rw [e]
    clear e
    have d : ((k : Int) + 1) < ((n1 + n2 : Nat) : Int) := by omega
    go_enter Try.func98, Try.ntmps98
    go_wp2
    go_ret
    exact ⟨ret_int (by omega), (Below.refl _ _).alloc (Nat.le_refl _) _⟩
  · have e : nx n1 (n1 + n2) k = n1 := by rw [nx, if_neg h]
    rw [e]
    clear e
    have d : ¬ ((k : Int) + 1) < ((n1 + n2 : Nat) : Int) := by omega
    go_enter Try.func98, Try.ntmps98
    go_wp2
    go_ret
    exact ⟨rfl, (Below.refl _ _).alloc (Nat.le_refl _) _⟩
end Go.Proofs.Ytkikkplpalabhaa
