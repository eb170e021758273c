/- The walks of the reference of layer 23: takes, wrong, Is, Check. -/
import Derived.Test.YtamhjgkigjpbhaaDoorProg
import Derived.Test.YtamhjgkigjpbhaaDoorMa
import Derived.Outline
namespace Go.Proofs.YtamhjgkigjpbhaaDoor
open Go.RowKit

set_option maxHeartbeats 400000 in
theorem takes_ref (a : Int) (w : World) :
    Calls Tryd.prog 71 #[.int .i64 a] w fun e w' => e = .returned (.int .i64 (takes a)) ∧ w = w' := by
  go_enter Tryd.func71, Tryd.ntmps71
  go_wp2
  all_goals (go_ret; exact ⟨by simp_all [takes], rfl⟩)

set_option maxHeartbeats 1000000 in
theorem wrong_any (A : Option Addr) (c : Nat) (f : List Nd) (w : World) (B : Nat) (hs : Sl w B 2 A f.length c (ncells f)) (hl : f.length ≤ 1000000000) :
    Calls Tryd.prog 49 #[.slice A f.length c] w fun e w' => e = .returned (.int .i64 (wrong f)) ∧ w = w' := by
  have hf := hs.rd
  clear hs
  by_cases h0 : f.length = 0
  · have h0' : ((f.length : Int) == 0) = true := by simp [h0]
    go_enter Tryd.func49, Tryd.ntmps49
    go_wp2
    go_ret
    have : f = [] := List.eq_nil_of_length_eq_zero h0
    exact ⟨by rw [this]; rfl, rfl⟩
  · have h0' : ((f.length : Int) == 0) = false := by simp; rintro rfl; simp at h0
    go_enter Tryd.func49, Tryd.ntmps49
    go_wp2
    go_loop [3, 4, 5] (fun n i _ => ∃ k d : Nat, k ≤ f.length ∧ i = .int .i64 k ∧ n = .int .i64 d ∧ d ≤ k ∧ scan (f.take k) 0 = (0, d)) (fun _ i _ => f.length - (intOf i).toNat)
    case atStart => exact ⟨0, 0, by omega, rfl, rfl, by omega, rfl⟩
    case round =>
      obtain ⟨k, d, hk, rfl, rfl, hd, hs⟩ := hrel
      have HS := Lib.hid hs
      clear hs
      by_cases hlt : k < f.length
      · obtain ⟨b, off, rfl, _, hc0, hc1⟩ := rd_nd hf hlt
        have HT := takes_bd f[k].op
        have HB := fun h => (scan_bad hlt HS.out h).1
        have HO := fun h => scan_ok hlt HS.out h
        have hB := Lib.hid HB
        have hO := Lib.hid HO
        clear HB HO
        generalize hx : f[k] = x at *
        have Hx := Lib.hid hx
        clear hx
        obtain ⟨op, n⟩ := x
        dsimp only at *
        by_cases h3 : op = 3
        · subst h3
          rw [takes3] at HT
          go_wp2_with (first | (go_at_call 71; refine (takes_ref _ _).mono ?_; rw [takes3]; rintro e w' ⟨rfl, rfl⟩))
          all_goals first
            | (have e : bad ⟨3, n⟩ d = 10 := bad_range (by simp [takes3]) (by simp [takes3]) rfl (by dsimp only; omega)
               go_ret; exact ⟨ret_int (by rw [hB.out (by rw [e]; omega), e]), rfl⟩)
            | (go_round
               case rel => exact ⟨k + 1, d + 1, by omega, by go_num, by go_num, by omega, by rw [hO.out (bad_none (by simp [takes3]) (by simp [takes3]) (.inr (by dsimp only; omega)))]; simp [takes3]⟩
               case measure => simp [intOf]; omega)
        · go_wp2_with (first | (go_at_call 71; refine (takes_ref _ _).mono ?_; rintro e w' ⟨rfl, rfl⟩))
          all_goals first
            | (have hh : takes op < 0 := by assumption
               have e : bad ⟨op, n⟩ d = 3 := bad_form hh
               go_ret; exact ⟨ret_int (by rw [hB.out (by rw [e]; omega), e]), rfl⟩)
            | (have hh : (d : Int) < takes op := by assumption
               have e : bad ⟨op, n⟩ d = 4 := bad_short (by dsimp only; omega) hh
               go_ret; exact ⟨ret_int (by rw [hB.out (by rw [e]; omega), e]), rfl⟩)
            | (go_round
               case rel => exact ⟨k + 1, d - (takes op).toNat + 1, by omega, by go_num, by go_num, by omega, by rw [hO.out (bad_none (by dsimp only; omega) (by dsimp only; omega) (.inl h3))]⟩
               case measure => simp [intOf]; omega)
      · have hkl : k = f.length := by omega
        have HE := fun hne => wrong_end (f := f) (d := d) hne (by rw [hkl, List.take_of_length_le (Nat.le_refl _)] at HS; exact HS.out)
        have HW : wrong f = if 1 < d then 5 else 0 := HE (by rintro rfl; simp at h0)
        have hW := Lib.hid HW
        clear HE HW hkl
        by_cases hd1 : 1 < d
        · go_wp2
          go_ret
          exact ⟨ret_int (by rw [hW.out, if_pos hd1]), rfl⟩
        · go_wp2
          go_ret
          exact ⟨ret_int (by rw [hW.out, if_neg hd1]), rfl⟩

set_option maxHeartbeats 400000 in
theorem IsR23_any (A : Option Addr) (c : Nat) (f : List Nd) (w : World) (B : Nat) (hf : Sl w B 2 A f.length c (ncells f)) (hl : f.length ≤ 1000000000) :
    Calls Tryd.prog 32 #[.slice A f.length c] w fun e w' => e = .returned (.bool (wrong f == 0)) ∧ w = w' := by
  go_enter Tryd.func32, Tryd.ntmps32
  go_wp2_with (go_at_call 49; refine (wrong_any A c f w B hf hl).mono ?_; rintro e w' ⟨rfl, rfl⟩)
  go_ret
  exact ⟨rfl, rfl⟩
end Go.Proofs.YtamhjgkigjpbhaaDoor
