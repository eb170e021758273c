/- The walks of layer 23's Props and Untils, and of the reference's. -/
import Derived.Test.YtpjhligbflmeoaaLtlE
namespace Go.Proofs.Ytpjhligbflmeoaa
open Go.RowKit

set_option maxHeartbeats 1000000 in
theorem KidsR_any (A : Option Addr) (c : Nat) (f : List Nd) (at_ : Int) (w : World) (B : Nat) (hf : Sl w B 2 A f.length c (ncells f)) (hB : B ≤ w.heap.size) (hl : f.length ≤ 1000000000) (hat : -9223372036854775808 ≤ at_ ∧ at_ ≤ 9223372036854775807) :
    Calls Try.prog 13 #[.slice A f.length c, .int .i64 at_] w (Num2 w (kids f at_)) := by
  obtain ⟨hat1, hat2⟩ := hat
  by_cases hw : wrong f = 0
  · have hw' : (wrong f == 0) = true := by simp [hw]
    by_cases hin : 0 ≤ at_ ∧ at_ < f.length
    · obtain ⟨h0, h1⟩ := hin
      obtain ⟨k, rfl⟩ := Int.eq_ofNat_of_zero_le h0
      have hk : k < f.length := by omega
      have hsl := spans_len hw
      have hg := good_takes (good_at hw hk).2
      have hd := runs1_le (f.take k)
      rw [List.length_take, Nat.min_eq_left (by omega)] at hd
      have hkids := kids_at hw hk
      obtain ⟨b, o, rfl, _, hc0, hc1⟩ := rd_nd hf.rd hk
      have hT := takes_012 hg.1
      have hT2 := hg.2.1
      generalize hx : f[k] = x at *
      obtain ⟨op, n⟩ := x
      dsimp only at *
      have hpos := runs_pos f
      have hsr : spans f = (runs f).2 := by simp [spans, hw]
      rw [← hsr] at hpos
      have HX := Lib.hid hx
      have HK := Lib.hid hkids
      have HP := Lib.hid hpos
      have HL := Lib.hid hsl
      clear hx hkids hpos hsl hg hsr hw
      rcases hT with hT | hT | hT
      · have HT := Lib.hid hT
        clear hT
        go_enter Try.func13, Try.ntmps13
        go_wp2_with (first | (go_at_call 17; refine (Is_any _ c f w B hf hl).mono ?_; rintro e w' ⟨rfl, rfl⟩) | (go_at_call 38; refine (takes_ref _ _).mono ?_; rw [HT.out]; rintro e w' ⟨rfl, rfl⟩))
        go_ret2
        exact num2_of (by rw [HK.out, HT.out]; rfl) (Below.refl _ _)
      · have HT := Lib.hid hT
        clear hT
        go_enter Try.func13, Try.ntmps13
        go_wp2_with (first | (go_at_call 17; refine (Is_any _ c f w B hf hl).mono ?_; rintro e w' ⟨rfl, rfl⟩) | (go_at_call 38; refine (takes_ref _ _).mono ?_; rw [HT.out]; rintro e w' ⟨rfl, rfl⟩))
        go_ret2
        exact num2_of (by rw [HK.out, HT.out]; rfl) (Below.refl _ _)
      · have hk2 : 2 ≤ k := by omega
        have hk1 : k - 1 < (spans f).length := by rw [HL.out]; omega
        have hbd := HP.out _ (List.getElem_mem hk1)
        have he : (spans f)[k - 1]?.getD 0 = (spans f)[k - 1] := by simp [hk1]
        have hcs := fun (w1 : World) (A1 : Option Addr) (c1 : Nat) (h : Sl w1 w1.heap.size 1 A1 (spans f).length c1 (icells (spans f))) => rd_int (k := k - 1) h.rd hk1
        have HT := Lib.hid hT
        have HE := Lib.hid he
        clear hT he
        generalize hs : (spans f)[k - 1] = s at *
        have HS := Lib.hid hs
        have HC := Lib.hid hcs
        clear hs hcs
        go_enter Try.func13, Try.ntmps13
        go_wp2_with (first | (go_at_call 17; refine (Is_any _ c f w B hf hl).mono ?_; rintro e w' ⟨rfl, rfl⟩) | (go_at_call 38; refine (takes_ref _ _).mono ?_; rw [HT.out]; rintro e w' ⟨rfl, rfl⟩))
        refine (SpansR_any _ c f w B hf hB hl).mono ?_
        rintro e w1 ⟨v, rfl, hown, hb, _⟩
        obtain ⟨A1, c1, rfl, hsl1⟩ := own_sl hown
        obtain ⟨b1, o1, rfl, _, hcs⟩ := HC.out _ _ _ hsl1
        rw [HL.out] at hown hsl1 ⊢
        go_wp2
        go_ret2
        exact num2_of (by rw [HK.out, HT.out, HE.out]; rfl) hb
    · have hko := kids_out (f := f) (at_ := at_) (fun h => hin h.2)
      have HK := Lib.hid hko
      have hcase : at_ < 0 ∨ 0 ≤ at_ ∧ (f.length : Int) ≤ at_ := by omega
      clear hko hw hin
      rcases hcase with h | ⟨h, h'⟩
      all_goals
        go_enter Try.func13, Try.ntmps13
        go_wp2_with (first | (go_at_call 17; refine (Is_any _ c f w B hf hl).mono ?_; rintro e w' ⟨rfl, rfl⟩))
        go_ret2
        exact num2_of HK.out (Below.refl _ _)
  · have hw' : (wrong f == 0) = false := by simpa using hw
    have hko := kids_out (f := f) (at_ := at_) (fun h => hw h.1)
    have HK := Lib.hid hko
    clear hko hw
    go_enter Try.func13, Try.ntmps13
    go_wp2_with (first | (go_at_call 17; refine (Is_any _ c f w B hf hl).mono ?_; rintro e w' ⟨rfl, rfl⟩))
    go_ret2
    exact num2_of HK.out (Below.refl _ _)


set_option maxHeartbeats 1000000 in
theorem PropsR_any (A : Option Addr) (c : Nat) (f : List Nd) (w : World) (B : Nat) (hf : Sl w B 2 A f.length c (ncells f)) (hl : f.length ≤ 1000000000) :
    Calls Try.prog 27 #[.slice A f.length c] w fun e w' => e = .returned (.int .u64 (props f : Nat)) ∧ w = w' := by
  by_cases hw : wrong f = 0
  · have hw' : (wrong f == 0) = true := by simp [hw]
    have HW := Lib.hid hw
    clear hw
    go_enter Try.func27, Try.ntmps27
    go_wp2_with (first | (go_at_call 17; refine (Is_any A c f w B hf hl).mono ?_; rintro e w' ⟨rfl, rfl⟩))
    go_loop [3, 4] (fun u i => ∃ k n : Nat, k ≤ f.length ∧ i = .int .i64 k ∧ u = .int .u64 n ∧ n < 256 ∧ Hid (n = propsF (f.take k))) (fun _ i => f.length - (intOf i).toNat)
    case atStart => exact ⟨0, 0, by omega, rfl, rfl, by omega, by simp [Hid, propsF]⟩
    case round =>
      obtain ⟨k, u, hk, rfl, rfl, hu, HU⟩ := hrel
      by_cases hlt : k < f.length
      · obtain ⟨b, o, rfl, _, hc0, hc1⟩ := rd_nd hf.rd hlt
        have hg := good_takes (good_at HW.out hlt).2
        have hsn := propsF_snoc hlt
        rw [← HU.out] at hsn
        have HS := Lib.hid hsn
        clear hsn
        generalize hx : f[k] = x at *
        obtain ⟨op, n⟩ := x
        dsimp only at *
        obtain ⟨_, _, hg⟩ := hg
        have Hx := Lib.hid hx
        clear hx
        by_cases h3 : op = 3
        · subst h3
          obtain ⟨hn1, hn2⟩ := hg rfl
          clear hg
          obtain ⟨e1, e2⟩ := or_step hu hn1 hn2
          have HE := Lib.hid e1
          clear e1
          go_wp2
          go_round
          case rel => exact ⟨k + 1, _, by omega, by go_num, by rw [HE.out], e2, by show _ = _; rw [HS.out, if_pos rfl]⟩
          case measure => simp [intOf]; omega
        · clear hg
          go_wp2
          go_round
          case rel => exact ⟨k + 1, u, by omega, by go_num, rfl, hu, by show _ = _; rw [HS.out, if_neg h3]⟩
          case measure => simp [intOf]; omega
      · have hkl : k = f.length := by omega
        subst hkl
        rw [List.take_of_length_le (Nat.le_refl _)] at HU
        go_wp2
        go_ret
        exact ⟨ret_int (by rw [props, if_pos HW.out, HU.out]), rfl⟩
  · have hw' : (wrong f == 0) = false := by simpa using hw
    have HW := Lib.hid hw
    clear hw
    go_enter Try.func27, Try.ntmps27
    go_wp2_with (first | (go_at_call 17; refine (Is_any A c f w B hf hl).mono ?_; rintro e w' ⟨rfl, rfl⟩))
    go_ret
    exact ⟨ret_int (by rw [props, if_neg HW.out]; rfl), rfl⟩

/-- A number of 64 bits without sign, in memory that has only grown. -/
def NumU (w : World) (k : Int) (en : Ending) (w' : World) : Prop := en = .returned (.int .u64 k) ∧ Below w.heap.size w w'

set_option maxHeartbeats 1000000 in
theorem Props_any (A : Option Addr) (c : Nat) (f : List Nd) (w : World) (B : Nat) (hf : Sl w B 2 A f.length c (ncells f)) (hB : B ≤ w.heap.size) (hl : f.length ≤ 1000000000) :
    Calls Try.prog 26 #[.slice A f.length c] w (NumU w (props f : Nat)) := by
  go_enter Try.func26, Try.ntmps26
  go_wp2_with fail
  refine (Spans_any A c f w B hf hB hl).mono ?_
  rintro e w1 ⟨v, rfl, hown, hb, _⟩
  obtain ⟨A1, c1, rfl, hsl1⟩ := own_sl hown
  clear hown hsl1
  by_cases hw : wrong f = 0
  · have HW := Lib.hid hw
    rw [spans_len hw]
    clear hw
    go_wp2
    go_loop [3, 8] (fun u i => ∃ k n : Nat, k ≤ f.length ∧ i = .int .i64 k ∧ u = .int .u64 n ∧ n < 256 ∧ Hid (n = propsF (f.take k))) (fun _ i => f.length - (intOf i).toNat)
    case atStart => exact ⟨0, 0, by omega, rfl, rfl, by omega, by simp [Hid, propsF]⟩
    case round =>
      obtain ⟨k, u, hk, rfl, rfl, hu, HU⟩ := hrel
      by_cases hlt : k < f.length
      · obtain ⟨b, o, rfl, _, hc0, hc1⟩ := rd_nd (hf.rd.below hb hB) hlt
        have hg := good_takes (good_at HW.out hlt).2
        have hsn := propsF_snoc hlt
        rw [← HU.out] at hsn
        have HS := Lib.hid hsn
        clear hsn
        generalize hx : f[k] = x at *
        obtain ⟨op, n⟩ := x
        dsimp only at *
        obtain ⟨_, _, hg⟩ := hg
        have Hx := Lib.hid hx
        clear hx
        by_cases h3 : op = 3
        · subst h3
          obtain ⟨hn1, hn2⟩ := hg rfl
          clear hg
          obtain ⟨e1, e2⟩ := or_step hu hn1 hn2
          have HE := Lib.hid e1
          clear e1
          go_wp2
          go_round
          case rel => exact ⟨k + 1, _, by omega, by go_num, by rw [HE.out], e2, by show _ = _; rw [HS.out, if_pos rfl]⟩
          case measure => simp [intOf]; omega
        · clear hg
          go_wp2
          go_round
          case rel => exact ⟨k + 1, u, by omega, by go_num, rfl, hu, by show _ = _; rw [HS.out, if_neg h3]⟩
          case measure => simp [intOf]; omega
      · have hkl : k = f.length := by omega
        subst hkl
        rw [List.take_of_length_le (Nat.le_refl _)] at HU
        go_wp2
        go_ret
        exact ⟨ret_int (by rw [props, if_pos HW.out, HU.out]), hb⟩
  · have hs : (spans f).length = 0 := by rw [(spans_nil_iff f).2 hw]; rfl
    rw [hs]
    have HW := Lib.hid hw
    clear hs hw
    go_wp2
    refine wp_loop_rounds 1 ?_
    rw [rounds_succ]
    go_wp2
    go_ret
    exact ⟨ret_int (by rw [props, if_neg HW.out]; rfl), hb⟩
end Go.Proofs.Ytpjhligbflmeoaa
