/- The walk of layer 28's reference: Meets. -/
import Derived.Test.YtedohmcnjlhdnaaCvN
import Derived.Test.YtedohmcnjlhdnaaCr2
import Derived.Test.YtedohmcnjlhdnaaR25c
namespace Go.Proofs.Ytedohmcnjlhdnaa
open Go.RowKit

set_option maxHeartbeats 4000000 in
set_option maxRecDepth 100000 in
theorem meetsR_any (A : Option Addr) (c : Nat) (f : List Nd) (need ban : Int) (v2 : Value) (A4 : Option Addr) (n4 c4 : Nat) (now : List Int) (w : World) (B : Nat) (hf : Sl w B 2 A f.length c (ncells f)) (h4 : Sl w B 1 A4 n4 c4 (icells now)) (hn : n4 = now.length) (hB : B ≤ w.heap.size) (hl : f.length ≤ 1000000) (hl4 : n4 ≤ 1000000) :
    Calls Try.prog 32 #[.slice A f.length c, .agg #[.int .u64 need, .int .u64 ban, v2, .slice A4 n4 c4]] w (U64P w (meetsN f now)) := by
  have hb0 : Below w.heap.size w (w.alloc (.cells #[.int .u64 need, .int .u64 ban, v2, .slice A4 n4 c4] 47)) := (Below.refl _ _).alloc (Nat.le_refl _) _
  have hx0 := heap_alloc_new w (.cells #[.int .u64 need, .int .u64 ban, v2, .slice A4 n4 c4] 47)
  have hxz : (w.alloc (.cells #[.int .u64 need, .int .u64 ban, v2, .slice A4 n4 c4] 47)).heap.size = w.heap.size + 1 := by simp
  obtain ⟨W0, hW0⟩ : ∃ W0, w.alloc (.cells #[.int .u64 need, .int .u64 ban, v2, .slice A4 n4 c4] 47) = W0 := ⟨_, rfl⟩
  rw [hW0] at hb0 hx0 hxz
  have HW0 := Lib.hid hW0
  clear hW0
  have HI := Lib.hid (IsR_any A c f W0 B (hf.below hb0 hB) (Nat.le_trans hB hb0.size) (by omega))
  have hcf := hf.cap
  have hc4 := h4.cap
  cases hN : isN f
  · have HM : Hid (meetsN f now = 0) := Lib.hid (by unfold meetsN; rw [hN]; rfl)
    rw [hN] at HI
    clear hN hf h4 hn
    go_enter Try.func32, Try.ntmps32
    go_wp2_with fail
    rw [HW0.out]
    go_wp2_with fail
    refine Calls.mono HI.out ?_
    rintro e w1 ⟨rfl, hb1⟩
    have hb01 := hb0.trans (hb1.mono (by omega))
    go_wp2
    go_ret
    exact ⟨by rw [HM.out]; rfl, hb01⟩
  · have HM : Hid (meetsN f now = (meetsA now (utl 0 f)).2) := Lib.hid (by unfold meetsN; rw [if_pos hN])
    have HCon := Lib.hid (fun (z : Int) (w' : World) (hb : Below w.heap.size w w') => inR_any A4 n4 c4 now z w' B hn (h4.below hb hB) (Nat.le_trans hB hb.size) (by omega))
    rw [hN] at HI
    have HF := Lib.hid hf
    generalize meetsN f now = mm at *
    clear hN hf h4 hn
    go_enter Try.func32, Try.ntmps32
    go_wp2_with fail
    rw [HW0.out]
    go_wp2_with fail
    refine Calls.mono HI.out ?_
    rintro e w1 ⟨rfl, hb1⟩
    have hb01 := hb0.trans (hb1.mono (by omega))
    have hx1 := (hb1.block w.heap.size (by omega)).trans hx0
    clear HI hx0 hb1 hb0
    have hz1 := hb01.size
    have hzz := heap_lt hx1
    go_wp2_with fail
    go_loopw [5, 6, 7] (fun u m i wr => ∃ k : Nat, k ≤ f.length ∧ i = .int .i64 k ∧ Below w1.heap.size w1 wr ∧ ∃ q p : Nat, u = .int .u64 q ∧ m = .int .i64 p ∧ p ≤ k ∧ q < 18446744073709551616 ∧ Hid (q = (meetsA now (utl 0 (f.take k))).2) ∧ Hid (p = (utl 0 (f.take k)).length)) (fun _ _ i _ => f.length - (intOf i).toNat)
    case atStart => exact ⟨0, by omega, rfl, Below.refl _ _, 0, 0, rfl, rfl, by omega, by omega, rfl, rfl⟩
    case round =>
      obtain ⟨k, hk, rfl, hbr, q, p, rfl, rfl, hpk, hq, HQ, HP⟩ := hrel
      have hsw := hbr.size
      by_cases hlt : k < f.length
      · have hsn := utl_snoc hlt
        obtain ⟨bb, o, rfl, hbb, hc0, hc1⟩ := rd_nd HF.out.rd hlt
        have hb0r : Below w.heap.size w wr := hb01.trans (hbr.mono hz1)
        have h9 := (hb0r.cell (p := ⟨bb, o + k * 2, none⟩) (show bb < w.heap.size by omega)).trans hc0
        have wk : IntKind.i64.wrap ((k : Int) + 1) = k + 1 := by rw [IntKind.wrap_i64]; omega
        have wk1 : IntKind.i64.wrap ((k : Int) - 1) = k - 1 := by rw [IntKind.wrap_i64]; omega
        have wp1 : IntKind.i64.wrap ((p : Int) + 1) = p + 1 := by rw [IntKind.wrap_i64]; omega
        generalize f[k].op = op at *
        clear hc0 hc1
        by_cases hop : op = 9
        · subst hop
          rw [if_pos rfl] at hsn
          have HSN := Lib.hid hsn
          clear hsn
          have hxr := (hbr.block w.heap.size (by omega)).trans hx1
          have g3 : wr.cell? ⟨w.heap.size, 3, none⟩ = some (.slice A4 n4 c4) := by rw [cell_of_row _ _ 3 _ _ (0, 0) hxr]; rfl
          have HP1 : Hid (p + 1 = (utl 0 (f.take (k + 1))).length) := Lib.hid (by rw [HSN.out, List.length_append, ← HP.out]; rfl)
          by_cases h64 : p < 64
          · have d64 : decide ((p : Int) < 64) = true := by simp; omega
            have HSH : IntKind.u64.wrap (2 ^ p) = ((2 ^ p : Nat) : Int) := wrap_pow64 h64
            have hpw : IntKind.u64.wrap (p : Int) = (p : Int) := by rw [IntKind.wrap_u64]; omega
            have hpk : 2 ^ p < 18446744073709551616 := by have : 2 ^ p ≤ 2 ^ 63 := Nat.pow_le_pow_right (by omega) (by omega); omega
            have hor := or_u64 (x := q) (y := 2 ^ p) (by omega) (by omega)
            have hqn : q ||| 2 ^ p < 18446744073709551616 := Nat.or_lt_two_pow (n := 64) (by omega) (by omega)
            have HY : Hid (metB now (k : Int) = true → q ||| 2 ^ p = (meetsA now (utl 0 (f.take (k + 1)))).2) := Lib.hid (fun h => by
              rw [HSN.out, meetsA_yes (by rw [← HP.out]; exact h64) h, ← HP.out, HQ.out])
            have HNo : Hid (metB now (k : Int) = false → q = (meetsA now (utl 0 (f.take (k + 1)))).2) := Lib.hid (fun h => by
              rw [HSN.out, meetsA_no h, HQ.out])
            generalize 2 ^ p = pk at *
            generalize hqq : q ||| pk = qq at *
            have HC1 := Lib.hid (HCon.out (k : Int) wr hb0r)
            clear hqq
            cases hB1 : now.any ((k : Int) == ·)
            · rw [hB1] at HC1
              have HB1 := Lib.hid hB1
              clear hB1
              go_wp2_with fail
              refine Calls.mono HC1.out ?_
              rintro e w4 ⟨rfl, hb4⟩
              go_wp2_with fail
              go_roundw
              case rel => exact ⟨k + 1, by omega, by go_num, hbr.trans (hb4.mono hbr.size), qq, p + 1, rfl, by go_num, by omega, hqn, HY.out (by unfold metB; rw [HB1.out]; rfl), HP1⟩
              case measure => simp [intOf]; omega
            · rw [hB1] at HC1
              have HB1 := Lib.hid hB1
              clear hB1
              go_wp2_with fail
              refine Calls.mono HC1.out ?_
              rintro e w4 ⟨rfl, hb4⟩
              have hbr4 := hbr.trans (hb4.mono hbr.size)
              have hb04 := hb0r.trans (hb4.mono hb0r.size)
              have g4 := (hb4.cell (p := ⟨w.heap.size, 3, none⟩) (by show w.heap.size < wr.heap.size; omega)).trans g3
              have HC2 := Lib.hid (HCon.out ((k : Int) - 1) w4 hb04)
              clear g3
              cases hB2 : now.any ((k : Int) - 1 == ·)
              · rw [hB2] at HC2
                have HB2 := Lib.hid hB2
                clear hB2
                go_wp2_with fail
                refine Calls.mono HC2.out ?_
                rintro e w5 ⟨rfl, hb5⟩
                go_wp2_with fail
                go_roundw
                case rel => exact ⟨k + 1, by omega, by go_num, hbr4.trans (hb5.mono hbr4.size), q, p + 1, rfl, by go_num, by omega, hq, HNo.out (by unfold metB; rw [HB1.out, HB2.out]; rfl), HP1⟩
                case measure => simp [intOf]; omega
              · rw [hB2] at HC2
                have HB2 := Lib.hid hB2
                clear hB2
                go_wp2_with fail
                refine Calls.mono HC2.out ?_
                rintro e w5 ⟨rfl, hb5⟩
                go_wp2_with fail
                go_roundw
                case rel => exact ⟨k + 1, by omega, by go_num, hbr4.trans (hb5.mono hbr4.size), qq, p + 1, rfl, by go_num, by omega, hqn, HY.out (by unfold metB; rw [HB1.out, HB2.out]; rfl), HP1⟩
                case measure => simp [intOf]; omega
          · have d64 : decide ((p : Int) < 64) = false := by simp; omega
            have HN : Hid (q = (meetsA now (utl 0 (f.take (k + 1)))).2) := Lib.hid (by rw [HSN.out, meetsA_far (by rw [← HP.out]; omega), HQ.out])
            go_wp2_with fail
            go_roundw
            case rel => exact ⟨k + 1, by omega, by go_num, hbr, q, p + 1, rfl, by go_num, by omega, hq, HN, HP1⟩
            case measure => simp [intOf]; omega
        · rw [if_neg hop, List.append_nil] at hsn
          have HSN := Lib.hid hsn
          have d9 : (op != 9) = true := by simpa using hop
          clear hsn hop
          go_wp2_with fail
          go_roundw
          case rel => exact ⟨k + 1, by omega, by go_num, hbr, q, p, rfl, rfl, by omega, hq, by show _ = _; rw [HSN.out]; exact HQ.out, by show _ = _; rw [HSN.out]; exact HP.out⟩
          case measure => simp [intOf]; omega
      · have hkl : k = f.length := by omega
        subst hkl
        rw [List.take_of_length_le (Nat.le_refl _)] at HQ
        go_wp2
        go_ret
        exact ⟨by rw [HM.out, ← HQ.out]; rfl, hb01.trans (hbr.mono hz1)⟩
end Go.Proofs.Ytedohmcnjlhdnaa
