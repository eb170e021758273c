/- The walk of layer 23's law LtlWhole. -/
import Derived.Test.YtpjhligbflmeoaaL23a
namespace Go.Proofs.Ytpjhligbflmeoaa
open Go.RowKit

set_option maxHeartbeats 2000000 in
set_option maxRecDepth 100000 in
theorem LtlWhole_any (A : Option Addr) (c : Nat) (f : List Nd) (w : World) (hf : Sl w w.heap.size 2 A f.length c (ncells f)) (hl : f.length ≤ 9223372036854775807) :
    Calls Try.prog 5 #[.slice A f.length c] w (Tru w true) := by
  by_cases h : 200 < f.length
  · go_enter Try.func5, Try.ntmps5
    go_wp2_with fail
    refine (works_any _).mono ?_
    rintro e w1 ⟨rfl, hb⟩
    go_wp2
    go_ret
    exact ⟨rfl, hb⟩
  · by_cases hw : wrong f = 0
    · have hw' : (wrong f == 0) = true := by simp [hw]
      obtain ⟨hpos, hlast⟩ := last_zero hw
      have hlies := fun k hk => lies_all hw (k := k) hk
      have hsl := spans_len hw
      have hrd := fun (w1 : World) (A1 : Option Addr) (c1 : Nat) (h : Sl w1 w1.heap.size 1 A1 (spans f).length c1 (icells (spans f))) (k : Nat) (v : Int) (hv : (spans f)[k]? = some v) => h.rd.at_ (j := k) (u := .int .i64 v) (by simp [icells, hv])
      have hkid := fun k hk => kids_at hw (k := k) hk
      have HRD := Lib.hid hrd
      have HKID := Lib.hid hkid
      have HLI := Lib.hid hlies
      have HLA := Lib.hid hlast
      have HSL := Lib.hid hsl
      clear hrd hkid hlies hlast hw
      go_enter Try.func5, Try.ntmps5
      go_wp2_with (first | (go_at_call 17; refine (Is_any A c f w _ hf (by omega)).mono ?_; rintro e w' ⟨rfl, rfl⟩))
      refine (Spans_any A c f _ _ hf (Nat.le_refl _) (by omega)).mono ?_
      rintro e w1 ⟨v1, rfl, hown1, hb1, _⟩
      obtain ⟨A1, c1, rfl, hs1⟩ := own_sl hown1
      have hz1 := hb1.size
      have hf1 := hf.below hb1 (Nat.le_refl _)
      obtain ⟨b1, o1, rfl, _, hcl⟩ := HRD.out _ _ _ hs1 _ _ HLA.out
      rw [hsl] at hown1 ⊢
      clear hsl
      have hne : ((f.length : Int) != (f.length : Int)) = false := by simp
      have h01 : (0 : Int) ≤ (f.length : Int) - 1 := by omega
      have h02 : (f.length : Int) - 1 < (f.length : Int) := by omega
      go_wp2
      go_loopw [4] (fun i wr => ∃ k : Nat, k ≤ f.length ∧ i = .int .i64 k ∧ Below w1.heap.size w1 wr) (fun i _ => f.length - (intOf i).toNat)
      case atStart => exact ⟨0, by omega, rfl, Below.refl _ _⟩
      case round =>
        obtain ⟨k, hk, rfl, hbr⟩ := hrel
        have hzr := hbr.size
        clear hcl
        by_cases hlt : k < f.length
        · have hK := Kids_any A c f k wr _ (hf1.below hbr hz1) (by omega) (by omega) (by omega)
          rw [HKID.out k hlt] at hK
          have hsr := (hs1.below hbr (Nat.le_refl _)).up hzr
          have hsrd := HRD.out _ _ _ hsr
          have HSR := Lib.hid hsrd
          clear hsrd
          rcases HLI.out k hlt with ⟨ht, hk0⟩ | ⟨ht, h1, v, hv, hk0, hk1⟩ | ⟨ht, h2, v, a, hva, hak, hk0, hk1, hka⟩
          · rw [if_neg (by omega), if_neg (by omega)] at hK
            obtain ⟨_, _, e1, _, hc0⟩ := HSR.out _ _ hk0
            cases e1
            have HK := Lib.hid hK
            clear hK ht hk0
            have hkk : ((k : Int) != (k : Int)) = false := by simp
            go_wp2_with fail
            refine Calls.mono HK.out ?_
            rintro e w3 ⟨rfl, hb3⟩
            have hc3 := (hb3.cell (p := ⟨b1, o1 + k, none⟩) (World.block_lt_of_cell? _ _ hc0)).trans hc0
            have hk01 : (0 : Int) ≤ (k : Int) := by omega
            have hk02 : (k : Int) < (f.length : Int) := by omega
            go_wp2
            refine wp_region_quiet_lit (by kernel_rfl) (by kernel_rfl) ?_
            simp only [List.append_eq, List.cons_append, List.nil_append]
            repeat (go_big_quiet_step (fail))
            refine wpQuiet_nil ?_
            intro _ hw'
            obtain ⟨nq, hw''⟩ := hw'
            subst hw''
            go_wp2
            go_roundw
            case rel => exact ⟨k + 1, by omega, by go_num, below_drewN (hbr.trans (hb3.mono hzr)) _⟩
            case measure => simp [intOf]; omega
          · obtain ⟨kl, hkl⟩ : ∃ kl, k = kl + 1 := ⟨k - 1, by omega⟩
            have e0 : ((k : Int) - 1) = (kl : Int) := by omega
            have e1 : k - 1 = kl := by omega
            rw [if_pos ht, e0] at hK
            rw [e1] at hk1
            have hkk : ((kl : Int) != (k : Int) - 1) = false := by rw [e0]; simp
            have hkm : ((kl : Int) == -1) = false := beq_eq_false_iff_ne.2 (by omega)
            have hkd : decide ((0 : Int) ≤ (kl : Int)) = true := by simp
            have HKL := Lib.hid hkl
            have hkln : kl < f.length := by omega
            have hklk : kl < k := by omega
            clear e0 e1 hkl
            obtain ⟨_, _, e1, _, hc0⟩ := HSR.out _ _ hk0
            cases e1
            obtain ⟨_, _, e1, _, hc1⟩ := HSR.out _ _ hk1
            cases e1
            have HK := Lib.hid hK
            clear hK ht hk0 hk1
            have hvv : ((v : Int) != (v : Int)) = false := by simp
            go_wp2_with fail
            refine Calls.mono HK.out ?_
            rintro e w3 ⟨rfl, hb3⟩
            have hc3 := (hb3.cell (p := ⟨b1, o1 + k, none⟩) (World.block_lt_of_cell? _ _ hc0)).trans hc0
            have hc4 := (hb3.cell (p := ⟨b1, o1 + kl, none⟩) (World.block_lt_of_cell? _ _ hc1)).trans hc1
            have hk01 : (0 : Int) ≤ (k : Int) := by omega
            have hk02 : (k : Int) < (f.length : Int) := by omega
            go_wp2
            refine wp_region_quiet_lit (by kernel_rfl) (by kernel_rfl) ?_
            simp only [List.append_eq, List.cons_append, List.nil_append]
            repeat (go_big_quiet_step (fail))
            refine wpQuiet_nil ?_
            intro _ hw'
            obtain ⟨nq, hw''⟩ := hw'
            subst hw''
            go_wp2
            go_roundw
            case rel => exact ⟨k + 1, by omega, by go_num, below_drewN (hbr.trans (hb3.mono hzr)) _⟩
            case measure => simp [intOf]; omega
          · obtain ⟨kl, hkl⟩ : ∃ kl, k = kl + 1 := ⟨k - 1, by omega⟩
            have e0 : ((k : Int) - 1) = (kl : Int) := by omega
            have e1 : k - 1 = kl := by omega
            have ee : (spans f)[k - 1]?.getD 0 - 1 = (a : Int) := by rw [hk1]; simp
            rw [if_neg (by omega), if_pos ht, ee, e0] at hK
            rw [e1] at hk1
            have hkk : ((kl : Int) != (k : Int) - 1) = false := by rw [e0]; simp
            have hkm : ((kl : Int) == -1) = false := beq_eq_false_iff_ne.2 (by omega)
            have hkd : decide ((0 : Int) ≤ (kl : Int)) = true := by simp
            have ham : ((a : Int) == -1) = false := beq_eq_false_iff_ne.2 (by omega)
            have had : decide ((0 : Int) ≤ (a : Int)) = true := by simp
            have HKL := Lib.hid hkl
            have hkln : kl < f.length := by omega
            have hklk : kl < k := by omega
            clear e0 e1 hkl
            obtain ⟨_, _, e1, _, hc0⟩ := HSR.out _ _ hk0
            cases e1
            obtain ⟨_, _, e1, _, hc1⟩ := HSR.out _ _ hk1
            cases e1
            obtain ⟨_, _, e1, _, hca⟩ := HSR.out _ _ hka
            cases e1
            have HK := Lib.hid hK
            clear hK ht hk0 hk1 hka ee
            have hvv : ((v : Int) != (v : Int)) = false := by simp
            have haa : (((a : Int) + 1) != ((a : Int) + 1)) = false := by simp
            go_wp2_with fail
            refine Calls.mono HK.out ?_
            rintro e w3 ⟨rfl, hb3⟩
            have hc3 := (hb3.cell (p := ⟨b1, o1 + k, none⟩) (World.block_lt_of_cell? _ _ hc0)).trans hc0
            have hc4 := (hb3.cell (p := ⟨b1, o1 + kl, none⟩) (World.block_lt_of_cell? _ _ hc1)).trans hc1
            have hc5 := (hb3.cell (p := ⟨b1, o1 + a, none⟩) (World.block_lt_of_cell? _ _ hca)).trans hca
            have hk01 : (0 : Int) ≤ (k : Int) := by omega
            have hk02 : (k : Int) < (f.length : Int) := by omega
            go_wp2
            refine wp_region_quiet_lit (by kernel_rfl) (by kernel_rfl) ?_
            simp only [List.append_eq, List.cons_append, List.nil_append]
            repeat (go_big_quiet_step (fail))
            refine wpQuiet_nil ?_
            intro _ hw'
            obtain ⟨nq, hw''⟩ := hw'
            subst hw''
            go_wp2
            go_roundw
            case rel => exact ⟨k + 1, by omega, by go_num, below_drewN (hbr.trans (hb3.mono hzr)) _⟩
            case measure => simp [intOf]; omega
        · go_wp2_with fail
          refine (works_any _).mono ?_
          rintro e w4 ⟨rfl, hb4⟩
          go_wp2
          go_ret
          exact ⟨rfl, (hb1.trans (hbr.mono hz1)).trans (hb4.mono (by omega))⟩
    · have hw' : (wrong f == 0) = false := by simpa using hw
      have hs0 : (spans f).length = 0 := by rw [(spans_nil_iff f).2 hw]; rfl
      have HS := Lib.hid hs0
      clear hs0 hw
      go_enter Try.func5, Try.ntmps5
      go_wp2_with (first | (go_at_call 17; refine (Is_any A c f w _ hf (by omega)).mono ?_; rintro e w' ⟨rfl, rfl⟩))
      refine (Spans_any A c f _ _ hf (Nat.le_refl _) (by omega)).mono ?_
      rintro e w1 ⟨v1, rfl, hown1, hb1, _⟩
      rw [HS.out] at hown1
      obtain ⟨A1, c1, rfl, hs1⟩ := own_sl hown1
      have hz1 := hb1.size
      clear hs1 hown1
      go_wp2_with fail
      refine (works_any _).mono ?_
      rintro e w2 ⟨rfl, hb2⟩
      go_wp2
      go_ret
      exact ⟨rfl, hb1.trans (hb2.mono hz1)⟩
end Go.Proofs.Ytpjhligbflmeoaa
