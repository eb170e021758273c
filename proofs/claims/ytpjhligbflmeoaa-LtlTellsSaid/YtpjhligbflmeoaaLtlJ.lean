/- The walks of layer 23's laws LtlWhole, LtlTells, LtlNot. -/
import Derived.Test.YtpjhligbflmeoaaLtlI
import Derived.Test.YtpjhligbflmeoaaLtlQ
namespace Go.Proofs.Ytpjhligbflmeoaa
open Go.RowKit

theorem spans_le (f : List Nd) : (spans f).length ≤ f.length := by
  by_cases hw : wrong f = 0
  · rw [spans_len hw]; exact Nat.le_refl _
  · rw [(spans_nil_iff f).2 hw]; simp
theorem untils_le (f : List Nd) : (untils f).length ≤ f.length := by
  unfold untils
  split
  · exact utl_len f 0
  · simp
theorem neg_le (f : List Nd) : (neg f).length ≤ f.length + 1 := by
  unfold neg
  split <;> simp

set_option maxHeartbeats 1000000 in
theorem LtlTells_any (A : Option Addr) (c : Nat) (f : List Nd) (w : World) (hf : Sl w w.heap.size 2 A f.length c (ncells f)) (hl : f.length ≤ 9223372036854775807) :
    Calls Try.prog 7 #[.slice A f.length c] w (Tru w true) := by
  by_cases h : 200 < f.length
  · go_enter Try.func7, Try.ntmps7
    go_wp2_with fail
    refine (works_any _).mono ?_
    rintro e w1 ⟨rfl, hb⟩
    go_wp2
    go_ret
    exact ⟨rfl, hb⟩
  · have hP := fun (w : World) (B : Nat) (hf : Sl w B 2 A f.length c (ncells f)) (hB : B ≤ w.heap.size) => Props_any A c f w B hf hB (by omega)
    have hP' := fun (w : World) (B : Nat) (hf : Sl w B 2 A f.length c (ncells f)) => PropsR_any A c f w B hf (by omega)
    generalize ((props f : Nat) : Int) = p at hP hP'
    have HP := Lib.hid hP
    have HP' := Lib.hid hP'
    have hN := fun (w : World) (B : Nat) (hf : Sl w B 2 A f.length c (ncells f)) (hB : B ≤ w.heap.size) => Next_any A c f w B hf hB (by omega)
    have hN' := fun (w : World) (B : Nat) (hf : Sl w B 2 A f.length c (ncells f)) => NextR_any A c f w B hf (by omega)
    generalize nextF f = q at hN hN'
    have HN := Lib.hid hN
    have HN' := Lib.hid hN'
    clear hP hP' hN hN'
    have hpp : (p == p) = true := by simp
    have hqq : (q == q) = true := by simp
    go_enter Try.func7, Try.ntmps7
    go_wp2_with fail
    refine (HP.out _ _ hf (Nat.le_refl _)).mono ?_
    rintro e w1 ⟨rfl, hb1⟩
    have hz1 := hb1.size
    have hf1 := hf.below hb1 (Nat.le_refl _)
    go_wp2_with fail
    refine (HP'.out _ _ hf1).mono ?_
    rintro e w1' ⟨rfl, rfl⟩
    go_wp2_with fail
    refine (HN.out _ _ hf1 hz1).mono ?_
    rintro e w2 ⟨rfl, hb2⟩
    have hz2 := hb2.size
    have hf2 := hf1.below hb2 hz1
    go_wp2_with fail
    refine (HN'.out _ _ hf2).mono ?_
    rintro e w2' ⟨rfl, rfl⟩
    go_wp2_with fail
    refine (Untils_any A c f _ _ hf2 (by omega) (by omega)).mono ?_
    rintro e w3 ⟨v3, rfl, hown3, hb3, _⟩
    obtain ⟨A3, c3, rfl, hs3⟩ := own_sl hown3
    have hz3 := hb3.size
    have hf3 := hf2.below hb3 (by omega)
    go_wp2_with fail
    refine (UntilsR_any A c f _ _ hf3 (by omega) (by omega)).mono ?_
    rintro e w4 ⟨v4, rfl, hown4, hb4, _⟩
    obtain ⟨A4, c4, rfl, hs4⟩ := own_sl hown4
    have hz4 := hb4.size
    have hf4 := hf3.below hb4 (by omega)
    have hul := untils_le f
    go_wp2_with fail
    refine (equalInt_any _ _ _ _ _ _ (untils f) (untils f) _ _ _ (hs3.below hb4 (Nat.le_refl _)) hs4 rfl rfl (by omega)).mono ?_
    rintro e w5 ⟨rfl, n5, rfl⟩
    have hd : decide (untils f = untils f) = true := by simp
    have hf5 := hf4.below (below_drewN (Below.refl w4.heap.size w4) n5) (by omega)
    have hb5 : Below w4.heap.size w4 (w4.drewN n5) := below_drewN (Below.refl _ _) n5
    have hz5 := hb5.size
    generalize w4.drewN n5 = w5 at *
    go_wp2_with fail
    refine (Not_any A c f _ _ hf5 (by omega) (by omega)).mono ?_
    rintro e w6 ⟨v6, rfl, hown6, hb6, _⟩
    obtain ⟨A6, c6, rfl, hs6⟩ := own_sl hown6
    have hz6 := hb6.size
    have hf6 := hf5.below hb6 (by omega)
    go_wp2_with fail
    refine (NotR_any A c f _ _ hf6 (by omega) (by omega)).mono ?_
    rintro e w7 ⟨v7, rfl, hown7, hb7, _⟩
    obtain ⟨A7, c7, rfl, hs7⟩ := own_sl hown7
    have hz7 := hb7.size
    have hnl := neg_le f
    go_wp2_with fail
    refine (equalNd_any _ _ _ _ _ _ (neg f) (neg f) _ _ _ (hs6.below hb7 (Nat.le_refl _)) hs7 rfl rfl (by omega)).mono ?_
    rintro e w8 ⟨rfl, n8, rfl⟩
    have hd8 : decide (neg f = neg f) = true := by simp
    have hb8 : Below w7.heap.size w7 (w7.drewN n8) := below_drewN (Below.refl _ _) n8
    have hz8 := hb8.size
    generalize w7.drewN n8 = w8 at *
    go_wp2_with fail
    refine (works_any _).mono ?_
    rintro e w9 ⟨rfl, hb9⟩
    go_wp2
    go_ret
    exact ⟨rfl, (((((((hb1.trans (hb2.mono hz1)).trans (hb3.mono (by omega))).trans (hb4.mono (by omega))).trans (hb5.mono (by omega))).trans (hb6.mono (by omega))).trans (hb7.mono (by omega))).trans (hb8.mono (by omega))).trans (hb9.mono (by omega))⟩

/-! The negation. -/
theorem scan_good {f : List Nd} (hw : wrong f = 0) : scan f 0 = (0, 1) := by
  obtain ⟨hpos, _⟩ := last_zero hw
  have hne : f ≠ [] := by rintro rfl; simp at hpos
  have h0 : (scan f 0).1 = 0 := by
    unfold wrong at hw
    rw [if_neg hne] at hw
    split at hw
    · assumption
    · exact hw
  have hl := runs_stack (f := f) (d := (scan f 0).2) (by rw [← h0])
  have hle : ¬ 1 < (runs f).1.length := by
    rw [wrong_run hne, if_pos h0] at hw
    split at hw
    · omega
    · assumption
  have hge : (runs f).1 ≠ [] := by
    obtain ⟨n, hn⟩ : ∃ n, f.length = n + 1 := ⟨f.length - 1, by omega⟩
    have : runs f = stp (runs (f.take n)) (f[n]'(by omega)) := by rw [← runs_snoc (by omega), ← hn, List.take_of_length_le (Nat.le_refl _)]
    rw [this]
    simp [stp]
  have := List.length_pos_iff.2 hge
  have h2 : (scan f 0).2 = 1 := by omega
  rw [← h0, ← h2]
theorem neg_good {f : List Nd} (hw : wrong f = 0) : wrong (f ++ [⟨4, 0⟩]) = 0 := by
  have h : scan (f ++ [⟨4, 0⟩]) 0 = (0, 1) := by
    rw [scan_append, scan_good hw]
    decide
  rw [wrong_end (by simp) h]
  decide
theorem props_neg {f : List Nd} (hw : wrong f = 0) : props (f ++ [⟨4, 0⟩]) = props f := by
  rw [props, props, if_pos (neg_good hw), if_pos hw]
  simp [propsF]
theorem untils_neg {f : List Nd} (hw : wrong f = 0) : untils (f ++ [⟨4, 0⟩]) = untils f := by
  rw [untils, untils, if_pos (neg_good hw), if_pos hw, utl_append]
  simp
theorem next_neg {f : List Nd} (hw : wrong f = 0) : nextF (f ++ [⟨4, 0⟩]) = nextF f := by
  rw [nextF, nextF, neg_good hw, hw]
  simp [hasNext]
theorem kids_neg {f : List Nd} (hw : wrong f = 0) : kids (f ++ [⟨4, 0⟩]) f.length = ((f.length : Int) - 1, -1) := by
  rw [kids_at (neg_good hw) (by simp)]
  simp [takes]

set_option maxHeartbeats 1000000 in
theorem LtlNot_any (A : Option Addr) (c : Nat) (f : List Nd) (w : World) (hf : Sl w w.heap.size 2 A f.length c (ncells f)) (hl : f.length ≤ 9223372036854775807) :
    Calls Try.prog 8 #[.slice A f.length c] w (Tru w true) := by
  by_cases h : 200 < f.length
  · go_enter Try.func8, Try.ntmps8
    go_wp2_with fail
    refine (works_any _).mono ?_
    rintro e w1 ⟨rfl, hb⟩
    go_wp2
    go_ret
    exact ⟨rfl, hb⟩
  · go_enter Try.func8, Try.ntmps8
    go_wp2_with fail
    refine (Not_any A c f _ _ hf (Nat.le_refl _) (by omega)).mono ?_
    rintro e w1 ⟨v1, rfl, hown1, hb1, _⟩
    obtain ⟨A1, c1, rfl, hs1⟩ := own_sl hown1
    have hz1 := hb1.size
    have hf1 := hf.below hb1 (Nat.le_refl _)
    go_wp2_with fail
    refine (Is_any A c f w1 _ hf1 (by omega)).mono ?_
    rintro e w1' ⟨rfl, rfl⟩
    by_cases hw : wrong f = 0
    · have hw' : (wrong f == 0) = true := by simp [hw]
      have hng : neg f = f ++ [⟨4, 0⟩] := by rw [neg, if_pos hw]
      have hgl : (neg f).length = f.length + 1 := by rw [hng]; simp
      have hgw : (wrong (neg f) == 0) = true := by rw [hng, neg_good hw]; rfl
      have hgk : kids (neg f) f.length = ((f.length : Int) - 1, -1) := by rw [hng]; exact kids_neg hw
      have hgp : props (neg f) = props f := by rw [hng]; exact props_neg hw
      have hgu : untils (neg f) = untils f := by rw [hng]; exact untils_neg hw
      have hgn : nextF (neg f) = nextF f := by rw [hng]; exact next_neg hw
      have hul := untils_le f
      generalize neg f = g at *
      have HK := Lib.hid hgk
      have HP := Lib.hid hgp
      have HU := Lib.hid hgu
      have HN := Lib.hid hgn
      have HL := Lib.hid hgl
      clear hgk hgp hgu hgn hng hw hown1
      have hgl2 : g.length ≤ 201 := by omega
      clear hgl
      go_wp2_with fail
      have hK := Kids_any A1 c1 g f.length w1 _ hs1 (Nat.le_refl _) (by omega) (by omega)
      rw [HK.out] at hK
      refine Calls.mono hK ?_
      rintro e w2 ⟨rfl, hb2⟩
      have hz2 := hb2.size
      have hs2 := hs1.below hb2 (Nat.le_refl _)
      have hf2 := hf1.below hb2 hz1
      have hlen : ((g.length : Int) == ((f.length : Int) + 1)) = true := by simp [HL.out]
      go_wp2_with fail
      refine (Is_any A1 c1 g _ _ hs2 (by omega)).mono ?_
      rintro e w2' ⟨rfl, rfl⟩
      have hP := fun (w : World) (B : Nat) (h : Sl w B 2 A1 g.length c1 (ncells g)) (hB : B ≤ w.heap.size) => Props_any A1 c1 g w B h hB (by omega)
      have hP' := fun (w : World) (B : Nat) (hf : Sl w B 2 A f.length c (ncells f)) (hB : B ≤ w.heap.size) => Props_any A c f w B hf hB (by omega)
      rw [HP.out] at hP
      generalize ((props f : Nat) : Int) = p at hP hP'
      have HP1 := Lib.hid hP
      have HP' := Lib.hid hP'
      have hN := fun (w : World) (B : Nat) (h : Sl w B 2 A1 g.length c1 (ncells g)) (hB : B ≤ w.heap.size) => Next_any A1 c1 g w B h hB (by omega)
      have hN' := fun (w : World) (B : Nat) (hf : Sl w B 2 A f.length c (ncells f)) (hB : B ≤ w.heap.size) => Next_any A c f w B hf hB (by omega)
      rw [HN.out] at hN
      generalize nextF f = q at hN hN'
      have HN1 := Lib.hid hN
      have HN' := Lib.hid hN'
      clear hP hP' hN hN' HP HN
      have hpp : (p == p) = true := by simp
      have hqq : (q == q) = true := by simp
      go_wp2_with fail
      refine (HP1.out _ _ hs2 hz2).mono ?_
      rintro e w3 ⟨rfl, hb3⟩
      have hz3 := hb3.size
      have hs3 := hs2.below hb3 hz2
      have hf3 := hf2.below hb3 (by omega)
      go_wp2_with fail
      refine (HP'.out _ _ hf3 (by omega)).mono ?_
      rintro e w4 ⟨rfl, hb4⟩
      have hz4 := hb4.size
      have hs4 := hs3.below hb4 (by omega)
      have hf4 := hf3.below hb4 (by omega)
      go_wp2_with fail
      refine (Untils_any A1 c1 g _ _ hs4 (by omega) (by omega)).mono ?_
      rintro e w5 ⟨v5, rfl, hown5, hb5, _⟩
      rw [HU.out] at hown5
      obtain ⟨A5, c5, rfl, hs5'⟩ := own_sl hown5
      have hz5 := hb5.size
      have hs5 := hs4.below hb5 (by omega)
      have hf5 := hf4.below hb5 (by omega)
      go_wp2_with fail
      refine (Untils_any A c f _ _ hf5 (by omega) (by omega)).mono ?_
      rintro e w6 ⟨v6, rfl, hown6, hb6, _⟩
      obtain ⟨A6, c6, rfl, hs6'⟩ := own_sl hown6
      have hz6 := hb6.size
      have hs6 := hs5.below hb6 (by omega)
      have hf6 := hf5.below hb6 (by omega)
      go_wp2_with fail
      refine (equalInt_any _ _ _ _ _ _ (untils f) (untils f) _ _ _ (hs5'.below hb6 (Nat.le_refl _)) hs6' rfl rfl (by omega)).mono ?_
      rintro e w7 ⟨rfl, n7, rfl⟩
      have hd7 : decide (untils f = untils f) = true := by simp
      have hb7 : Below w6.heap.size w6 (w6.drewN n7) := below_drewN (Below.refl _ _) n7
      have hz7 := hb7.size
      have hs7 := hs6.below hb7 (by omega)
      have hf7 := hf6.below hb7 (by omega)
      generalize w6.drewN n7 = w7 at *
      go_wp2_with fail
      refine (HN1.out _ _ hs7 (by omega)).mono ?_
      rintro e w8 ⟨rfl, hb8⟩
      have hz8 := hb8.size
      have hs8 := hs7.below hb8 (by omega)
      have hf8 := hf7.below hb8 (by omega)
      go_wp2_with fail
      refine (HN'.out _ _ hf8 (by omega)).mono ?_
      rintro e w9 ⟨rfl, hb9⟩
      have hz9 := hb9.size
      have hk1 : (((f.length : Int) - 1) == ((f.length : Int) - 1)) = true := by simp
      go_wp2_with fail
      refine (works_any _).mono ?_
      rintro e w10 ⟨rfl, hb10⟩
      go_wp2
      go_ret
      exact ⟨rfl, ((((((((hb1.trans (hb2.mono hz1)).trans (hb3.mono (by omega))).trans (hb4.mono (by omega))).trans (hb5.mono (by omega))).trans (hb6.mono (by omega))).trans (hb7.mono (by omega))).trans (hb8.mono (by omega))).trans (hb9.mono (by omega))).trans (hb10.mono (by omega))⟩
    · have hw' : (wrong f == 0) = false := by simpa using hw
      have hng : (neg f).length = 0 := by rw [neg, if_neg hw]; rfl
      rw [hng]
      clear hng hw
      go_wp2_with fail
      refine (works_any _).mono ?_
      rintro e w2 ⟨rfl, hb2⟩
      go_wp2
      go_ret
      exact ⟨rfl, hb1.trans (hb2.mono hz1)⟩

end Go.Proofs.Ytpjhligbflmeoaa
