/- The walks of the laws of layer 23: the examples, LtlChecks, LtlParts. -/
import Derived.Test.YtpjhligbflmeoaaLtl5
import Derived.Test.YtpjhligbflmeoaaLtl6
import Derived.Test.YtpjhligbflmeoaaLtl7
import Derived.Test.YtpjhligbflmeoaaEqI
import Derived.Test.YtpjhligbflmeoaaR23b
import Derived.Test.YtpjhligbflmeoaaR23c
namespace Go.Proofs.Ytpjhligbflmeoaa
open Go.RowKit

def exF : List Nd := [⟨3, 0⟩, ⟨3, 1⟩, ⟨9, 0⟩]

theorem exWrong : wrong exF = 0 := by decide

theorem exKids : kids exF 2 = (0, 1) := by decide

theorem exSpans : spans exF = [0, 1, 0] := by decide

theorem exProps : props exF = 3 := by decide

theorem exUntils : untils exF = [2] := by decide

theorem exCheck : check exF = 0 := by decide

theorem exCheck1 : check (exF.drop 1) = 4 := by decide

theorem exCheck2 : check (exF.take 2) = 5 := by decide

theorem exLen : exF.length = 3 := rfl

set_option maxHeartbeats 2000000 in
set_option maxRecDepth 100000 in
theorem works_any (w : World) : Calls Try.prog 9 #[] w (Tru w true) := by
  obtain ⟨Ad, hAd⟩ : ∃ Ad : Option Addr, Ad = some ⟨w.heap.size, 0, none⟩ := ⟨_, rfl⟩
  have hW : (w.alloc (.cells #[.int .i64 3, .int .i64 0, .int .i64 3, .int .i64 1, .int .i64 9, .int .i64 0] 44)).ownsRow w.heap.size 44 2 (.slice (some ⟨w.heap.size, 0, none⟩) 3 3) 3 (ncells exF) :=
    World.ownsRow_lit w _ 3 (Nat.le_refl _) (by unfold maxLen; omega) rfl
  obtain ⟨A0, c0, e0, hs0⟩ := own_sl hW
  cases e0
  have hb0 : Below w.heap.size w (w.alloc (.cells #[.int .i64 3, .int .i64 0, .int .i64 3, .int .i64 1, .int .i64 9, .int .i64 0] 44)) := (Below.refl _ _).alloc (Nat.le_refl _) _
  go_enter Try.func9, Try.ntmps9
  go_wp2_with fail
  have hz0 : w.heap.size ≤ (w.alloc (.cells #[.int .i64 3, .int .i64 0, .int .i64 3, .int .i64 1, .int .i64 9, .int .i64 0] 44)).heap.size := by simp
  generalize (w.alloc (.cells #[.int .i64 3, .int .i64 0, .int .i64 3, .int .i64 1, .int .i64 9, .int .i64 0] 44)) = W0 at *
  have hK := Kids_any _ 3 exF 2 W0 _ hs0 (Nat.le_refl _) (by rw [exLen]; omega) (by omega)
  rw [exKids] at hK
  refine Calls.mono hK ?_
  rintro e w1 ⟨rfl, hb1⟩
  have hs1 := hs0.below hb1 (Nat.le_refl _)
  have hz1 := hb1.size
  go_wp2_with fail
  have hC := Check_any _ 3 exF w1 _ hs1 hz1 (by rw [exLen]; omega)
  rw [exCheck] at hC
  refine Calls.mono hC ?_
  rintro e w2 ⟨rfl, hb2⟩
  have hs2 := hs1.below hb2 hz1
  have hz2 := hb2.size
  go_wp2_with fail
  have hS := Spans_any _ 3 exF w2 _ hs2 (by omega) (by rw [exLen]; omega)
  rw [exSpans] at hS
  refine Calls.mono hS ?_
  rintro e w3 ⟨v3, rfl, hown3, hb3, _⟩
  obtain ⟨A3, c3, rfl, hs3'⟩ := own_sl hown3
  have hs3 := hs2.below hb3 (by omega)
  have hz3 := hb3.size
  go_wp2_with fail
  have hl4 := own_sl (World.ownsRow_lit (base := w3.heap.size) (e := 3) (size := 1) w3 #[.int .i64 0, .int .i64 1, .int .i64 0] 3 (Nat.le_refl _) (by unfold maxLen; omega) rfl)
  obtain ⟨A4, c4, e4, hs4⟩ := hl4
  cases e4
  have hb4 : Below w3.heap.size w3 (w3.alloc (.cells #[.int .i64 0, .int .i64 1, .int .i64 0] 3)) := (Below.refl _ _).alloc (Nat.le_refl _) _
  have hE := equalInt_any _ _ 3 c3 3 3 [0, 1, 0] [0, 1, 0] _ _ _ (hs3'.below hb4 (Nat.le_refl _)) hs4 rfl rfl (by omega)
  refine Calls.mono hE ?_
  rintro e w4 ⟨rfl, n4, rfl⟩
  have hs5 := hs3.below (hb4.trans (below_drewN (Below.refl _ _) n4)) (by omega)
  have hb5 : Below w3.heap.size w3 ((w3.alloc (.cells #[.int .i64 0, .int .i64 1, .int .i64 0] 3)).drewN n4) := below_drewN hb4 n4
  have hz5 := hb5.size
  generalize hw5 : ((w3.alloc (.cells #[.int .i64 0, .int .i64 1, .int .i64 0] 3)).drewN n4) = w5 at *
  clear hw5
  go_wp2_with fail
  have hs6 : Sl w5 _ 2 (some ⟨w.heap.size, 2, none⟩) 2 2 (ncells (exF.drop 1)) := hs5.drop (k := 1) (by omega)
  have hC1 := Check_any _ 2 (exF.drop 1) w5 _ hs6 (by omega) (by simp [exLen])
  rw [exCheck1] at hC1
  refine Calls.mono hC1 ?_
  rintro e w6 ⟨rfl, hb6⟩
  have hs7 := hs5.below hb6 (by omega)
  have hz6 := hb6.size
  go_wp2_with fail
  have hs8 : Sl w6 _ 2 (some ⟨w.heap.size, 0, none⟩) 2 3 (ncells (exF.take 2)) := hs7.take (k := 2) (by omega)
  have hC2 := Check_any _ 3 (exF.take 2) w6 _ hs8 (by omega) (by simp [exLen])
  rw [exCheck2] at hC2
  refine Calls.mono hC2 ?_
  rintro e w7 ⟨rfl, hb7⟩
  have hs9 := hs7.below hb7 (by omega)
  have hz7 := hb7.size
  go_wp2_with fail
  have hP := Props_any _ 3 exF w7 _ hs9 (by omega) (by rw [exLen]; omega)
  rw [exProps] at hP
  refine Calls.mono hP ?_
  rintro e w8 ⟨rfl, hb8⟩
  have hs10 := hs9.below hb8 (by omega)
  have hz8 := hb8.size
  go_wp2_with fail
  have hU := Untils_any _ 3 exF w8 _ hs10 (by omega) (by rw [exLen]; omega)
  rw [exUntils] at hU
  refine Calls.mono hU ?_
  rintro e w9 ⟨v9, rfl, hown9, hb9, _⟩
  obtain ⟨A9, c9, rfl, hs9'⟩ := own_sl hown9
  have hz9 := hb9.size
  go_wp2_with fail
  have hlA := own_sl (World.ownsRow_lit (base := w9.heap.size) (e := 3) (size := 1) w9 #[.int .i64 2] 1 (Nat.le_refl _) (by unfold maxLen; omega) rfl)
  obtain ⟨AA, cA, eA, hsA⟩ := hlA
  cases eA
  have hbA : Below w9.heap.size w9 (w9.alloc (.cells #[.int .i64 2] 3)) := (Below.refl _ _).alloc (Nat.le_refl _) _
  have hEA := equalInt_any _ _ 1 c9 1 1 [2] [2] _ _ _ (hs9'.below hbA (Nat.le_refl _)) hsA rfl rfl (by omega)
  refine Calls.mono hEA ?_
  rintro e wA ⟨rfl, nA, rfl⟩
  go_wp2
  go_ret
  refine ⟨rfl, ?_⟩
  have hbL := below_drewN hbA nA
  exact (((((((((hb0.trans (hb1.mono (by omega))).trans (hb2.mono (by omega))).trans (hb3.mono (by omega))).trans (hb5.mono (by omega))).trans (hb6.mono (by omega))).trans (hb7.mono (by omega))).trans (hb8.mono (by omega))).trans (hb9.mono (by omega))).trans (hbL.mono (by omega)))

/-- LtlChecks: what is handed in is a list of nodes. -/
theorem LtlChecks_any (A : Option Addr) (c : Nat) (f : List Nd) (w : World) (hf : Sl w w.heap.size 2 A f.length c (ncells f)) (hl : f.length ≤ 9223372036854775807) :
    Calls Try.prog 3 #[.slice A f.length c] w (Tru w true) := by
  by_cases h : 200 < f.length
  · go_enter Try.func3, Try.ntmps3
    go_wp2_with fail
    refine (works_any _).mono ?_
    rintro e w1 ⟨rfl, hb⟩
    go_wp2
    go_ret
    exact ⟨rfl, hb⟩
  · go_enter Try.func3, Try.ntmps3
    go_wp2_with fail
    refine (Check_any A c f _ _ hf (Nat.le_refl _) (by omega)).mono ?_
    rintro e w1 ⟨rfl, hb1⟩
    have hz1 := hb1.size
    go_wp2_with fail
    refine (CheckR_any A c f w1 _ (hf.below hb1 (Nat.le_refl _)) (by omega)).mono ?_
    rintro e w2 ⟨rfl, rfl⟩
    have he : (check f == check f) = true := by simp
    go_wp2_with fail
    refine (works_any _).mono ?_
    rintro e w3 ⟨rfl, hb3⟩
    go_wp2
    go_ret
    exact ⟨rfl, hb1.trans (hb3.mono hz1)⟩

theorem LtlParts_any (A : Option Addr) (c : Nat) (f : List Nd) (at_ : Int) (w : World) (hf : Sl w w.heap.size 2 A f.length c (ncells f)) (hl : f.length ≤ 9223372036854775807) (hat : -9223372036854775808 ≤ at_ ∧ at_ ≤ 9223372036854775807) :
    Calls Try.prog 4 #[.slice A f.length c, .int .i64 at_] w (Tru w true) := by
  by_cases h : 200 < f.length
  · obtain ⟨hat1, hat2⟩ := hat
    go_enter Try.func4, Try.ntmps4
    go_wp2_with fail
    refine (works_any _).mono ?_
    rintro e w1 ⟨rfl, hb⟩
    go_wp2
    go_ret
    exact ⟨rfl, hb⟩
  · have hK := fun (w : World) (B : Nat) (hf : Sl w B 2 A f.length c (ncells f)) (hB : B ≤ w.heap.size) => Kids_any A c f at_ w B hf hB (by omega) hat
    have hK' := fun (w : World) (B : Nat) (hf : Sl w B 2 A f.length c (ncells f)) (hB : B ≤ w.heap.size) => KidsR_any A c f at_ w B hf hB (by omega) hat
    generalize kids f at_ = p at hK hK'
    obtain ⟨a, b⟩ := p
    have HK := Lib.hid hK
    have HK' := Lib.hid hK'
    clear hK hK' hat
    go_enter Try.func4, Try.ntmps4
    go_wp2_with fail
    refine (HK.out _ _ hf (Nat.le_refl _)).mono ?_
    rintro e w1 ⟨rfl, hb1⟩
    have hz1 := hb1.size
    have hf1 := hf.below hb1 (Nat.le_refl _)
    go_wp2_with fail
    refine (HK'.out _ _ hf1 hz1).mono ?_
    rintro e w2 ⟨rfl, hb2⟩
    have hz2 := hb2.size
    have hf2 := hf1.below hb2 hz1
    go_wp2_with fail
    refine (Spans_any A c f _ _ hf2 (by omega) (by omega)).mono ?_
    rintro e w3 ⟨v3, rfl, hown3, hb3, _⟩
    obtain ⟨A3, c3, rfl, hs3⟩ := own_sl hown3
    have hz3 := hb3.size
    have hf3 := hf2.below hb3 (by omega)
    go_wp2_with fail
    refine (SpansR_any A c f _ _ hf3 (by omega) (by omega)).mono ?_
    rintro e w4 ⟨v4, rfl, hown4, hb4, _⟩
    obtain ⟨A4, c4, rfl, hs4⟩ := own_sl hown4
    have hz4 := hb4.size
    have hsl : (spans f).length ≤ 200 := by by_cases hw : wrong f = 0; rw [spans_len hw]; omega; rw [(spans_nil_iff f).2 hw]; simp
    go_wp2_with fail
    refine (equalInt_any _ _ _ _ _ _ (spans f) (spans f) _ _ _ (hs3.below hb4 (Nat.le_refl _)) hs4 rfl rfl (by omega)).mono ?_
    rintro e w5 ⟨rfl, n5, rfl⟩
    have hd : decide (spans f = spans f) = true := by simp
    have ha : (a == a) = true := by simp
    have hb' : (b == b) = true := by simp
    go_wp2_with fail
    refine (works_any _).mono ?_
    rintro e w6 ⟨rfl, hb6⟩
    go_wp2
    go_ret
    exact ⟨rfl, (((hb1.trans (hb2.mono hz1)).trans (hb3.mono (by omega))).trans (below_drewN (hb4.mono (by omega)) n5)).trans (hb6.mono (by show _ ≤ w4.heap.size; omega))⟩
end Go.Proofs.Ytpjhligbflmeoaa
