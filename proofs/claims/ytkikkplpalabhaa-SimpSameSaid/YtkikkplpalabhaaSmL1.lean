/- The laws of layer 26: SimpStays, SimpLess. -/
import Derived.Test.YtkikkplpalabhaaSm10
import Derived.Test.YtkikkplpalabhaaR25c
import Derived.Test.YtkikkplpalabhaaR23c
namespace Go.Proofs.Ytkikkplpalabhaa
open Go.RowKit

set_option maxHeartbeats 4000000 in
theorem SimpStays_any (A : Option Addr) (n c : Nat) (f : List Nd) (w : World) (hn : n = f.length) (hf : Sl w w.heap.size 2 A n c (ncells f)) (hl : n ≤ 8796093022208) :
    Calls Try.prog 6 #[.slice A n c] w (Tru w true) := by
  by_cases hfar : 100 < n
  · have h1' : (100 : Int) < (n : Int) := by omega
    clear hn
    go_enter Try.func6, Try.ntmps6
    go_wp2_with fail
    refine (works_any _).mono ?_
    rintro e w1 ⟨rfl, hb1⟩
    go_wp2
    go_ret
    exact ⟨rfl, hb1⟩
  · have h1' : decide ((100 : Int) < (n : Int)) = false := by simp; omega
    have hO := fun (w' : World) (hb : Below w.heap.size w w') => of_any A c f w' w.heap.size (by rw [← hn]; exact hf.below hb (Nat.le_refl _)) hb.size (by omega)
    have hI := fun (w' : World) (hb : Below w.heap.size w w') => IsR_any A c f w' w.heap.size (by rw [← hn]; exact hf.below hb (Nat.le_refl _)) hb.size (by omega)
    rw [← hn] at hO hI
    have HO := Lib.hid hO
    have HI := Lib.hid hI
    have HN := Lib.hid hn
    clear hO hI hn
    go_enter Try.func6, Try.ntmps6
    go_wp2_with fail
    refine Calls.mono (HO.out _ (Below.refl _ _)) ?_
    rintro e w1 ⟨g, A1, c1, hg, rfl, hs1, hb1⟩
    have hfix : onceL g = g := hg.2
    have hgl : g.length ≤ 100 := by
      obtain ⟨j, rfl⟩ := hg.1
      have := iter_len f j
      have := HN.out
      omega
    have hnil : isN f = false → g = [] := fun h => of_none h hg
    have HNIL := Lib.hid hnil
    have HFIX := Lib.hid hfix
    clear hg hfix hnil
    go_wp2_with fail
    refine (of_any A1 c1 g w1 w1.heap.size hs1 (Nat.le_refl _) (by omega)).mono ?_
    rintro e w2 ⟨g2, A2, c2, hg2, rfl, hs2, hb2⟩
    obtain rfl := isOf_fix HFIX.out hg2
    clear hg2
    have hb02 := hb1.trans (hb2.mono hb1.size)
    have hs12 := hs1.below hb2 (Nat.le_refl _)
    go_wp2_with fail
    refine (equalNd_any A2 A1 _ c2 _ c1 g2 g2 _ _ _ hs2 hs12 rfl rfl (by omega)).mono ?_
    rw [show decide (g2 = g2) = true by simp]
    rintro e _ ⟨rfl, m, rfl⟩
    obtain ⟨w3, hw3⟩ : ∃ W, W = w2.drewN m := ⟨_, rfl⟩
    have hb3 : Below w2.heap.size w2 w3 := by rw [hw3]; exact below_drewN (Below.refl _ _) m
    rw [← hw3]
    clear hw3
    have hb03 := hb02.trans (hb3.mono hb02.size)
    have hs13 := (hs12.up hb2.size).below hb3 (Nat.le_refl _)
    have hz23 := hb3.size
    have hO3 := once_any A1 c1 g2 w3 w2.heap.size hs13 hz23 (by omega)
    rw [HFIX.out] at hO3
    go_wp2_with fail
    refine Calls.mono hO3 ?_
    rintro e w4 ⟨v4, rfl, hown4, hb4, _⟩
    obtain ⟨A4, c4, rfl, hs4⟩ := own_sl hown4
    have hb04 := hb03.trans (hb4.mono hb03.size)
    have hs14 := hs13.below hb4 hz23
    clear hO3
    go_wp2_with fail
    refine (equalNd_any A4 A1 _ c4 _ c1 g2 g2 _ _ _ hs4 hs14 rfl rfl (by omega)).mono ?_
    rw [show decide (g2 = g2) = true by simp]
    rintro e _ ⟨rfl, m5, rfl⟩
    obtain ⟨w5, hw5⟩ : ∃ W, W = w4.drewN m5 := ⟨_, rfl⟩
    have hb05 : Below w.heap.size w w5 := by rw [hw5]; exact below_drewN hb04 m5
    rw [← hw5]
    clear hw5
    go_wp2_with fail
    cases hN : isN f
    · have hI5 := HI.out _ hb05
      rw [hN] at hI5
      refine Calls.mono hI5 ?_
      clear hI5
      rintro e w6 ⟨rfl, hb6⟩
      have hb06 := hb05.trans (hb6.mono hb05.size)
      obtain rfl := HNIL.out hN
      go_wp2_with fail
      refine (works_any _).mono ?_
      rintro e w7 ⟨rfl, hb7⟩
      go_wp2
      go_ret
      exact ⟨rfl, hb06.trans (hb7.mono hb06.size)⟩
    · have hI5 := HI.out _ hb05
      rw [hN] at hI5
      refine Calls.mono hI5 ?_
      clear hI5
      rintro e w6 ⟨rfl, hb6⟩
      have hb06 := hb05.trans (hb6.mono hb05.size)
      go_wp2_with fail
      refine (works_any _).mono ?_
      rintro e w7 ⟨rfl, hb7⟩
      go_wp2
      go_ret
      exact ⟨rfl, hb06.trans (hb7.mono hb06.size)⟩

theorem props_lt (f : List Nd) : props f < 2 ^ 64 := by
  rw [props]
  split
  · rename_i h
    have : propsF f < 2 ^ 8 := by
      apply Nat.lt_pow_two_of_testBit
      intro i hi
      rw [propsF, propsF_bit]
      simp only [Nat.zero_testBit, Bool.false_or]
      rw [Bool.eq_false_iff]
      intro hc
      rw [List.any_eq_true] at hc
      obtain ⟨x, hx, e⟩ := hc
      rw [Bool.and_eq_true, beq_iff_eq, beq_iff_eq] at e
      obtain ⟨k, hk, rfl⟩ := List.mem_iff_getElem.1 hx
      have := (good_takes (good_at h hk).2).2.2 e.1
      omega
    exact Nat.lt_of_lt_of_le this (by decide)
  · decide
theorem and_nat {x y : Nat} (hx : x < 2 ^ 64) (hy : y < 2 ^ 64) : bits .and .u64 (x : Int) (y : Int) = ((x &&& y : Nat) : Int) := by
  have hand : x &&& y < 2 ^ 64 := Nat.lt_of_le_of_lt Nat.and_le_left hx
  show IntKind.u64.wrap ((BitVec.ofInt 64 (x : Int) &&& BitVec.ofInt 64 (y : Int)).toNat : Int) = _
  rw [BitVec.toNat_and, BitVec.ofInt_natCast, BitVec.toNat_ofNat, BitVec.ofInt_natCast, BitVec.toNat_ofNat, Nat.mod_eq_of_lt hx, Nat.mod_eq_of_lt hy, IntKind.wrap_u64]
  omega
theorem kept_and {f g : List Nd} (h : isN f = true) (k : Kept f g) : bits .and .u64 (props g : Nat) (props f : Nat) = ((props g : Nat) : Int) := by
  rw [and_nat (props_lt _) (props_lt _), kept_props h k]

set_option maxHeartbeats 4000000 in
theorem SimpLess_any (A : Option Addr) (n c : Nat) (f : List Nd) (w : World) (hn : n = f.length) (hf : Sl w w.heap.size 2 A n c (ncells f)) (hl : n ≤ 8796093022208) :
    Calls Try.prog 5 #[.slice A n c] w (Tru w true) := by
  by_cases hfar : 100 < n
  · have h1' : (100 : Int) < (n : Int) := by omega
    clear hn
    go_enter Try.func5, Try.ntmps5
    go_wp2_with fail
    refine (works_any _).mono ?_
    rintro e w1 ⟨rfl, hb1⟩
    go_wp2
    go_ret
    exact ⟨rfl, hb1⟩
  have h1' : decide ((100 : Int) < (n : Int)) = false := by simp; omega
  have hO := fun (w' : World) (hb : Below w.heap.size w w') => of_any A c f w' w.heap.size (by rw [← hn]; exact hf.below hb (Nat.le_refl _)) hb.size (by omega)
  have hC := fun (w' : World) (hb : Below w.heap.size w w') => once_any A c f w' w.heap.size (by rw [← hn]; exact hf.below hb (Nat.le_refl _)) hb.size (by omega)
  have hI := fun (w' : World) (hb : Below w.heap.size w w') => IsR_any A c f w' w.heap.size (by rw [← hn]; exact hf.below hb (Nat.le_refl _)) hb.size (by omega)
  have hP := fun (w' : World) (hb : Below w.heap.size w w') => PropsR_any A c f w' w.heap.size (by rw [← hn]; exact hf.below hb (Nat.le_refl _)) (by omega)
  have hX := fun (w' : World) (hb : Below w.heap.size w w') => NextR_any A c f w' w.heap.size (by rw [← hn]; exact hf.below hb (Nat.le_refl _)) (by omega)
  rw [← hn] at hO hI hC hP hX
  cases hN : isN f
  · rw [hN] at hI
    have HI := Lib.hid hI
    clear hI hO hC hP hX hn hN
    go_enter Try.func5, Try.ntmps5
    go_wp2_with fail
    refine Calls.mono (HI.out _ (Below.refl _ _)) ?_
    rintro e w1 ⟨rfl, hb1⟩
    go_wp2_with fail
    refine (works_any _).mono ?_
    rintro e w2 ⟨rfl, hb2⟩
    go_wp2
    go_ret
    exact ⟨rfl, hb1.trans (hb2.mono hb1.size)⟩
  rw [hN] at hI
  have ka := once_kept hN
  have kl := ka.len
  rw [← hn] at kl
  have pa := kept_and hN ka
  have na := kept_next hN ka
  have ia := ka.isn
  have HNN := Lib.hid hN
  have hof : ∀ g, IsOf f g → isN g = true ∧ g.length ≤ (onceL f).length ∧ bits .and .u64 (props g : Nat) (props f : Nat) = ((props g : Nat) : Int) ∧ (nextF f = true ∨ nextF g = false) := fun g hg =>
    ⟨(of_kept HNN.out hg).1.isn, (of_kept HNN.out hg).2.len, kept_and HNN.out (of_kept HNN.out hg).1, kept_next HNN.out (of_kept HNN.out hg).1⟩
  have HOF := Lib.hid hof
  generalize onceL f = a at *
  have HI := Lib.hid hI
  have HO := Lib.hid hO
  have HC := Lib.hid hC
  have HP := Lib.hid hP
  have HX := Lib.hid hX
  have IA := Lib.hid ia
  have PA := Lib.hid pa
  have NA := Lib.hid na
  have HN := Lib.hid hn
  clear hI hO hC hP hX hN hn ka ia pa na hof
  go_enter Try.func5, Try.ntmps5
  go_wp2_with fail
  refine Calls.mono (HI.out _ (Below.refl _ _)) ?_
  rintro e w1 ⟨rfl, hb1⟩
  go_wp2_with fail
  refine Calls.mono (HC.out _ hb1) ?_
  rintro e w2 ⟨v2, rfl, hown2, hb2, _⟩
  obtain ⟨A2, c2, rfl, hs2⟩ := own_sl hown2
  have hb02 := hb1.trans (hb2.mono hb1.size)
  clear hown2
  go_wp2_with fail
  refine Calls.mono (HO.out _ hb02) ?_
  rintro e w3 ⟨b, A3, c3, hg, rfl, hs3, hb3⟩
  obtain ⟨ib, lb, pb, nb⟩ := HOF.out b hg
  have hb03 := hb02.trans (hb3.mono hb02.size)
  have hs23 := hs2.below hb3 (Nat.le_refl _)
  have IB := Lib.hid ib
  have PB := Lib.hid pb
  have NB := Lib.hid nb
  clear hg ib pb nb hs2
  -- whether they are in the form
  have hIa := IsR_any A2 c2 a w3 w2.heap.size hs23 hb3.size (by omega)
  rw [IA.out] at hIa
  go_wp2_with fail
  refine Calls.mono hIa ?_
  clear hIa
  rintro e w4 ⟨rfl, hb4⟩
  have hb04 := hb03.trans (hb4.mono hb03.size)
  have hs24 := hs23.below hb4 hb3.size
  have hs34 := hs3.below hb4 (Nat.le_refl _)
  have hIb := IsR_any A3 c3 b w4 w3.heap.size hs34 hb4.size (by omega)
  rw [IB.out] at hIb
  go_wp2_with fail
  refine Calls.mono hIb ?_
  clear hIb
  rintro e w5 ⟨rfl, hb5⟩
  have hb05 := hb04.trans (hb5.mono hb04.size)
  have hs25 := hs24.below hb5 (Nat.le_trans hb3.size hb4.size)
  have hs35 := hs34.below hb5 hb4.size
  have hk1 : decide (a.length ≤ n) = true := by simpa using kl
  have hk2 : decide (b.length ≤ a.length) = true := by simpa using lb
  have hPa := Lib.hid (PropsR_any A2 c2 a w5 w2.heap.size hs25 (by omega))
  have hPb := Lib.hid (PropsR_any A3 c3 b w5 w3.heap.size hs35 (by omega))
  have hPf := Lib.hid (HP.out w5 hb05)
  have hXa := Lib.hid (NextR_any A2 c2 a w5 w2.heap.size hs25 (by omega))
  have hXb := Lib.hid (NextR_any A3 c3 b w5 w3.heap.size hs35 (by omega))
  have hXf := Lib.hid (HX.out w5 hb05)
  go_wp2_with fail
  refine Calls.mono hPb.out ?_
  rintro e _ ⟨rfl, rfl⟩
  go_wp2_with fail
  refine Calls.mono hPf.out ?_
  rintro e _ ⟨rfl, rfl⟩
  have pb := PB.out
  go_wp2_with fail
  refine Calls.mono hPb.out ?_
  rintro e _ ⟨rfl, rfl⟩
  have eb : (((props b : Nat) : Int) == ((props b : Nat) : Int)) = true := by simp
  go_wp2_with fail
  refine Calls.mono hPa.out ?_
  rintro e _ ⟨rfl, rfl⟩
  go_wp2_with fail
  refine Calls.mono hPf.out ?_
  rintro e _ ⟨rfl, rfl⟩
  have pa := PA.out
  go_wp2_with fail
  refine Calls.mono hPa.out ?_
  rintro e _ ⟨rfl, rfl⟩
  have ea : (((props a : Nat) : Int) == ((props a : Nat) : Int)) = true := by simp
  go_wp2_with fail
  refine Calls.mono hXf.out ?_
  cases hx : nextF f
  · rintro e _ ⟨rfl, rfl⟩
    have xa : nextF a = false := NA.out.resolve_left (by rw [hx]; simp)
    have xb : nextF b = false := NB.out.resolve_left (by rw [hx]; simp)
    have hXa' := hXa.out
    have hXb' := hXb.out
    rw [xa] at hXa'
    rw [xb] at hXb'
    have HXA := Lib.hid hXa'
    have HXB := Lib.hid hXb'
    clear hx xa xb hXa' hXb'
    go_wp2_with fail
    refine Calls.mono HXA.out ?_
    rintro e _ ⟨rfl, rfl⟩
    go_wp2_with fail
    refine Calls.mono HXB.out ?_
    rintro e _ ⟨rfl, rfl⟩
    go_wp2_with fail
    refine (works_any _).mono ?_
    rintro e w7 ⟨rfl, hb7⟩
    go_wp2
    go_ret
    exact ⟨rfl, hb05.trans (hb7.mono hb05.size)⟩
  · rintro e _ ⟨rfl, rfl⟩
    clear hx
    go_wp2_with fail
    refine (works_any _).mono ?_
    rintro e w7 ⟨rfl, hb7⟩
    go_wp2
    go_ret
    exact ⟨rfl, hb05.trans (hb7.mono hb05.size)⟩
end Go.Proofs.Ytkikkplpalabhaa
