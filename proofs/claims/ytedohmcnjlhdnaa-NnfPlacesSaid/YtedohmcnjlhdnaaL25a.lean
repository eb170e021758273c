/- The walks of the laws of layer 25: the example, NnfIs, NnfOf, NnfStays, NnfNots. -/
import Derived.Test.YtedohmcnjlhdnaaNnf3
import Derived.Test.YtedohmcnjlhdnaaR25d
import Derived.Test.YtedohmcnjlhdnaaSameN
namespace Go.Proofs.Ytedohmcnjlhdnaa
open Go.RowKit

def exN : List Nd := [⟨3, 0⟩, ⟨12, 0⟩, ⟨4, 0⟩]
def exM : List Nd := [⟨1, 0⟩, ⟨3, 0⟩, ⟨4, 0⟩, ⟨9, 0⟩]
theorem exForm : formL exN true = exM := by decide
theorem exIs : isN exM = true := by decide

set_option maxHeartbeats 1000000 in
theorem lives_any (w : World) : Calls Try.prog 14 #[] w (Tru w true) := by
  have hW : (w.alloc (.cells #[.int .i64 3, .int .i64 0, .int .i64 12, .int .i64 0, .int .i64 4, .int .i64 0] 38)).ownsRow w.heap.size 38 2 (.slice (some ⟨w.heap.size, 0, none⟩) 3 3) 3 (ncells exN) :=
    World.ownsRow_lit w _ 3 (Nat.le_refl _) (by unfold maxLen; omega) rfl
  obtain ⟨A0, c0, e0, hs0⟩ := own_sl hW
  cases e0
  have hb0 : Below w.heap.size w (w.alloc (.cells #[.int .i64 3, .int .i64 0, .int .i64 12, .int .i64 0, .int .i64 4, .int .i64 0] 38)) := (Below.refl _ _).alloc (Nat.le_refl _) _
  have hz0 := hb0.size
  go_enter Try.func14, Try.ntmps14
  go_wp2_with fail
  have hO := Of_any _ 3 exN _ _ hs0 (Nat.le_refl _) (by decide)
  rw [exForm] at hO
  refine Calls.mono hO ?_
  rintro e w1 ⟨v1, rfl, hown1, hb1, _⟩
  obtain ⟨A1, c1, rfl, hs1⟩ := own_sl hown1
  have hz1 := hb1.size
  go_wp2_with fail
  obtain ⟨A2, c2, e2, hs2⟩ := own_sl (World.ownsRow_lit (base := w1.heap.size) (e := 38) (size := 2) w1 #[.int .i64 1, .int .i64 0, .int .i64 3, .int .i64 0, .int .i64 4, .int .i64 0, .int .i64 9, .int .i64 0] 4 (Nat.le_refl _) (by unfold maxLen; omega) rfl)
  cases e2
  have hb2 : Below w1.heap.size w1 (w1.alloc (.cells #[.int .i64 1, .int .i64 0, .int .i64 3, .int .i64 0, .int .i64 4, .int .i64 0, .int .i64 9, .int .i64 0] 38)) := (Below.refl _ _).alloc (Nat.le_refl _) _
  refine (sameNd_any _ _ 4 c1 4 4 exM exM _ _ _ (hs1.below hb2 (Nat.le_refl _)) hs2 rfl rfl (by omega)).mono ?_
  rintro e w3 ⟨rfl, n3, rfl⟩
  have hd3 : decide (exM = exM) = true := by simp
  have hb3 := below_drewN hb2 n3
  have hs3 := hs1.below hb3 (Nat.le_refl _)
  have hz3 := hb3.size
  generalize ((w1.alloc (.cells #[.int .i64 1, .int .i64 0, .int .i64 3, .int .i64 0, .int .i64 4, .int .i64 0, .int .i64 9, .int .i64 0] 38)).drewN n3) = w3 at *
  go_wp2_with fail
  have hI := Is_any _ c1 exM w3 _ hs3 hz3 (by decide)
  rw [exIs] at hI
  refine Calls.mono hI ?_
  rintro e w4 ⟨rfl, hb4⟩
  go_wp2
  go_ret
  exact ⟨rfl, ((hb0.trans (hb1.mono hz0)).trans (hb3.mono (by omega))).trans (hb4.mono (by omega))⟩

set_option maxHeartbeats 1000000 in
theorem NnfIs_any (A : Option Addr) (c : Nat) (f : List Nd) (w : World) (hf : Sl w w.heap.size 2 A f.length c (ncells f)) (hl : f.length ≤ 9223372036854775807) :
    Calls Try.prog 3 #[.slice A f.length c] w (Tru w true) := by
  by_cases h : 500 < f.length
  · go_enter Try.func3, Try.ntmps3
    go_wp2_with fail
    refine (lives_any _).mono ?_
    rintro e w1 ⟨rfl, hb⟩
    go_wp2
    go_ret
    exact ⟨rfl, hb⟩
  · have hI := fun (w : World) (B : Nat) (hf : Sl w B 2 A f.length c (ncells f)) (hB : B ≤ w.heap.size) => Is_any A c f w B hf hB (by omega)
    have hI' := fun (w : World) (B : Nat) (hf : Sl w B 2 A f.length c (ncells f)) (hB : B ≤ w.heap.size) => IsR_any A c f w B hf hB (by omega)
    generalize isN f = q at hI hI'
    have HI := Lib.hid hI
    have HI' := Lib.hid hI'
    clear hI hI'
    have hqq : (q == q) = true := by simp
    go_enter Try.func3, Try.ntmps3
    go_wp2_with fail
    refine (HI.out _ _ hf (Nat.le_refl _)).mono ?_
    rintro e w1 ⟨rfl, hb1⟩
    have hz1 := hb1.size
    go_wp2_with fail
    refine (HI'.out _ _ (hf.below hb1 (Nat.le_refl _)) hz1).mono ?_
    rintro e w2 ⟨rfl, hb2⟩
    have hz2 := hb2.size
    go_wp2_with fail
    refine (lives_any _).mono ?_
    rintro e w3 ⟨rfl, hb3⟩
    go_wp2
    go_ret
    exact ⟨rfl, (hb1.trans (hb2.mono hz1)).trans (hb3.mono (by omega))⟩

/-- Two calls that answer the same list, and Same of both. -/
theorem below_len {w w' : World} {n : Nat} (h : w' = w.drewN n) : Below w.heap.size w w' := by subst h; exact below_drewN (Below.refl _ _) n

set_option maxHeartbeats 1000000 in
theorem NnfOf_any (A : Option Addr) (c : Nat) (f : List Nd) (w : World) (hf : Sl w w.heap.size 2 A f.length c (ncells f)) (hl : f.length ≤ 9223372036854775807) :
    Calls Try.prog 5 #[.slice A f.length c] w (Tru w true) := by
  by_cases h : 500 < f.length
  · go_enter Try.func5, Try.ntmps5
    go_wp2_with fail
    refine (lives_any _).mono ?_
    rintro e w1 ⟨rfl, hb⟩
    go_wp2
    go_ret
    exact ⟨rfl, hb⟩
  · have h1 := formL_len f true
    have h2 := formL_len f false
    have d1 : decide (formL f true = formL f true) = true := by simp
    have d2 : decide (formL f false = formL f false) = true := by simp
    go_enter Try.func5, Try.ntmps5
    go_wp2_with fail
    refine (Of_any A c f _ _ hf (Nat.le_refl _) (by omega)).mono ?_
    rintro e w1 ⟨v1, rfl, hown1, hb1, _⟩
    obtain ⟨A1, c1, rfl, hs1⟩ := own_sl hown1
    have hz1 := hb1.size
    have hf1 := hf.below hb1 (Nat.le_refl _)
    go_wp2_with fail
    refine (OfR_any A c f _ _ hf1 hz1 (by omega)).mono ?_
    rintro e w2 ⟨v2, rfl, hown2, hb2, _⟩
    obtain ⟨A2, c2, rfl, hs2⟩ := own_sl hown2
    have hz2 := hb2.size
    have hf2 := hf1.below hb2 hz1
    go_wp2_with fail
    refine (sameNd_any _ _ _ _ _ _ (formL f true) (formL f true) _ _ _ (hs1.below hb2 (Nat.le_refl _)) hs2 rfl rfl (by omega)).mono ?_
    rintro e w3 ⟨rfl, n3, hw3⟩
    have hb3 := below_len hw3
    clear hw3
    have hz3 := hb3.size
    have hf3 := hf2.below hb3 (by omega)
    go_wp2_with fail
    refine (Dual_any A c f _ _ hf3 (by omega) (by omega)).mono ?_
    rintro e w4 ⟨v4, rfl, hown4, hb4, _⟩
    obtain ⟨A4, c4, rfl, hs4⟩ := own_sl hown4
    have hz4 := hb4.size
    have hf4 := hf3.below hb4 (by omega)
    go_wp2_with fail
    refine (DualR_any A c f _ _ hf4 (by omega) (by omega)).mono ?_
    rintro e w5 ⟨v5, rfl, hown5, hb5, _⟩
    obtain ⟨A5, c5, rfl, hs5⟩ := own_sl hown5
    have hz5 := hb5.size
    go_wp2_with fail
    refine (sameNd_any _ _ _ _ _ _ (formL f false) (formL f false) _ _ _ (hs4.below hb5 (Nat.le_refl _)) hs5 rfl rfl (by omega)).mono ?_
    rintro e w6 ⟨rfl, n6, hw6⟩
    have hb6 := below_len hw6
    clear hw6
    have hz6 := hb6.size
    go_wp2_with fail
    refine (lives_any _).mono ?_
    rintro e w7 ⟨rfl, hb7⟩
    go_wp2
    go_ret
    exact ⟨rfl, (((((hb1.trans (hb2.mono hz1)).trans (hb3.mono (by omega))).trans (hb4.mono (by omega))).trans (hb5.mono (by omega))).trans (hb6.mono (by omega))).trans (hb7.mono (by omega))⟩

set_option maxHeartbeats 2000000 in
theorem NnfStays_any (A : Option Addr) (c : Nat) (f : List Nd) (w : World) (hf : Sl w w.heap.size 2 A f.length c (ncells f)) (hl : f.length ≤ 8796093022208) :
    Calls Try.prog 6 #[.slice A f.length c] w (Tru w true) := by
  go_enter Try.func6, Try.ntmps6
  go_wp2_with fail
  refine (Begins_any A c f _ _ hf (Nat.le_refl _) hl).mono ?_
  rintro e w0 ⟨v0, rfl, hown0, hb0, _⟩
  clear hown0
  have hz0 := hb0.size
  have hf0 := hf.below hb0 (Nat.le_refl _)
  by_cases hw : wrong f = 0
  · have hw' : (wrong f == 0) = true := by simp [hw]
    by_cases h : 200 < f.length
    · clear hw
      go_wp2_with fail
      refine (lives_any _).mono ?_
      rintro e w1 ⟨rfl, hb⟩
      go_wp2
      go_ret
      exact ⟨rfl, hb0.trans (hb.mono hz0)⟩
    · have h1 := formL_len f true
      have h2 := formL_len f false
      have hOF := fun (w : World) (B : Nat) (hf : Sl w B 2 A f.length c (ncells f)) (hB : B ≤ w.heap.size) => Of_any A c f w B hf hB (by omega)
      have hDF := fun (w : World) (B : Nat) (hf : Sl w B 2 A f.length c (ncells f)) (hB : B ≤ w.heap.size) => Dual_any A c f w B hf hB (by omega)
      have i1 := (formL_good hw true).2
      have i2 := (formL_good hw false).2
      have o1 : formL (formL f true) true = formL f true := formL_formL hw true true
      have o2 : formL (formL f false) true = formL f false := formL_formL hw false true
      have o3 : formL (formL f false) false = formL f true := formL_formL hw false false
      have o4 : formL (formL f true) false = formL f false := formL_formL hw true false
      generalize formL f true = a at *
      generalize formL f false = b at *
      have hIA := fun (A1 : Option Addr) (c1 : Nat) (w : World) (B : Nat) (hs : Sl w B 2 A1 a.length c1 (ncells a)) (hB : B ≤ w.heap.size) => Is_any A1 c1 a w B hs hB (by omega)
      rw [i1] at hIA
      have hIB := fun (A1 : Option Addr) (c1 : Nat) (w : World) (B : Nat) (hs : Sl w B 2 A1 b.length c1 (ncells b)) (hB : B ≤ w.heap.size) => Is_any A1 c1 b w B hs hB (by omega)
      rw [i2] at hIB
      have hOA := fun (A1 : Option Addr) (c1 : Nat) (w : World) (B : Nat) (hs : Sl w B 2 A1 a.length c1 (ncells a)) (hB : B ≤ w.heap.size) => Of_any A1 c1 a w B hs hB (by omega)
      rw [o1] at hOA
      have hOB := fun (A1 : Option Addr) (c1 : Nat) (w : World) (B : Nat) (hs : Sl w B 2 A1 b.length c1 (ncells b)) (hB : B ≤ w.heap.size) => Of_any A1 c1 b w B hs hB (by omega)
      rw [o2] at hOB
      have hDB := fun (A1 : Option Addr) (c1 : Nat) (w : World) (B : Nat) (hs : Sl w B 2 A1 b.length c1 (ncells b)) (hB : B ≤ w.heap.size) => Dual_any A1 c1 b w B hs hB (by omega)
      rw [o3] at hDB
      have hDA := fun (A1 : Option Addr) (c1 : Nat) (w : World) (B : Nat) (hs : Sl w B 2 A1 a.length c1 (ncells a)) (hB : B ≤ w.heap.size) => Dual_any A1 c1 a w B hs hB (by omega)
      rw [o4] at hDA
      have HOF := Lib.hid hOF
      have HDF := Lib.hid hDF
      have HIA := Lib.hid hIA
      have HIB := Lib.hid hIB
      have HOA := Lib.hid hOA
      have HOB := Lib.hid hOB
      have HDB := Lib.hid hDB
      have HDA := Lib.hid hDA
      clear hOF hDF hIA hIB hOA hOB hDB hDA i1 i2 o1 o2 o3 o4 hw
      have da : decide (a = a) = true := by simp
      have db : decide (b = b) = true := by simp
      go_wp2_with fail
      refine Calls.mono (HOF.out _ _ hf0 hz0) ?_
      rintro e w1 ⟨v1, rfl, hown1, hb1, _⟩
      obtain ⟨A1, c1, rfl, hs1⟩ := own_sl hown1
      have hz1 := hb1.size
      have hf1 := hf0.below hb1 hz0
      go_wp2_with fail
      refine Calls.mono (HDF.out _ _ hf1 (by omega)) ?_
      rintro e w2 ⟨v2, rfl, hown2, hb2, _⟩
      obtain ⟨A2, c2, rfl, hs2⟩ := own_sl hown2
      have hz2 := hb2.size
      have ha2 := hs1.below hb2 (Nat.le_refl _)
      go_wp2_with fail
      refine Calls.mono (HIA.out _ _ _ _ ha2 (by omega)) ?_
      rintro e w3 ⟨rfl, hb3⟩
      have hz3 := hb3.size
      have ha3 := ha2.below hb3 (by omega)
      have hb3' := hs2.below hb3 (Nat.le_refl _)
      go_wp2_with fail
      refine Calls.mono (HIB.out _ _ _ _ hb3' hz3) ?_
      rintro e w4 ⟨rfl, hb4⟩
      have hz4 := hb4.size
      have ha4 := ha3.below hb4 (by omega)
      have hb4' := hb3'.below hb4 (by omega)
      have hx1 : ¬ (2 * (f.length : Int) < (a.length : Int)) := by omega
      have hx2 : ¬ (2 * (f.length : Int) < (b.length : Int)) := by omega
      go_wp2_with fail
      refine Calls.mono (HOA.out _ _ _ _ ha4 (by omega)) ?_
      rintro e w5 ⟨v5, rfl, hown5, hb5, _⟩
      obtain ⟨A5, c5, rfl, hs5⟩ := own_sl hown5
      have hz5 := hb5.size
      have ha5 := ha4.below hb5 (by omega)
      have hb5' := hb4'.below hb5 (by omega)
      go_wp2_with fail
      refine (sameNd_any _ _ _ _ _ _ a a _ _ _ hs5 ha5 rfl rfl (by omega)).mono ?_
      rintro e w6 ⟨rfl, n6, hw6⟩
      have hb6 := below_len hw6
      clear hw6
      have hz6 := hb6.size
      have ha6 := ha5.below hb6 (by omega)
      have hb6' := hb5'.below hb6 (by omega)
      go_wp2_with fail
      refine Calls.mono (HOB.out _ _ _ _ hb6' (by omega)) ?_
      rintro e w7 ⟨v7, rfl, hown7, hb7, _⟩
      obtain ⟨A7, c7, rfl, hs7⟩ := own_sl hown7
      have hz7 := hb7.size
      have ha7 := ha6.below hb7 (by omega)
      have hb7' := hb6'.below hb7 (by omega)
      go_wp2_with fail
      refine (sameNd_any _ _ _ _ _ _ b b _ _ _ hs7 hb7' rfl rfl (by omega)).mono ?_
      rintro e w8 ⟨rfl, n8, hw8⟩
      have hb8 := below_len hw8
      clear hw8
      have hz8 := hb8.size
      have ha8 := ha7.below hb8 (by omega)
      have hb8' := hb7'.below hb8 (by omega)
      go_wp2_with fail
      refine Calls.mono (HDB.out _ _ _ _ hb8' (by omega)) ?_
      rintro e w9 ⟨v9, rfl, hown9, hb9, _⟩
      obtain ⟨A9, c9, rfl, hs9⟩ := own_sl hown9
      have hz9 := hb9.size
      have ha9 := ha8.below hb9 (by omega)
      have hb9' := hb8'.below hb9 (by omega)
      go_wp2_with fail
      refine (sameNd_any _ _ _ _ _ _ a a _ _ _ hs9 ha9 rfl rfl (by omega)).mono ?_
      rintro e wA ⟨rfl, nA, hwA⟩
      have hbA := below_len hwA
      clear hwA
      have hzA := hbA.size
      have haA := ha9.below hbA (by omega)
      have hbA' := hb9'.below hbA (by omega)
      go_wp2_with fail
      refine Calls.mono (HDA.out _ _ _ _ haA (by omega)) ?_
      rintro e wB ⟨vB, rfl, hownB, hbB, _⟩
      obtain ⟨AB, cB, rfl, hsB⟩ := own_sl hownB
      have hzB := hbB.size
      have hbB' := hbA'.below hbB (by omega)
      go_wp2_with fail
      refine (sameNd_any _ _ _ _ _ _ b b _ _ _ hsB hbB' rfl rfl (by omega)).mono ?_
      rintro e wC ⟨rfl, nC, hwC⟩
      have hbC := below_len hwC
      clear hwC
      have hzC := hbC.size
      go_wp2_with fail
      refine (lives_any _).mono ?_
      rintro e wD ⟨rfl, hbD⟩
      go_wp2
      go_ret
      have k1 := (hb0.trans (hb1.mono hz0)).trans (hb2.mono (by omega))
      have k2 := ((k1.trans (hb3.mono (by omega))).trans (hb4.mono (by omega))).trans (hb5.mono (by omega))
      have k3 := ((k2.trans (hb6.mono (by omega))).trans (hb7.mono (by omega))).trans (hb8.mono (by omega))
      have k4 := ((k3.trans (hb9.mono (by omega))).trans (hbA.mono (by omega))).trans (hbB.mono (by omega))
      exact ⟨rfl, (k4.trans (hbC.mono (by omega))).trans (hbD.mono (by omega))⟩
  · have hw' : (wrong f == 0) = false := by simpa using hw
    clear hw
    go_wp2_with fail
    refine (lives_any _).mono ?_
    rintro e w1 ⟨rfl, hb⟩
    go_wp2
    go_ret
    exact ⟨rfl, hb0.trans (hb.mono hz0)⟩

set_option maxHeartbeats 2000000 in
theorem NnfNots_any (A : Option Addr) (c : Nat) (f : List Nd) (w : World) (hf : Sl w w.heap.size 2 A f.length c (ncells f)) (hl : f.length ≤ 8796093022208) :
    Calls Try.prog 8 #[.slice A f.length c] w (Tru w true) := by
  have hmb : ∀ w : World, (w.alloc (.cells #[] 38)).ownsRow w.heap.size 38 2 (.slice (some ⟨w.heap.size, 0, none⟩) 0 0) 0 [] :=
    fun w => World.ownsRow_made w #[] 0 (Nat.le_refl _) (by unfold maxLen; omega) (by simp)
  go_enter Try.func8, Try.ntmps8
  go_wp2_with fail
  refine (Begins_any A c f _ _ hf (Nat.le_refl _) hl).mono ?_
  rintro e w0 ⟨v0, rfl, hown0, hb0, _⟩
  clear hown0
  have hz0 := hb0.size
  have hf0 := hf.below hb0 (Nat.le_refl _)
  by_cases hw : wrong f = 0
  · have hw' : (wrong f == 0) = true := by simp [hw]
    by_cases h : 200 < f.length
    · clear hw
      go_wp2_with fail
      refine (lives_any _).mono ?_
      rintro e w1 ⟨rfl, hb⟩
      go_wp2
      go_ret
      exact ⟨rfl, hb0.trans (hb.mono hz0)⟩
    · have h1 := formL_len f true
      have h2 := formL_len f false
      have p2 := formL_pos hw false
      have hOF := fun (w : World) (B : Nat) (hf : Sl w B 2 A f.length c (ncells f)) (hB : B ≤ w.heap.size) => Of_any A c f w B hf hB (by omega)
      have hDF := fun (w : World) (B : Nat) (hf : Sl w B 2 A f.length c (ncells f)) (hB : B ≤ w.heap.size) => Dual_any A c f w B hf hB (by omega)
      have o1 := formL_neg hw true
      have o2 := formL_neg hw false
      simp only [Bool.not_true, Bool.not_false] at o1 o2
      have hgl : (f ++ [(⟨4, 0⟩ : Nd)]).length = f.length + 1 := by simp
      have hOG := fun (A1 : Option Addr) (c1 : Nat) (w : World) (B : Nat) (hs : Sl w B 2 A1 (f ++ [(⟨4, 0⟩ : Nd)]).length c1 (ncells (f ++ [⟨4, 0⟩]))) (hB : B ≤ w.heap.size) => Of_any A1 c1 (f ++ [⟨4, 0⟩]) w B hs hB (by omega)
      have hDG := fun (A1 : Option Addr) (c1 : Nat) (w : World) (B : Nat) (hs : Sl w B 2 A1 (f ++ [(⟨4, 0⟩ : Nd)]).length c1 (ncells (f ++ [⟨4, 0⟩]))) (hB : B ≤ w.heap.size) => Dual_any A1 c1 (f ++ [⟨4, 0⟩]) w B hs hB (by omega)
      rw [o1] at hOG
      rw [o2] at hDG
      rw [hgl] at hOG hDG
      generalize formL f true = a at *
      generalize formL f false = b at *
      have HOF := Lib.hid hOF
      have HDF := Lib.hid hDF
      have HOG := Lib.hid hOG
      have HDG := Lib.hid hDG
      clear hOF hDF hOG hDG o1 o2 hw hgl
      have da : decide (a = a) = true := by simp
      have db : decide (b = b) = true := by simp
      go_wp2_with (first | (at_builtin; refine wpList_extend rfl (.tmp 19) (.tmp 20) 22 rfl w0.heap.size 38 2 16 sliceNd _ _ _ (hmb w0) rfl w.heap.size A f.length c (ncells f) rfl (hf0.below ((Below.refl w0.heap.size w0).alloc (Nat.le_refl _) _) hz0) (ncells_one f) (by omega) (by omega) (by simp) ?_; intro v2 w2 hown2 ht2 hat2 hnil2; have hs2 := ht2.size; simp only [World.size_alloc] at hs2) | (at_builtin; refine wpList_push rfl (.tmp 21) (.tmp 23) 22 rfl w0.heap.size 38 2 16 sliceNd _ _ _ (hown2.alloc _) rfl w2.heap.size #[.int .i64 4, .int .i64 0] rfl (heap_alloc_new w2 _) rfl (by simp [Value.oneCell']) (by omega) (by omega) (by simp; omega) ?_; intro v3 w3 hown3 ht3 hat3 hne3; rw [Nat.zero_add] at hown3; obtain ⟨A3, c3, rfl, hs3⟩ := own_sl hown3))
      have hg3 : Sl w3 w3.heap.size 2 A3 (f.length + 1) c3 (ncells (f ++ [⟨4, 0⟩])) := by rw [ncells_append]; simpa [ncells] using hs3
      have hz3 := ht3.size
      simp only [World.size_alloc] at hz3
      have hbel2 : Below w.heap.size w0 w2 := ((Below.refl _ _).alloc hz0 _).trans (ht2.below (by simp; omega) (fun g hg h => by simp [Value.ownBlock] at h; omega))
      have hbel3 : Below w.heap.size w2 w3 := ((Below.refl _ _).alloc (by omega) _).trans (ht3.below (by simp; omega) (fun g hg h => by have := (hown2.lt g h).1; omega))
      have k0 := (hb0.trans hbel2).trans hbel3
      have hf3 := hf.below k0 (Nat.le_refl _)
      refine Calls.mono (HOG.out _ _ _ _ hg3 (Nat.le_refl _)) ?_
      rintro e w4 ⟨v4, rfl, hown4, hb4, _⟩
      obtain ⟨A4, c4, rfl, hs4⟩ := own_sl hown4
      have hz4 := hb4.size
      have hg4 := hg3.below hb4 (Nat.le_refl _)
      have hf4 := hf3.below hb4 (by omega)
      go_wp2_with fail
      refine Calls.mono (HDF.out _ _ hf4 (by omega)) ?_
      rintro e w5 ⟨v5, rfl, hown5, hb5, _⟩
      obtain ⟨A5, c5, rfl, hs5⟩ := own_sl hown5
      have hz5 := hb5.size
      have hg5 := hg4.below hb5 (by omega)
      have hf5 := hf4.below hb5 (by omega)
      go_wp2_with fail
      refine (sameNd_any _ _ _ _ _ _ b b _ _ _ (hs4.below hb5 (Nat.le_refl _)) hs5 rfl rfl (by omega)).mono ?_
      rintro e w6 ⟨rfl, n6, hw6⟩
      have hb6 := below_len hw6
      clear hw6
      have hz6 := hb6.size
      have hg6 := hg5.below hb6 (by omega)
      have hf6 := hf5.below hb6 (by omega)
      go_wp2_with fail
      refine Calls.mono (HDG.out _ _ _ _ hg6 (by omega)) ?_
      rintro e w7 ⟨v7, rfl, hown7, hb7, _⟩
      obtain ⟨A7, c7, rfl, hs7⟩ := own_sl hown7
      have hz7 := hb7.size
      have hg7 := hg6.below hb7 (by omega)
      have hf7 := hf6.below hb7 (by omega)
      go_wp2_with fail
      refine Calls.mono (HOF.out _ _ hf7 (by omega)) ?_
      rintro e w8 ⟨v8, rfl, hown8, hb8, _⟩
      obtain ⟨A8, c8, rfl, hs8⟩ := own_sl hown8
      have hz8 := hb8.size
      have hg8 := hg7.below hb8 (by omega)
      go_wp2_with fail
      refine (sameNd_any _ _ _ _ _ _ a a _ _ _ (hs7.below hb8 (Nat.le_refl _)) hs8 rfl rfl (by omega)).mono ?_
      rintro e w9 ⟨rfl, n9, hw9⟩
      have hb9 := below_len hw9
      clear hw9
      have hz9 := hb9.size
      have hg9 := hg8.below hb9 (by omega)
      go_wp2_with fail
      refine Calls.mono (HOG.out _ _ _ _ hg9 (by omega)) ?_
      rintro e wA ⟨vA, rfl, hownA, hbA, _⟩
      obtain ⟨AA, cA, rfl, hsA⟩ := own_sl hownA
      have hzA := hbA.size
      have hp1 : (0 : Int) < (b.length : Int) := by omega
      go_wp2_with fail
      refine (lives_any _).mono ?_
      rintro e wB ⟨rfl, hbB⟩
      go_wp2
      go_ret
      have k1 := ((k0.trans (hb4.mono (by omega))).trans (hb5.mono (by omega))).trans (hb6.mono (by omega))
      have k2 := ((k1.trans (hb7.mono (by omega))).trans (hb8.mono (by omega))).trans (hb9.mono (by omega))
      exact ⟨rfl, (k2.trans (hbA.mono (by omega))).trans (hbB.mono (by omega))⟩
  · have hw' : (wrong f == 0) = false := by simpa using hw
    clear hw
    go_wp2_with fail
    refine (lives_any _).mono ?_
    rintro e w1 ⟨rfl, hb⟩
    go_wp2
    go_ret
    exact ⟨rfl, hb0.trans (hb.mono hz0)⟩
end Go.Proofs.Ytedohmcnjlhdnaa
