/- The walks of layer 33's reference: first, left. -/
import Derived.Test.YtiebpncpdbnelaaDoorRd2
set_option maxHeartbeats 8000000
set_option maxRecDepth 100000
namespace Go.Proofs.YtiebpncpdbnelaaDoor
open Go.RowKit
theorem first33_any (l : List Int) (A : Option Addr) (n c : Nat) (w : World) (B : Nat) (hs : Sl w B 1 A n c (icells l)) (hn : n = l.length) (hln : n ≤ 100000000) (t : Int) (ht : t ∈ l) :
  Calls Tryd.prog 74 #[.slice A n c, .int .i64 t] w (fun en w' => en = .returned (.int .i64 ((firstP l t : Nat) : Int)) ∧ w' = w) := by
 subst hn
 obtain ⟨hfl, hfa⟩ := firstP_at ht
 have hcap := hs.cap
 have hmax := hs.max
 unfold maxLen at hmax
 have HS := dh hs
 have HFA := dh hfa
 obtain ⟨f, hf⟩ := xQ (firstP l t)
 rw [hf] at hfl HFA ⊢
 have HLO : Hid (∀ j, j < f → l.getD j 0 ≠ t) := dh (fun j hj => by
  have := (firstB_spec (fun i => decide (l.getD i 0 = t)) l.length).2.1 j (by rw [← hf] at hj; exact hj)
  exact of_decide_eq_false this)
 clear hs ht hfa hf
 go_enter Tryd.func74, Tryd.ntmps74
 go_wp2_with fail
 go_loopw [5] (fun i wr => ∃ m : Nat, m ≤ f ∧ i = .int .i64 (m : Int) ∧ wr = w) (fun i _ => f + 1 - (intOf i).toNat)
 case atStart => exact ⟨0, Nat.zero_le _, rfl, rfl⟩
 case round =>
  obtain ⟨m, hm, rfl, rfl⟩ := hrel
  have hlt : m < l.length := by omega
  have wm : IntKind.i64.wrap ((m : Int) + 1) = (m : Int) + 1 := by rw [wI]; omega
  have hm0 : (0 : Int) ≤ (m : Int) := by omega
  have hm1 : (m : Int) < (l.length : Int) := by omega
  obtain ⟨b, off, rfl, hbl, hcl⟩ := rd_intS HS.out hlt
  have hge : l.getD m 0 = l[m] := by rw [gD, gE hlt]; rfl
  by_cases he : m = f
  ·have hx : l[m] = t := by rw [← hge, he]; exact HFA.out
   rw [hx] at hcl
   subst he
   clear hx hge
   go_wp2_with fail
   go_ret
   exact ⟨rfl, rfl⟩
  ·have hx : (l[m] == t) = false := by rw [beq_eq_false_iff_ne, ← hge]; exact HLO.out m (by omega)
   obtain ⟨x, hxe⟩ := xQ (l[m])
   rw [hxe] at hx hcl
   clear hge hxe
   go_wp2_with fail
   go_roundw
   case rel => exact ⟨m + 1, by omega, by go_num, by trivial⟩
   case measure => simp [intOf]; omega
def condB (r : List (List Bool)) (l : List Int) (i k : Nat) : Bool := decide (l.getD k 0 ≠ l.getD i 0) && relL r (l.getD i 0).toNat (l.getD k 0).toNat && (!relL r (l.getD k 0).toNat (l.getD i 0).toNat || decide (firstP l (l.getD k 0) < i))
def staysU (r : List (List Bool)) (l : List Int) (i q : Nat) : Bool := decide (firstP l (l.getD i 0) = i) && (List.range q).all (fun k => !condB r l i k)
theorem staysU_snoc (r : List (List Bool)) (l : List Int) (i q : Nat) : staysU r l i (q + 1) = (staysU r l i q && !condB r l i q) := by
 unfold staysU
 rw [List.range_succ, List.all_append, Bool.and_assoc]
 simp
theorem staysU_end (r : List (List Bool)) (l : List Int) (i : Nat) : staysU r l i l.length = staysB r l i := rfl
theorem leftU_end (r : List (List Bool)) (l : List Int) : leftU r l l.length = leftL r l := rfl
theorem left33_any (l : List Int) (A : Option Addr) (n c : Nat) (Ar : Option Addr) (nr cr : Nat) (R : List (List Bool)) (w : World) (B : Nat) (hs : Sl w B 1 A n c (icells l)) (hR : Sl2 w B 1 Ar nr cr (R.map bcells)) (hB : B ≤ w.1.size) (hn : n = l.length) (hln : n ≤ 100000000) (hnr : nr = R.length) (hq : ∀ r ∈ R, r.length = R.length) (hl : ∀ t ∈ l, isNd R.length t = true) :
  Calls Tryd.prog 45 #[.slice A n c, .slice Ar nr cr] w (IntsPost w (leftL R l)) := by
 subst hn
 have hcap := hs.cap
 have hmax := hs.max
 unfold maxLen at hmax
 have hcr := hR.cap
 have hmr := hR.max
 unfold maxLen at hmr
 have HS := dh hs
 have HR := dh hR
 have HNR := dh hnr
 have HQ := dh hq
 have HL := dh hl
 have HFI : Hid (∀ (t : Int) (W : World), t ∈ l → Below w.1.size w W → Calls Tryd.prog 74 #[.slice A l.length c, .int .i64 t] W (fun en w' => en = .returned (.int .i64 ((firstP l t : Nat) : Int)) ∧ w' = W)) := dh (fun t W ht hb => first33_any l A l.length c W B (HS.out.below hb hB) rfl hln t ht)
 clear hs hR hnr hq hl
 go_enter Tryd.func45, Tryd.ntmps45
 go_wp2_with fail
 go_loopw [5, 6] (fun o i wr => ∃ m : Nat, m ≤ l.length ∧ i = .int .i64 (m : Int) ∧ Hid (wr.ownsRow w.1.size 3 1 o (leftU R l m).length (icells (leftU R l m))) ∧ Hid (Below w.1.size w wr)) (fun _ i _ => l.length - (intOf i).toNat)
 case atStart => exact ⟨0, Nat.zero_le _, rfl, dh (World.ownsRow_nil _ _ _ _), dh bR⟩
 case round =>
  obtain ⟨m, hm, rfl, HO, HB⟩ := hrel
  rename World => U
  have hz := HB.out.size
  by_cases hlt : m < l.length
  ·have wm : IntKind.i64.wrap ((m : Int) + 1) = (m : Int) + 1 := by rw [wI]; omega
   have hm0 : (0 : Int) ≤ (m : Int) := by omega
   have hm1 : (m : Int) < (l.length : Int) := by omega
   obtain ⟨b, off, hA, hbl, hcl⟩ := rd_intS (HS.out.below HB.out hB) hlt
   have hge : l.getD m 0 = l[m] := by rw [gD, gE hlt]; rfl
   have HMT := dh (mM hlt)
   obtain ⟨tn, htn, htl⟩ := isNd_nat (HL.out _ HMT.out)
   rw [htn] at hge hcl HMT
   have HGE := dh hge
   have HCL := dh hcl
   have HF1 := dh (HFI.out (tn : Int) U HMT.out HB.out)
   obtain ⟨f, hf⟩ := xQ (firstP l (tn : Int))
   have hst0 : ((f : Int) == (m : Int)) = staysU R l m 0 := by
    unfold staysU
    rw [HGE.out, hf, Bool.eq_iff_iff, beq_iff_eq]
    simp only [List.range_zero, List.all_nil, Bool.and_true, decide_eq_true_eq]
    omega
   rw [hf] at HF1
   obtain ⟨br, orr, Ar', dr, hAr, r0, hd1, hd2, hbr, bq, oq, hAq, hbq, r1⟩ := rd_relB HR.out HQ.out htl
   subst hA hAr hAq
   unfold maxLen at hd2
   rw [← HNR.out] at r0 hd1
   have R0 := dh r0
   have R1 := dh r1
   have htr : (tn : Int) < (nr : Int) := by rw [HNR.out]; omega
   have htn0 : (0 : Int) ≤ (tn : Int) := by omega
   clear hf htn hge r0 r1
   go_wp2_with fail
   refine HF1.out.mono ?_
   rintro e w5 ⟨rfl, hw5⟩
   rw [hw5]
   clear hw5 w5
   go_wp2_with fail
   clear hcl
   go_loopw [8, 9] (fun s k wq => ∃ q : Nat, q ≤ l.length ∧ s = .bool (staysU R l m q) ∧ k = .int .i64 (q : Int) ∧ wq = U) (fun _ k _ => l.length - (intOf k).toNat)
   case atStart => exact ⟨0, Nat.zero_le _, by first | rfl | exact congrArg Value.bool hst0, rfl, rfl⟩
   case round =>
    clear hst0
    obtain ⟨q, hq, rfl, rfl, hwq⟩ := hrel
    rw [hwq]
    clear hwq
    obtain ⟨sv, hsv⟩ := xQ (staysU R l m q)
    rw [hsv]
    by_cases hlq : q < l.length
    ·have wq1 : IntKind.i64.wrap ((q : Int) + 1) = (q : Int) + 1 := by rw [wI]; omega
     have hq0 : (0 : Int) ≤ (q : Int) := by omega
     have hq1 : (q : Int) < (l.length : Int) := by omega
     obtain ⟨b2, off2, hA2, -, hcq⟩ := rd_intS (HS.out.below HB.out hB) hlq
     cases hA2
     have hgq : l.getD q 0 = l[q] := by rw [gD, gE hlq]; rfl
     have HMU := dh (mM hlq)
     obtain ⟨un, hun, hul⟩ := isNd_nat (HL.out _ HMU.out)
     rw [hun] at hgq hcq HMU
     have hSN : staysU R l m (q + 1) = (sv && !(decide ((un : Int) ≠ (tn : Int)) && relL R tn un && (!relL R un tn || decide (firstP l (un : Int) < m)))) := by
      rw [staysU_snoc, hsv]
      unfold condB
      rw [hgq, HGE.out, tN, tN]
     have HSN := dh hSN
     have hur : (un : Int) < (nr : Int) := by rw [HNR.out]; omega
     have hun0 : (0 : Int) ≤ (un : Int) := by omega
     clear hsv hgq hun hSN
     by_cases he : un = tn
     ·subst he
      have hne : ((un : Int) != (un : Int)) = false := by simp
      have HS1 : Hid (staysU R l m (q + 1) = sv) := dh (by rw [HSN.out]; simp)
      go_wp2_with fail
      go_roundw
      case rel => exact ⟨q + 1, by omega, by rw [HS1.out], by go_num, by trivial⟩
      case measure => simp [intOf]; omega
     ·have hne : ((un : Int) != (tn : Int)) = true := by rw [bne_iff_ne]; omega
      have hne2 : decide ((un : Int) ≠ (tn : Int)) = true := decide_eq_true (by omega)
      rw [hne2, Bool.true_and] at HSN
      obtain ⟨br2, or2, Ar2, dr2, hAr2, r2, hd3, hd4, -, bk, ok, hAk, hbk, r3⟩ := rd_relB HR.out HQ.out hul
      cases hAr2
      subst hAk
      unfold maxLen at hd4
      rw [← HNR.out] at r2 hd3
      have r1u := R1.out un hul
      have r3t := r3 tn htl
      have hR0 := R0.out
      obtain ⟨c1, hc1⟩ := xQ (relL R tn un)
      obtain ⟨c2, hc2⟩ := xQ (relL R un tn)
      rw [hc1, hc2] at HSN
      rw [hc1] at r1u
      rw [hc2] at r3t
      have e0 := bC HB.out (by show br < _; omega) hR0
      have e1 := bC HB.out (by show bq < _; omega) r1u
      have e2 := bC HB.out (by show br < _; omega) r2
      have e3 := bC HB.out (by show bk < _; omega) r3t
      clear hne2 r2 r3 r1u r3t hR0 hc1 hc2 he
      cases c1
      ·have HS1 : Hid (staysU R l m (q + 1) = sv) := dh (by rw [HSN.out]; simp)
       go_wp2_with fail
       go_roundw
       case rel => exact ⟨q + 1, by omega, by rw [HS1.out], by go_num, by trivial⟩
       case measure => simp [intOf]; omega
      ·cases c2
       ·have HS1 : Hid (staysU R l m (q + 1) = false) := dh (by rw [HSN.out]; simp)
        go_wp2_with fail
        go_roundw
        case rel => exact ⟨q + 1, by omega, by rw [HS1.out], by go_num, by trivial⟩
        case measure => simp [intOf]; omega
       ·have HF2 := dh (HFI.out (un : Int) U HMU.out HB.out)
        obtain ⟨f2, hf2⟩ := xQ (firstP l (un : Int))
        rw [hf2] at HF2 HSN
        clear hf2
        go_wp2_with fail
        refine HF2.out.mono ?_
        rintro e w5 ⟨rfl, hw5⟩
        rw [hw5]
        clear hw5 w5
        by_cases hfm : f2 < m
        ·have hfi : (f2 : Int) < (m : Int) := by omega
         have HS1 : Hid (staysU R l m (q + 1) = false) := dh (by rw [HSN.out, decide_eq_true hfm]; simp)
         go_wp2_with fail
         go_roundw
         case rel => exact ⟨q + 1, by omega, by rw [HS1.out], by go_num, by trivial⟩
         case measure => simp [intOf]; omega
        ·have hfi : ¬ (f2 : Int) < (m : Int) := by omega
         have HS1 : Hid (staysU R l m (q + 1) = sv) := dh (by rw [HSN.out, decide_eq_false hfm]; simp)
         go_wp2_with fail
         go_roundw
         case rel => exact ⟨q + 1, by omega, by rw [HS1.out], by go_num, by trivial⟩
         case measure => simp [intOf]; omega
    ·have hqe : q = l.length := by omega
     subst hqe
     rw [staysU_end] at hsv
     have HSN : Hid (leftU R l (m + 1) = leftU R l m ++ (if sv = true then [(tn : Int)] else [])) := dh (by rw [leftU_snoc, hsv, HGE.out])
     have hle := leftU_le R l m
     clear hsv
     cases sv
     ·go_wp2_with fail
      go_roundw
      case rel => exact ⟨m + 1, by omega, by go_num, dh (by rw [HSN.out]; simpa using HO.out), HB⟩
      case measure => simp [intOf]; omega
     ·generalize leftU R l m = Y at *
      obtain ⟨Au, cu, rfl, -⟩ := own_sl HO.out
      have hnw := dh (heap_alloc_new U (.cells #[.int .i64 (tn : Int)] 3))
      go_wp2_with (at_builtin; refine wpList_push rfl (.tmp 66) (.tmp 68) 22 rfl w.1.size 3 1 8 sliceInt _ _ _ (HO.out.alloc _) rfl U.1.size #[.int .i64 (tn : Int)] rfl hnw.out rfl (by simp [Value.oneCell']) (by omega) (by omega) (by simp; omega) ?_; intro u' wA hown3 ht3 hat3 hne3; obtain ⟨g', cap', rfl, _⟩ := own_form hown3 (by omega); have HOA := dh hown3; have HBA := dh (HB.out.trans ((Tch.trans ((Tch.refl _ U).alloc _) ht3 (fun _ _ h => h)).below hz (fun k hk e => by have := (HO.out.lt k e).1; omega))))
      exact ⟨⟨m + 1, by omega, congrArg (Value.int .i64) (by omega), dh (by rw [HSN.out, if_pos rfl, lA, icells_append]; simpa [icells] using HOA.out), HBA⟩, by simp [intOf]; omega⟩
  ·have hme : m = l.length := by omega
   have HO2 : Hid (U.ownsRow w.1.size 3 1 u5 (leftL R l).length (icells (leftL R l))) := dh (by have := HO.out; rwa [hme, leftU_end] at this)
   clear HO hme
   go_wp2_with fail
   go_ret
   exact ⟨_, rfl, HO2.out, HB.out⟩
end Go.Proofs.YtiebpncpdbnelaaDoor
