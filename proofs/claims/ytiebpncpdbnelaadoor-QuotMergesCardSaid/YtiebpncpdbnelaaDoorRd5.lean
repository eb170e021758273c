/- The walks of layer 33's reference: like, once. -/
import Derived.Test.YtiebpncpdbnelaaDoorRd2
set_option maxHeartbeats 8000000
set_option maxRecDepth 100000
namespace Go.Proofs.YtiebpncpdbnelaaDoor
open Go.RowKit
def likeL (r : List (List Bool)) (n : Nat) : List Nat := (List.range n).map (likeF r)
theorem likeL_snoc (r : List (List Bool)) (n : Nat) : likeL r (n + 1) = likeL r n ++ [likeF r n] := by simp [likeL, List.range_succ]
theorem likeL_len (r : List (List Bool)) (n : Nat) : (likeL r n).length = n := by simp [likeL]
def NoL (r : List (List Bool)) (i k : Nat) : Prop := ∀ j, j < k → (relL r i j && relL r j i) = false
theorem NoL.next {r : List (List Bool)} {i k : Nat} (h : NoL r i k) (hk : (relL r i k && relL r k i) = false) : NoL r i (k + 1) := fun j hj => by
 by_cases e : j = k
 ·rw [e]; exact hk
 ·exact h j (by omega)
theorem NoL.done {r : List (List Bool)} {i k : Nat} (h : NoL r i k) (hk : k ≤ i) (hp : k < i → (relL r i k && relL r k i) = true) : likeF r i = k := firstB_uniq hk h hp
theorem like33_any (a : Aut) (Ai : Option Addr) (ni ci : Nat) (An : Option Addr) (nn cn : Nat) (w : World) (B : Nat) (h : AutRd w B a Ai ni ci An nn cn) (hB : B ≤ w.1.size) (hck : chkA a = 0) (hnd : ∀ x ∈ a.nodes, x.need < 2 ^ 64 ∧ x.ban < 2 ^ 64 ∧ x.inn < 2 ^ 64) (hr : ∀ x ∈ a.nodes, x.to.length ≤ 1000000) :
  Calls Tryd.prog 41 #[.agg #[.int .i64 a.sets, .slice Ai ni ci, .slice An nn cn]] w (IntsPost w (natI (likeL (simL a) nn))) := by
 have hb0 : Below w.1.size w (w.alloc (.cells #[.int .i64 a.sets, .slice Ai ni ci, .slice An nn cn] 25)) := bR.alloc lR _
 have x0 := heap_alloc_new w (.cells #[.int .i64 a.sets, .slice Ai ni ci, .slice An nn cn] 25)
 have z0 : (w.alloc (.cells #[.int .i64 a.sets, .slice Ai ni ci, .slice An nn cn] 25)).1.size = w.1.size + 1 := by simp
 obtain ⟨W0, hW0⟩ := xQ (w.alloc (.cells #[.int .i64 a.sets, .slice Ai ni ci, .slice An nn cn] 25))
 rw [hW0] at hb0 x0 z0
 have HDI := dh (directR_any a Ai ni ci An nn cn W0 B (h.below hb0 hB) (by omega) hck hnd hr)
 have hn256 := (chk_iff.1 hck).1
 have HNN := dh h.enn
 have hnn : nn ≤ 256 := by rw [HNN.out]; exact hn256
 have HW0 := dh hW0
 have HB0 := dh hb0
 have hww : w.1.size < W0.1.size := by omega
 have HCL : Hid (∀ W', Below W0.1.size W0 W' → W'.cell? ⟨w.1.size, 0, none⟩ = some (.int .i64 a.sets) ∧ W'.cell? ⟨w.1.size, 1, none⟩ = some (.slice Ai ni ci) ∧ W'.cell? ⟨w.1.size, 2, none⟩ = some (.slice An nn cn)) := dh (fun W' hb => by
  have k0 := (hb.block w.1.size hww).trans x0
  refine ⟨?_, ?_, ?_⟩ <;> (rw [cell_of_row _ _ _ _ _ (0, 0) k0]; rfl))
 clear hW0 hb0 x0 z0 h hnd hck hr hn256
 go_enter Tryd.func41, Tryd.ntmps41
 go_upto_region 1 with fail
 rw [HW0.out]
 obtain ⟨q0, q1, q2⟩ := HCL.out W0 bR
 go_wp2_with fail
 refine HDI.out.mono ?_
 rintro e D ⟨v, rfl, hG⟩
 obtain ⟨Ar, cr, rfl, hR2⟩ := hG.sl2
 have HBD := dh hG.choose_spec.2.2
 have hzD := HBD.out.size
 have hsl : (simL a).length = nn := by rw [simL_len, HNN.out]
 have hcr := hR2.cap
 have hmr := hR2.max
 unfold maxLen at hmr
 rw [hsl] at hR2 hcr ⊢
 have HRR := dh hR2
 have HSL := dh hsl
 clear hG hR2 hsl q0 q1 q2
 go_wp2_with fail
 go_loopw [4, 5] (fun o i wr => ∃ m : Nat, m ≤ nn ∧ i = .int .i64 (m : Int) ∧ Hid (wr.ownsRow D.1.size 3 1 o m (icells (natI (likeL (simL a) m)))) ∧ Hid (Below D.1.size D wr)) (fun _ i _ => nn - (intOf i).toNat)
 case atStart => exact ⟨0, Nat.zero_le _, rfl, dh (World.ownsRow_nil _ _ _ _), dh bR⟩
 case round =>
  obtain ⟨m, hm, rfl, HO, HB⟩ := hrel
  rename World => U
  have hz := HB.out.size
  obtain ⟨q0, q1, q2⟩ := HCL.out U (HBD.out.trans (HB.out.mono hzD))
  by_cases hlt : m < nn
  ·have wm : IntKind.i64.wrap ((m : Int) + 1) = (m : Int) + 1 := by rw [wI]; omega
   have hm0 : (0 : Int) ≤ (m : Int) := by omega
   have hm1 : (m : Int) < (nn : Int) := by omega
   obtain ⟨br, orr, Ar', dr, hAr, r0, hd1, hd2, hbr, bq, oq, hAq, hbq, r1⟩ := rd_relB HRR.out (simL_row a) (i := m) (by rw [HSL.out]; exact hlt)
   subst hAr hAq
   unfold maxLen at hd2
   rw [HSL.out] at r0 hd1
   rw [HSL.out] at r1
   have e0 := bC HB.out (by show br < _; omega) r0
   have R1 := dh r1
   clear r0 r1
   go_wp2_with fail
   clear q0 q1 q2
   go_loopw [6] (fun k wq => ∃ q : Nat, q ≤ m ∧ k = .int .i64 (q : Int) ∧ wq = U ∧ Hid (NoL (simL a) m q)) (fun k _ => m - (intOf k).toNat)
   case atStart => exact ⟨0, Nat.zero_le _, rfl, rfl, dh (fun j hj => absurd hj (Nat.not_lt_zero _))⟩
   case round =>
    obtain ⟨q, hq, rfl, hwq, HNO⟩ := hrel
    rw [hwq]
    clear hwq
    have hfin : Hid (likeF (simL a) m = q) → Hid (natI (likeL (simL a) (m + 1)) = natI (likeL (simL a) m) ++ [(q : Int)]) := fun h => dh (by rw [likeL_snoc, h.out, natI, List.map_append]; rfl)
    by_cases hlq : q < m
    ·have wq1 : IntKind.i64.wrap ((q : Int) + 1) = (q : Int) + 1 := by rw [wI]; omega
     have hq0 : (0 : Int) ≤ (q : Int) := by omega
     have hq1 : (q : Int) < (m : Int) := by omega
     have hq2 : (q : Int) < (nn : Int) := by omega
     obtain ⟨br2, or2, Ar2, dr2, hAr2, r2, hd3, hd4, -, bk, ok, hAk, hbk, r3⟩ := rd_relB HRR.out (simL_row a) (i := q) (by rw [HSL.out]; omega)
     cases hAr2
     subst hAk
     unfold maxLen at hd4
     rw [HSL.out] at r2 hd3
     have r1u := R1.out q (by omega)
     have r3t := r3 m (by rw [HSL.out]; exact hlt)
     obtain ⟨c1, hc1⟩ := xQ (relL (simL a) m q)
     obtain ⟨c2, hc2⟩ := xQ (relL (simL a) q m)
     have HNX := dh (fun hk => HNO.out.next hk)
     have HDN := dh (fun hk => HNO.out.done (by omega) hk)
     rw [hc1, hc2] at HNX HDN
     rw [hc1] at r1u
     rw [hc2] at r3t
     have e1 := bC HB.out (by show bq < _; omega) r1u
     have e2 := bC HB.out (by show br < _; omega) r2
     have e3 := bC HB.out (by show bk < _; omega) r3t
     clear r2 r3 r1u r3t hc1 hc2
     cases c1
     ·go_wp2_with fail
      go_roundw
      case rel => exact ⟨q + 1, by omega, by go_num, by trivial, dh (HNX.out rfl)⟩
      case measure => simp [intOf]; omega
     ·cases c2
      ·go_wp2_with fail
       go_roundw
       case rel => exact ⟨q + 1, by omega, by go_num, by trivial, dh (HNX.out rfl)⟩
       case measure => simp [intOf]; omega
      ·have HF := hfin (dh (HDN.out (fun _ => rfl)))
       obtain ⟨Au, cu, rfl, -⟩ := own_sl HO.out
       have hnw := dh (heap_alloc_new U (.cells #[.int .i64 (q : Int)] 3))
       go_wp2_with (at_builtin; refine wpList_push rfl (.tmp 40) (.tmp 42) 22 rfl D.1.size 3 1 8 sliceInt _ _ _ (HO.out.alloc _) rfl U.1.size #[.int .i64 (q : Int)] rfl hnw.out rfl (by simp [Value.oneCell']) (by omega) (by omega) (by simp; omega) ?_; intro u' wA hown3 ht3 hat3 hne3; obtain ⟨g', cap', rfl, _⟩ := own_form hown3 (by omega); have HOA := dh hown3; have HBA := dh (HB.out.trans ((Tch.trans ((Tch.refl _ U).alloc _) ht3 (fun _ _ h => h)).below hz (fun k hk e => by have := (HO.out.lt k e).1; omega))))
       exact ⟨⟨m + 1, by omega, congrArg (Value.int .i64) (by omega), dh (by rw [HF.out, icells_append]; simpa [icells] using HOA.out), HBA⟩, by simp [intOf]; omega⟩
    ·have hqe : q = m := by omega
     subst hqe
     have HF := hfin (dh (HNO.out.done lR (fun h => absurd h (Nat.lt_irrefl _))))
     obtain ⟨Au, cu, rfl, -⟩ := own_sl HO.out
     have hnw := dh (heap_alloc_new U (.cells #[.int .i64 (q : Int)] 3))
     go_wp2_with (at_builtin; refine wpList_push rfl (.tmp 40) (.tmp 42) 22 rfl D.1.size 3 1 8 sliceInt _ _ _ (HO.out.alloc _) rfl U.1.size #[.int .i64 (q : Int)] rfl hnw.out rfl (by simp [Value.oneCell']) (by omega) (by omega) (by simp; omega) ?_; intro u' wA hown3 ht3 hat3 hne3; obtain ⟨g', cap', rfl, _⟩ := own_form hown3 (by omega); have HOA := dh hown3; have HBA := dh (HB.out.trans ((Tch.trans ((Tch.refl _ U).alloc _) ht3 (fun _ _ h => h)).below hz (fun k hk e => by have := (HO.out.lt k e).1; omega))))
     exact ⟨⟨q + 1, by omega, congrArg (Value.int .i64) (by omega), dh (by rw [HF.out, icells_append]; simpa [icells] using HOA.out), HBA⟩, by simp [intOf]; omega⟩
  ·have hme : m = nn := by omega
   subst hme
   have HF := dh (own_base HO.out (show w.1.size ≤ D.1.size by omega))
   have HBF := dh (HB0.out.trans ((HBD.out.trans (HB.out.mono hzD)).mono (show w.1.size ≤ W0.1.size by omega)))
   have HLN := dh (show (natI (likeL (simL a) m)).length = m by rw [natI, List.length_map, likeL_len])
   go_wp2_with fail
   go_ret
   exact ⟨_, rfl, by rw [HLN.out]; exact HF.out, HBF.out⟩
theorem mem_take_snoc {Y : List Int} {x : Int} {q : Nat} (h : q < Y.length) : decide (x ∈ Y.take (q + 1)) = (decide (x ∈ Y.take q) || (Y[q] == x)) := by
 rw [take_snoc Y q h, Bool.eq_iff_iff]
 simp only [List.mem_append, mS, decide_eq_true_eq, Bool.or_eq_true, beq_iff_eq]
 exact or_congr Iff.rfl eq_comm
theorem once33_any (f : Nat → Nat) (l : List Int) (A : Option Addr) (n c : Nat) (At : Option Addr) (nt ct : Nat) (nums : List Int) (w : World) (B : Nat) (hs : Sl w B 1 A n c (icells l)) (ht : Sl w B 1 At nt ct (icells nums)) (hB : B ≤ w.1.size) (hn : n = l.length) (hln : n ≤ 100000000) (hnum : ∀ j, j < nt → nums.getD j 0 = ((f j : Nat) : Int)) (hl : ∀ t ∈ l, isNd nt t = true) :
  Calls Tryd.prog 42 #[.slice A n c, .slice At nt ct] w (IntsPost w (onceI f l)) := by
 subst hn
 have hcap := hs.cap
 have hmax := hs.max
 unfold maxLen at hmax
 have hct := ht.cap
 have hmt := ht.max
 unfold maxLen at hmt
 have hnt : nt = nums.length := by have := ht.len; rw [icells_len] at this; omega
 have HS := dh hs
 have HT := dh ht
 have HNT := dh hnt
 have HNU := dh hnum
 have HL := dh hl
 clear hs ht hnt hnum hl
 go_enter Tryd.func42, Tryd.ntmps42
 go_wp2_with fail
 go_loopw [5, 6] (fun o i wr => ∃ m : Nat, m ≤ l.length ∧ i = .int .i64 (m : Int) ∧ Hid (wr.ownsRow w.1.size 3 1 o (onceI f (l.take m)).length (icells (onceI f (l.take m)))) ∧ Hid (Below w.1.size w wr)) (fun _ i _ => l.length - (intOf i).toNat)
 case atStart => exact ⟨0, Nat.zero_le _, rfl, dh (World.ownsRow_nil _ _ _ _), dh bR⟩
 case round =>
  obtain ⟨m, hm, rfl, HO, HB⟩ := hrel
  rename World => U
  have hz := HB.out.size
  by_cases hlt : m < l.length
  ·have wm : IntKind.i64.wrap ((m : Int) + 1) = (m : Int) + 1 := by rw [wI]; omega
   have hm0 : (0 : Int) ≤ (m : Int) := by omega
   have hm1 : (m : Int) < (l.length : Int) := by omega
   obtain ⟨b, off, rfl, hbl, hcl⟩ := rd_intS (HS.out.below HB.out hB) hlt
   obtain ⟨tn, htn, htl⟩ := isNd_nat (HL.out _ (mM hlt))
   rw [htn] at hcl
   obtain ⟨b2, off2, rfl, hbl2, hcn⟩ := rd_intS (HT.out.below HB.out hB) (show tn < nums.length by rw [← HNT.out]; exact htl)
   have hge : nums[tn]'(by rw [← HNT.out]; exact htl) = ((f tn : Nat) : Int) := by
    rw [← HNU.out tn htl, gD, gE (by rw [← HNT.out]; exact htl)]; rfl
   rw [hge] at hcn
   have htn0 : (0 : Int) ≤ (tn : Int) := by omega
   have htn1 : (tn : Int) < (nt : Int) := by omega
   have hle : (onceI f (l.take m)).length ≤ m := Nat.le_trans (onceI_le _ _) (by rw [List.length_take]; omega)
   have HSN : Hid (onceI f (l.take (m + 1)) = if ((f tn : Nat) : Int) ∈ onceI f (l.take m) then onceI f (l.take m) else onceI f (l.take m) ++ [((f tn : Nat) : Int)]) := dh (by rw [take_snoc l m hlt, onceI_snoc, htn, tN])
   generalize ((f tn : Nat) : Int) = x at *
   generalize onceI f (l.take m) = Y at *
   clear hge htn
   obtain ⟨Au, cu, rfl, hsY⟩ := own_sl HO.out
   have hcY := hsY.cap
   have hmY := hsY.max
   unfold maxLen at hmY
   have HSY := dh hsY
   clear hsY
   go_wp2_with fail
   clear hcl hcn
   go_loopw [8, 9] (fun s k wq => ∃ q : Nat, q ≤ Y.length ∧ s = .bool (decide (x ∈ Y.take q)) ∧ k = .int .i64 (q : Int) ∧ wq = U) (fun _ k _ => Y.length - (intOf k).toNat)
   case atStart => exact ⟨0, Nat.zero_le _, by simp, rfl, rfl⟩
   case round =>
    obtain ⟨q, hq, rfl, rfl, hwq⟩ := hrel
    rw [hwq]
    clear hwq
    obtain ⟨sv, hsv⟩ := xQ (decide (x ∈ Y.take q))
    rw [hsv]
    by_cases hlq : q < Y.length
    ·have wq1 : IntKind.i64.wrap ((q : Int) + 1) = (q : Int) + 1 := by rw [wI]; omega
     have hq0 : (0 : Int) ≤ (q : Int) := by omega
     have hq1 : (q : Int) < (Y.length : Int) := by omega
     obtain ⟨bY, oY, rfl, -, hcY2⟩ := rd_intS HSY.out hlq
     have HSN2 := dh (mem_take_snoc (x := x) hlq)
     rw [hsv] at HSN2
     obtain ⟨y, hy⟩ := xQ (Y[q])
     rw [hy] at hcY2 HSN2
     obtain ⟨e, he⟩ := xQ (y == x)
     rw [he] at HSN2
     clear hy hsv
     cases sv
     ·go_wp2_with fail
      go_roundw
      case rel => exact ⟨q + 1, by omega, by rw [HSN2.out]; rfl, by go_num, by trivial⟩
      case measure => simp [intOf]; omega
     ·go_wp2_with fail
      go_roundw
      case rel => exact ⟨q + 1, by omega, by rw [HSN2.out]; rfl, by go_num, by trivial⟩
      case measure => simp [intOf]; omega
    ·have hqe : q = Y.length := by omega
     subst hqe
     rw [List.take_length] at hsv
     cases sv
     ·have HF : Hid (onceI f (l.take (m + 1)) = Y ++ [x]) := dh (by rw [HSN.out, if_neg (of_decide_eq_false hsv)])
      have hnw := dh (heap_alloc_new U (.cells #[.int .i64 x] 3))
      clear hsv
      go_wp2_with (at_builtin; refine wpList_push rfl (.tmp 40) (.tmp 42) 22 rfl w.1.size 3 1 8 sliceInt _ _ _ (HO.out.alloc _) rfl U.1.size #[.int .i64 x] rfl hnw.out rfl (by simp [Value.oneCell']) (by omega) (by omega) (by simp; omega) ?_; intro u' wA hown3 ht3 hat3 hne3; obtain ⟨g', cap', rfl, _⟩ := own_form hown3 (by omega); have HOA := dh hown3; have HBA := dh (HB.out.trans ((Tch.trans ((Tch.refl _ U).alloc _) ht3 (fun _ _ h => h)).below hz (fun k hk e => by have := (HO.out.lt k e).1; omega))))
      exact ⟨⟨m + 1, by omega, congrArg (Value.int .i64) (by omega), dh (by rw [HF.out, lA, icells_append]; simpa [icells] using HOA.out), HBA⟩, by simp [intOf]; omega⟩
     ·have HF : Hid (onceI f (l.take (m + 1)) = Y) := dh (by rw [HSN.out, if_pos (of_decide_eq_true hsv)])
      clear hsv
      go_wp2_with fail
      go_roundw
      case rel => exact ⟨m + 1, by omega, by go_num, dh (by rw [HF.out]; exact HO.out), HB⟩
      case measure => simp [intOf]; omega
  ·have hme : m = l.length := by omega
   have HO2 : Hid (U.ownsRow w.1.size 3 1 u5 (onceI f l).length (icells (onceI f l))) := dh (by have := HO.out; rwa [hme, List.take_length] at this)
   clear HO hme
   go_wp2_with fail
   go_ret
   exact ⟨_, rfl, HO2.out, HB.out⟩
end Go.Proofs.YtiebpncpdbnelaaDoor
