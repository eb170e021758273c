/- The walks of layer 33 (quot): lesser. -/
import Derived.Test.YtiebpncpdbnelaaGreatDoorZbo
import Derived.Maps.RangeWalk
set_option maxHeartbeats 8000000
set_option maxRecDepth 100000
namespace Go.Proofs.YtiebpncpdbnelaaGreatDoor
open Go.RowKit Go.Maps
def WorseB (R : List (List Bool)) (l : List Int) (i : Nat) (t u : Int) : Prop := u ≠ t ∧ relL R t.toNat u.toNat = true ∧ (relL R u.toNat t.toNat = false ∨ firstP l u < i)
theorem stays_iff {R : List (List Bool)} {l : List Int} {i : Nat} {t : Int} (ht : l.getD i 0 = t) : staysB R l i = true ↔ firstP l t = i ∧ ∀ u ∈ l, ¬ WorseB R l i t u := by
 unfold staysB
 rw [ht, Bool.and_eq_true, decide_eq_true_eq, List.all_eq_true]
 refine and_congr_right (fun _ => ⟨fun h u hu hw => ?_, fun h k hk => ?_⟩)
 ·obtain ⟨k, hk, rfl⟩ := List.mem_iff_getElem.1 hu
  have := h k (List.mem_range.2 hk)
  have e : l.getD k 0 = l[k] := by rw [gD, gE hk]; rfl
  rw [e] at this
  obtain ⟨h1, h2, h3⟩ := hw
  rw [decide_eq_true h1, h2] at this
  rcases h3 with h3 | h3
  ·rw [h3] at this; cases this
  ·rw [decide_eq_true h3, Bool.or_true] at this; cases this
 ·have hk' := List.mem_range.1 hk
  have e : l.getD k 0 = l[k] := by rw [gD, gE hk']; rfl
  rw [e]
  have := h l[k] (mM hk')
  by_cases h1 : l[k] = t
  ·simp [h1]
  ·cases h2 : relL R t.toNat l[k].toNat
   ·simp
   ·cases h3 : relL R l[k].toNat t.toNat
    ·exact absurd ⟨h1, h2, .inl h3⟩ this
    ·by_cases h4 : firstP l l[k] < i
     ·exact absurd ⟨h1, h2, .inr h4⟩ this
     ·simp [h4]
def leftU (R : List (List Bool)) (l : List Int) (i : Nat) : List Int := ((List.range i).filter (staysB R l)).map (fun i => l.getD i 0)
theorem leftU_snoc (R : List (List Bool)) (l : List Int) (i : Nat) : leftU R l (i + 1) = leftU R l i ++ (if staysB R l i = true then [l.getD i 0] else []) := by
 unfold leftU
 rw [List.range_succ, List.filter_append, List.map_append]
 congr 1
 rw [List.filter_cons, List.filter_nil]
 split <;> rfl
theorem leftU_le (R : List (List Bool)) (l : List Int) (i : Nat) : (leftU R l i).length ≤ i := by
 unfold leftU
 rw [List.length_map]
 have := List.length_filter_le (staysB R l) (List.range i)
 rwa [List.length_range] at this
def SeenB (R : List (List Bool)) (l : List Int) (i : Nat) (t : Int) (left : Lit → Bool) (b : Bool) : Prop :=
 (b = true → firstP l t = i ∧ ∀ u ∈ l, left (.int .i64 u) = false → ¬ WorseB R l i t u) ∧ (b = false → ¬ (firstP l t = i ∧ ∀ u ∈ l, ¬ WorseB R l i t u))
theorem SeenB.start {R : List (List Bool)} {l : List Int} {i : Nat} {t : Int} {left : Lit → Bool} {b : Bool} (hb : b = decide (firstP l t = i)) (hl : ∀ u ∈ l, left (.int .i64 u) = true) : SeenB R l i t left b := by
 subst hb
 exact ⟨fun h => ⟨of_decide_eq_true h, fun u hu e => by rw [hl u hu] at e; cases e⟩, fun h e => of_decide_eq_false h e.1⟩
theorem SeenB.stop {R : List (List Bool)} {l : List Int} {i : Nat} {t : Int} {left : Lit → Bool} {b : Bool} (h : SeenB R l i t left b) (ht : l.getD i 0 = t) (hl : ∀ kl, left kl = false) : staysB R l i = b := by
 cases b
 ·rw [Bool.eq_false_iff]
  exact fun e => h.2 rfl ((stays_iff ht).1 e)
 ·exact (stays_iff ht).2 ⟨(h.1 rfl).1, fun u hu => (h.1 rfl).2 u hu (hl _)⟩
theorem SeenB.good {R : List (List Bool)} {l : List Int} {i : Nat} {t x : Int} {left : Lit → Bool} {b : Bool} (h : SeenB R l i t left b) (hx : ¬ WorseB R l i t x) : SeenB R l i t (fun z => left z && !z.sameKey (.int .i64 x)) b := by
 refine ⟨fun hb => ⟨(h.1 hb).1, fun u hu e => ?_⟩, h.2⟩
 by_cases hu2 : left (.int .i64 u) = false
 ·exact (h.1 hb).2 u hu hu2
 ·have : u = x := by
   have hl : left (.int .i64 u) = true := by simpa using hu2
   have e' : (left (.int .i64 u) && !(Lit.int .i64 u).sameKey (.int .i64 x)) = false := e
   rw [hl] at e'
   simpa [Lit.sameKey] using e'
  rw [this]; exact hx
theorem SeenB.bad {R : List (List Bool)} {l : List Int} {i : Nat} {t x : Int} {left : Lit → Bool} (hm : x ∈ l) (hx : WorseB R l i t x) : SeenB R l i t left false :=
 ⟨fun h => (by cases h), fun _ e => e.2 x hm hx⟩
theorem rd_rel {w : World} {B : Nat} {A : Option Addr} {n c : Nat} {R : List (List Bool)} (h : Sl2 w B 1 A n c (R.map bcells)) (hq : ∀ r ∈ R, r.length = R.length) {i : Nat} (hi : i < R.length) :
  ∃ b o A' c', A = some ⟨b, o, none⟩ ∧ w.cell? ⟨b, o + i, none⟩ = some (.slice A' R.length c') ∧ R.length ≤ c' ∧ c' ≤ maxLen ∧ ∃ b' o', A' = some ⟨b', o', none⟩ ∧ ∀ k, k < R.length → w.cell? ⟨b', o' + k, none⟩ = some (.bool (relL R i k)) := by
 obtain ⟨b, o, A', n', c', h1, -, h2, h3⟩ := h.at_ (j := i) (ys := bcells R[i]) (by simp [hi])
 have hl := hq _ (mM hi)
 have hn : n' = R.length := by have := h3.len; rw [bcells_len, hl] at this; omega
 subst hn
 refine ⟨b, o, A', c', h1, h2, h3.cap, h3.max, ?_⟩
 have hat : ∀ k, k < R.length → (bcells R[i])[k]? = some (.bool (relL R i k)) := fun k hk => by
  have e : relL R i k = R[i].getD k false := by unfold relL; rw [show R.getD i [] = R[i] by rw [gD, gE hi]; rfl]
  rw [e]; exact bcells'_at (by omega)
 obtain ⟨b', o', h4, -, -⟩ := h3.rd.at_ (hat 0 (by omega))
 refine ⟨b', o', h4, fun k hk => ?_⟩
 obtain ⟨b2, o2, h5, -, h6⟩ := h3.rd.at_ (hat k hk)
 rw [h4] at h5
 cases h5
 exact h6
theorem lesser_any (l : List Int) (A : Option Addr) (n c : Nat) (Ar : Option Addr) (nr cr : Nat) (R : List (List Bool)) (w : World) (B : Nat) (hs : Sl w B 1 A n c (icells l)) (hR : Sl2 w B 1 Ar nr cr (R.map bcells)) (hB : B ≤ w.1.size) (hn : n = l.length) (hnl : n ≤ 1000000) (hnr : nr = R.length) (hRn : R.length ≤ 1000) (hq : ∀ r ∈ R, r.length = R.length) (hl : ∀ t ∈ l, isNd R.length t = true) :
  Calls Tryz.prog 21 #[.slice A n c, .slice Ar nr cr] w (IntsPost w (leftL R l)) := by
 have hb0 : Below w.1.size w (w.alloc (.map #[] 0)) := bR.alloc lR _
 have x0 := heap_alloc_new w (.map #[] 0)
 have z0 : (w.alloc (.map #[] 0)).1.size = w.1.size + 1 := by simp
 obtain ⟨W0, hW0⟩ := xQ (w.alloc (.map #[] 0))
 rw [hW0] at hb0 x0 z0
 have HW0 := dh hW0
 have HB0 := dh hb0
 have HSW := dh hs
 have HRW := dh hR
 have HS0 := dh (hs.below hb0 hB)
 have HG0 : Hid (GMap W0 3 w.1.size 0 (fun _ => none)) := dh (GMap.of_blk x0)
 have HL := dh hl
 have HQ := dh hq
 have hmk := run_makeMap (P := Tryz.prog) 44
 have hBw : B ≤ W0.1.size := by omega
 have hww : w.1.size ≤ W0.1.size := by omega
 have hbd : ∀ i (h : i < l.length), -9223372036854775808 ≤ l[i] ∧ l[i] ≤ 9223372036854775807 := fun i h => by
  obtain ⟨q, e, hq⟩ := isNd_nat (hl _ (mM h))
  rw [e]; omega
 have HBD := dh hbd
 have hcc := hs.cap
 have hmm := hs.max
 unfold maxLen at hmm
 subst hn
 clear hW0 hb0 x0 z0 hs hR hl hq hbd
 go_enter Tryz.func21, Tryz.ntmps21
 go_upto_region 2 with fail
 rw [HW0.out]
 clear hmk
 go_wp2_with fail
 go_loopw [19] (fun i wr => ∃ (k m : Nat) (g : Lit → Option Value), k ≤ l.length ∧ m ≤ k ∧ i = .int .i64 (k : Int) ∧ Hid (GMap wr 3 w.1.size m g) ∧ Hid (FirstG l k g) ∧ Hid (Tch (fun x => x = w.1.size) W0 wr)) (fun i _ => l.length - (intOf i).toNat)
 case atStart => exact ⟨0, 0, _, by omega, lR, rfl, HG0, dh (FirstG.zero l), dh (Tch.refl _ _)⟩
 case round =>
  obtain ⟨k, m, g, hk, hmk, rfl, HG, HF, HT⟩ := hrel
  have hzr := HT.out.size
  by_cases hlt : k < l.length
  ·obtain ⟨bb, o, rfl, hbb, hc0⟩ := (HS0.out.tch HT.out hBw (fun b hb e => by omega)).rd.at_ (j := k) (icells_at hlt)
   have wk : IntKind.i64.wrap ((k : Int) + 1) = (k : Int) + 1 := by rw [wI]; omega
   have hk0 : (0 : Int) ≤ (k : Int) := by omega
   have hk1 : (k : Int) < (l.length : Int) := by omega
   have hlook := mapI_look HG.out l[k] (HBD.out k hlt) true
   rw [HF.out l[k]] at hlook
   by_cases hm : l[k] ∈ l.take k
   ·rw [if_pos hm] at hlook
    simp only [Option.getD_some, Option.isSome_some, if_true] at hlook
    have HF2 := dh (HF.out.same hlt hm)
    generalize l[k] = t at *
    clear hm
    go_wp2_with fail
    go_roundw
    case rel => exact ⟨k + 1, m, g, by omega, by omega, congrArg (Value.int .i64) (by omega), HG, HF2, HT⟩
    case measure => simp [intOf]; omega
   ·rw [if_neg hm] at hlook
    simp only [Option.getD_none, Option.isSome_none, if_true] at hlook
    obtain ⟨w1, hup, hg1, hgr⟩ := mapI_update HG.out l[k] (HBD.out k hlt) (by omega) (.int .i64 (k : Int))
    obtain ⟨g', hp⟩ := putG_ex g (.int .i64 l[k]) (.int .i64 (k : Int))
    have HF2 := dh (HF.out.put hlt hm hp)
    have HG2 := dh (hg1 g' hp)
    have HT2 : Hid (Tch (fun x => x = w.1.size) W0 w1) := dh (HT.out.grown hgr (fun k e _ => (Option.some.inj e).symm))
    generalize l[k] = t at *
    clear hm hg1 hgr hp
    go_wp2_with fail
    go_roundw
    case rel => exact ⟨k + 1, m + 1, g', by omega, by omega, congrArg (Value.int .i64) (by omega), HG2, HF2, HT2⟩
    case measure => simp [intOf]; omega
  ·have hkn : k = l.length := by omega
   have HFN : Hid (FirstG l l.length g) := dh (by have := HF.out; rwa [hkn] at this)
   have hle : ¬ (k : Int) < (l.length : Int) := by omega
   have HBV : Hid (Below w.1.size w wr) := dh (HB0.out.trans (HT.out.below hww (fun x hx e => by omega)))
   clear hkn HF
   rename World => V
   have HSV := dh (HSW.out.below HBV.out hB)
   have HRV := dh (HRW.out.below HBV.out hB)
   have hBV : B ≤ V.1.size := Nat.le_trans hB HBV.out.size
   have hmV : w.1.size < V.1.size := HG.out.lt
   have hm9 : m ≤ 1000000 := by omega
   clear HT HS0 HG0 HSW HRW hk hmk hlt
   go_wp2_with fail
   clear hle
   go_loopw [10, 38] (fun o i wr => ∃ (k : Nat), k ≤ l.length ∧ i = .int .i64 (k : Int) ∧ Hid (wr.ownsRow V.1.size 3 1 o (leftU R l k).length (icells (leftU R l k))) ∧ Hid (Below V.1.size V wr)) (fun _ i _ => l.length - (intOf i).toNat)
   case atStart => exact ⟨0, by omega, rfl, dh (World.ownsRow_nil _ _ _ _), dh bR⟩
   case round =>
    obtain ⟨k, hk, rfl, HO, HB⟩ := hrel
    by_cases hlt : k < l.length
    ·obtain ⟨Av, cv, rfl, -⟩ := own_sl HO.out
     rename World => U1
     have hzU := HB.out.size
     obtain ⟨bb, o, rfl, hbb, hc0⟩ := (HSV.out.rd.below HB.out hBV).at_ (j := k) (icells_at hlt)
     obtain ⟨tn, htn, htl⟩ := isNd_nat (HL.out _ (mM hlt))
     have wk : IntKind.i64.wrap ((k : Int) + 1) = (k : Int) + 1 := by rw [wI]; omega
     have hk0 : (0 : Int) ≤ (k : Int) := by omega
     have hk1 : (k : Int) < (l.length : Int) := by omega
     have HTM : Hid ((tn : Int) ∈ l) := dh (htn ▸ mM hlt)
     have HTG : Hid (l.getD k 0 = (tn : Int)) := dh (by rw [gD, gE hlt, htn]; rfl)
     rw [htn] at hc0
     have hGU := HG.out.blk (HB.out.block _ hmV)
     have hlook := mapI_look hGU (tn : Int) (by omega) false
     rw [HFN.out (tn : Int), tL lR, if_pos HTM.out] at hlook
     simp only [Option.getD_some, Bool.false_eq_true, if_false] at hlook
     obtain ⟨D, hD, -, hDa⟩ := hGU
     have hhas : ∀ u ∈ l, has D (.int .i64 u) = true := fun u hu => by
      obtain ⟨un, rfl, hul⟩ := isNd_nat (HL.out u hu)
      refine has_true_of_atKey (y := .held (.int .i64 (firstP l un : Int))) (fun z => ?_)
      rw [hDa (.int .i64 (un : Int)) _ (keyI28 (by omega)) z, HFN.out, tL lR, if_pos hu]; rfl
     obtain ⟨b0, hb0⟩ := xQ (((firstP l (tn : Int) : Nat) : Int) == (k : Int))
     have HSS : Hid (SeenB R l k (tn : Int) (has D) b0) := dh (SeenB.start (by rw [← hb0, Bool.eq_iff_iff, beq_iff_eq, decide_eq_true_eq]; omega) hhas)
     have HDD := dh hD
     have HDA := dh hDa
     clear htn hD hDa hhas
     go_wp2_with (at_range; refine wpList_range_own _ rfl _ 44 rfl 3 3 lawI28 Tryz.underlying44 _ w.1.size m D rfl HDD.out ?_; intro w0 hrg0 hg0 hs0)
     go_frame
     have HRG0 := dh hrg0
     have HB0' : Hid (Below V.1.size V w0) := dh (HB.out.grown hg0 HB.out.size (fun j hj => by cases hj))
     have HO0 : Hid (w0.ownsRow V.1.size 3 1 (.slice Av (leftU R l k).length cv) (leftU R l k).length (icells (leftU R l k))) := dh (own_below HO.out ((Below.refl _ U1).grown hg0 lR (fun j hj => by cases hj)))
     clear hlook hb0 hc0 hrg0 hg0 hs0
     go_loopw [13] (fun b wq => ∃ (bv : Bool) (left : Lit → Bool) (cnt : Nat), b = .bool bv ∧ Hid (wq.ranges Tryz.prog 3 Rv w.1.size U1.1.size m D left cnt) ∧ Hid (SeenB R l k (tn : Int) left bv) ∧ Hid (Below V.1.size V wq) ∧ Hid (wq.ownsRow V.1.size 3 1 (.slice Av (leftU R l k).length cv) (leftU R l k).length (icells (leftU R l k)))) (fun _ wq => wq.rangeLeft w.1.size U1.1.size)
     case atStart => exact ⟨b0, _, _, rfl, HRG0, HSS, HB0', HO0⟩
     case round =>
      obtain ⟨bv, left, cnt, rfl, HRG, HSB, HBC, HOC⟩ := hrel
      have hzC := HBC.out.size
      clear HRG0 HSS HB0' HO0
      go_wp2_with (at_next; refine wpList_next_ranges _ rfl _ rfl 3 lawI28 Rv (Value.int .i64) id (fun key kl hk => by obtain ⟨x, rfl, _⟩ := Maps.keyOf_int_inv Tryz.underlying3 hk; exact ⟨x, rfl⟩) (fun v y _ => ⟨v, rfl⟩) w.1.size U1.1.size m D left cnt rfl HRG.out ?_ ?_)
      ·intro hc0 hl0
       have HST := dh (HSB.out.stop HTG.out hl0)
       have HLS := dh (leftU_snoc R l k)
       have hle := leftU_le R l k
       clear hc0 hl0
       cases bv
       ·go_wp2_with fail
        go_roundw
        case rel => exact ⟨k + 1, by omega, congrArg (Value.int .i64) (by omega), dh (by rw [HLS.out, HST.out]; simpa using HOC.out), HBC⟩
        case measure => simp [intOf]; omega
       ·have hnw := dh (heap_alloc_new wr (.cells #[.int .i64 (tn : Int)] 3))
        go_wp2_with (at_builtin; refine wpList_push rfl (.tmp 83) (.tmp 85) 22 rfl V.1.size 3 1 8 sliceInt _ _ _ (HOC.out.alloc _) rfl wr.1.size #[.int .i64 (tn : Int)] rfl hnw.out rfl (by simp [Value.oneCell']) (by omega) (by omega) (by simp; omega) ?_; intro u' wA hown3 ht3 hat3 hne3; have HOA := dh hown3; have HBA := dh (HBC.out.trans ((Tch.trans ((Tch.refl _ wr).alloc _) ht3 (fun _ _ h => h)).below hzC (fun q hq e => by have := (HOC.out.lt q e).1; omega))))
        go_roundw
        case rel => exact ⟨k + 1, by omega, congrArg (Value.int .i64) (by omega), dh (by rw [HLS.out, HST.out, if_pos rfl, HTG.out, lA, icells_append]; exact HOA.out), HBA⟩
        case measure => simp [intOf]; omega
      ·intro x v kl y ps wn cnt1 hky hlx hrv hat hrg1 hlt1 hg1 hs1 hen
       obtain ⟨x', ex, rfl, hwx⟩ := Maps.keyOf_int_inv Tryz.underlying3 hky
       cases ex
       have hv : x ∈ l ∧ v = .int .i64 (firstP l x : Int) := by
        obtain ⟨rfl, -⟩ : DataW.held v = y ∧ [] = ps := by simpa [Rv] using hrv
        have h1 := HDA.out _ _ hky (.lit (.bool true))
        rw [hat, HFN.out, tL lR] at h1
        by_cases hm : x ∈ l
        ·rw [if_pos hm] at h1
         exact ⟨hm, DataW.held.inj h1⟩
        ·rw [if_neg hm] at h1; cases h1
       obtain ⟨hxm, rfl⟩ := hv
       obtain ⟨xn, rfl, hxl⟩ := isNd_nat (HL.out x hxm)
       obtain ⟨fp, hfp⟩ := xQ (firstP l (xn : Int))
       try simp only [id_eq] at hen ⊢
       rw [hfp] at hen
       try rw [hfp]
       have hBn : Below V.1.size V wn := HBC.out.grown hg1 hzC (fun j hj => by cases hj; exact hzU)
       have hon : wn.ownsRow V.1.size 3 1 (.slice Av (leftU R l k).length cv) (leftU R l k).length (icells (leftU R l k)) := own_tch HOC.out ((Tch.refl (fun q => q = U1.1.size) wr).grown hg1 (fun q e _ => (Option.some.inj e).symm)) (fun g hg e => by
        have e : g = U1.1.size := e
        have := (HO.out.lt g hg).2
        omega)
       have HRn := HRV.out.below hBn hBV
       obtain ⟨bt, ot, At, ct, hA1, r0, hc1, hc2, bt', ot', hA3, r1⟩ := rd_rel HRn HQ.out htl
       obtain ⟨bx, ox, Ax, cx, hA2, r2, hd1, hd2, bx', ox', hA4, r3⟩ := rd_rel HRn HQ.out hxl
       have t1 := r1 xn hxl
       have t2 := r3 tn htl
       have HWB : Hid (WorseB R l k (tn : Int) (xn : Int) ↔ xn ≠ tn ∧ relL R tn xn = true ∧ (relL R xn tn = false ∨ fp < k)) := dh (by
        unfold WorseB
        rw [tN, tN, hfp]
        refine and_congr_left (fun _ => ?_)
        omega)
       have HRG1 := dh hrg1
       have HBN := dh hBn
       have HON := dh hon
       have HXM := dh hxm
       subst hA1
       cases hA2
       subst hA3 hA4
       have x0 : (0 : Int) ≤ (xn : Int) := by omega
       have x1 : (xn : Int) < (R.length : Int) := by omega
       have y0 : (0 : Int) ≤ (tn : Int) := by omega
       have y1 : (tn : Int) < (R.length : Int) := by omega
       clear hrg1 hBn hon hxm hfp hlx hrv hat hky hwx hg1 HRn r1 r3
       by_cases h1 : xn = tn
       ·have e1 : ((xn : Int) != (tn : Int)) = false := by simp [h1]
        have e2 : ((xn : Int) == (tn : Int)) = true := by simp [h1]
        have HW : Hid (¬ WorseB R l k (tn : Int) (xn : Int)) := dh (fun h => (HWB.out.1 h).1 h1)
        clear h1
        have HN : Hid (SeenB R l k (tn : Int) (fun z => left z && !z.sameKey (.int .i64 (xn : Int))) bv) := dh (HSB.out.good HW.out)
        go_wp2_with fail
        go_roundw
        case rel => exact ⟨bv, _, cnt1, rfl, HRG1, HN, HBN, HON⟩
        case measure => rw [HRG1.out.left_eq, HRG.out.left_eq]; exact hlt1
       ·have e1 : ((xn : Int) != (tn : Int)) = true := by simp; omega
        have e2 : ((xn : Int) == (tn : Int)) = false := by simp; omega
        have H1 := dh h1
        clear h1
        cases h2 : relL R tn xn
        ·rw [h2] at t1
         have HW : Hid (¬ WorseB R l k (tn : Int) (xn : Int)) := dh (fun h => by have := (HWB.out.1 h).2.1; rw [h2] at this; cases this)
         clear h2
         have HN : Hid (SeenB R l k (tn : Int) (fun z => left z && !z.sameKey (.int .i64 (xn : Int))) bv) := dh (HSB.out.good HW.out)
         go_wp2_with fail
         go_roundw
         case rel => exact ⟨bv, _, cnt1, rfl, HRG1, HN, HBN, HON⟩
         case measure => rw [HRG1.out.left_eq, HRG.out.left_eq]; exact hlt1
        ·rw [h2] at t1
         have H2 := dh h2
         clear h2
         cases h3 : relL R xn tn
         ·rw [h3] at t2
          have HW : Hid (WorseB R l k (tn : Int) (xn : Int)) := dh (HWB.out.2 ⟨H1.out, H2.out, .inl h3⟩)
          clear h3
          have HN : Hid (SeenB R l k (tn : Int) (fun z => left z && !z.sameKey (.int .i64 (xn : Int))) false) := dh (SeenB.bad HXM.out HW.out)
          go_wp2_with fail
          go_roundw
          case rel => exact ⟨false, _, cnt1, rfl, HRG1, HN, HBN, HON⟩
          case measure => rw [HRG1.out.left_eq, HRG.out.left_eq]; exact hlt1
         ·rw [h3] at t2
          by_cases h4 : fp < k
          ·have e4 : (fp : Int) < (k : Int) := by omega
           have HW : Hid (WorseB R l k (tn : Int) (xn : Int)) := dh (HWB.out.2 ⟨H1.out, H2.out, .inr h4⟩)
           clear h3 h4
           have HN : Hid (SeenB R l k (tn : Int) (fun z => left z && !z.sameKey (.int .i64 (xn : Int))) false) := dh (SeenB.bad HXM.out HW.out)
           go_wp2_with fail
           go_roundw
           case rel => exact ⟨false, _, cnt1, rfl, HRG1, HN, HBN, HON⟩
           case measure => rw [HRG1.out.left_eq, HRG.out.left_eq]; exact hlt1
          ·have e4 : ¬ (fp : Int) < (k : Int) := by omega
           have HW : Hid (¬ WorseB R l k (tn : Int) (xn : Int)) := dh (fun h => by
            rcases (HWB.out.1 h).2.2 with h5 | h5
            ·rw [h3] at h5; cases h5
            ·exact h4 h5)
           clear h3 h4
           have HN : Hid (SeenB R l k (tn : Int) (fun z => left z && !z.sameKey (.int .i64 (xn : Int))) bv) := dh (HSB.out.good HW.out)
           go_wp2_with fail
           go_roundw
           case rel => exact ⟨bv, _, cnt1, rfl, HRG1, HN, HBN, HON⟩
           case measure => rw [HRG1.out.left_eq, HRG.out.left_eq]; exact hlt1
    ·have hkn : k = l.length := by omega
     have HFI : Hid (wr.ownsRow V.1.size 3 1 _ (leftL R l).length (icells (leftL R l))) := dh (by have := HO.out; rw [hkn] at this; exact this)
     have hle : ¬ (k : Int) < (l.length : Int) := by omega
     clear hkn HO
     go_wp2_with fail
     go_ret
     exact ⟨_, rfl, own_base HFI.out HBV.out.size, HBV.out.trans (HB.out.mono HBV.out.size)⟩
end Go.Proofs.YtiebpncpdbnelaaGreatDoor
