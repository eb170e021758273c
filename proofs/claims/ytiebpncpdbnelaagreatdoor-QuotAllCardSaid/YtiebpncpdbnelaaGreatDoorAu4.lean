/- The walks of layer 30 (auto): over. -/
import Derived.Test.YtiebpncpdbnelaaGreatDoorZau
import Derived.Test.YtiebpncpdbnelaaGreatDoorPlM
set_option maxHeartbeats 16000000
set_option maxRecDepth 100000
namespace Go.Proofs.YtiebpncpdbnelaaGreatDoor
open Go.RowKit
def PlayPost (I : List Int) (E : List (List Nd)) (L ins : List Nat) (all : Nat) (w : World) (e : Ending) (w' : World) : Prop :=
 ∃ vi ve vs vl vn, e = .returned (.agg #[vi, ve, vl, vn, .int .u64 (all : Int)]) ∧ w'.ownsRow w.1.size 3 1 vi I.length (icells I) ∧ Own2 w' w.1.size 83 81 2 ve (E.map ncells) vs ∧
  w'.ownsRow w.1.size 34 1 vl L.length (ucellsN L) ∧ w'.ownsRow w.1.size 34 1 vn ins.length (ucellsN ins) ∧ Below w.1.size w w'
theorem bel_app {w0 w w1 : World} {e : TypeId} {size n pb : Nat} {v : Value} {xs : List Value} {o : Obj} (hb : Below w0.1.size w0 w) (hown : w.ownsRow w0.1.size e size v n xs) (ht : Tch (fun k => v.ownBlock = some k) (w.alloc o) w1) (hp : w0.1.size ≤ pb) (k : Nat) (v' : Value) :
  Below w0.1.size w0 (w1.setCell ⟨pb, k, none⟩ v') :=
 (hb.trans ((Tch.trans ((Tch.refl _ w).alloc o) ht (fun _ _ h => h)).below hb.size (fun k hk e => by have := (hown.lt k e).1; omega))).setCell (p := ⟨pb, k, none⟩) hp v'
theorem blk_app {w w1 : World} {base : Nat} {e t : TypeId} {size n pb xb : Nat} {v : Value} {xs : List Value} {cs : Array Value} {o : Obj} (hx : w.1[xb]? = some (.cells cs t (0, 0))) (hown : w.ownsRow base e size v n xs) (hne : e ≠ t) (ht : Tch (fun k => v.ownBlock = some k) (w.alloc o) w1) (hp : xb ≠ pb) (k : Nat) (v' : Value) :
  (w1.setCell ⟨pb, k, none⟩ v').1[xb]? = some (.cells cs t (0, 0)) :=
 (tch_cell (w := w1) pb k v').blk ((Tch.trans ((Tch.refl _ w).alloc o) ht (fun _ _ h => h)).blk hx (fun e => own_ne_blk hown hx hne e)) hp
def openK (a : Aut) (l : List Int) : List Int := l.filter (fun t => canB (a.at t.toNat))
theorem openK_snoc (a : Aut) {l : List Int} {i : Nat} (hi : i < l.length) : openK a (l.take (i + 1)) = openK a (l.take i) ++ (if canB (a.at l[i].toNat) = true then [l[i]] else []) := by
 unfold openK
 rw [take_snoc l i hi, List.filter_append]
 congr 1
 rw [List.filter_cons, List.filter_nil]
def rowO (a : Aut) (q : Nat) (l : List Int) : List Nd := (l.filter (fun t => canB (a.at q) && canB (a.at t.toNat))).map (fun t => ⟨t, 0⟩)
theorem rowO_snoc (a : Aut) (q : Nat) {l : List Int} {i : Nat} (hi : i < l.length) : rowO a q (l.take (i + 1)) = rowO a q (l.take i) ++ (if (canB (a.at q) && canB (a.at l[i].toNat)) = true then [⟨l[i], 0⟩] else []) := by
 unfold rowO
 rw [take_snoc l i hi, List.filter_append, List.map_append]
 congr 1
 rw [List.filter_cons, List.filter_nil]
 split <;> rfl
theorem rowO_le (a : Aut) (q : Nat) (l : List Int) : (rowO a q l).length ≤ l.length := by
 unfold rowO
 rw [List.length_map]; exact List.length_filter_le _ _
theorem play_done {w w0 wr wF : World} {pb rb : Nat} {vi ve vl vn : Value} {I : List Int} {E : List (List Nd)} {vs : List Value} {L ins : List Nat} {all : Nat} (h : PlM w0.1.size pb vi I ve E vs vl L vn ins all wr) (ht : Tch (fun k => k = rb) wr wF) (hr : rb < w0.1.size) (hw : w.1.size ≤ rb) (hb0 : Below w.1.size w w0) (hb : Below w0.1.size w0 wr) :
  PlayPost I E L ins all w (.returned (.agg #[vi, ve, vl, vn, .int .u64 (all : Int)])) wF := by
 have hz : w.1.size ≤ w0.1.size := by omega
 have hm : ∀ {e : TypeId} {size n : Nat} {v : Value} {xs : List Value}, wr.ownsRow w0.1.size e size v n xs → wF.ownsRow w.1.size e size v n xs := fun ho =>
  own_base (own_tch ho ht (fun g hg e => by have := (ho.lt g hg).1; omega)) hz
 refine ⟨vi, ve, vs, vl, vn, rfl, hm h.init, ?_, hm h.labels, hm h.ins, (hb0.trans (hb.mono hz)).trans (ht.below (by have := hb.size; omega) (fun k hk e => by omega))⟩
 refine (h.edges.tch ht (fun g hg e => by have := (h.edges.main.lt g hg).1; omega) (fun j u g hu hg e => by have := (h.edges.rowlt hu g hg).1; omega)).rebase hz
theorem set5P {w : World} {g T : Nat} {a b c d e : Value} {cs : Array Value} (h : w.1[g]? = some (.cells cs T (0, 0))) (hc : cs.size = 5) :
  (((((w.setCell ⟨g, 0, none⟩ a).setCell ⟨g, 1, none⟩ b).setCell ⟨g, 2, none⟩ c).setCell ⟨g, 3, none⟩ d).setCell ⟨g, 4, none⟩ e).1[g]? = some (.cells #[a, b, c, d, e] T (0, 0)) := by
 have h1 := heap_setCell_same w g 0 _ _ a h
 have h2 := heap_setCell_same _ g 1 _ _ b h1
 have h3 := heap_setCell_same _ g 2 _ _ c h2
 have h4 := heap_setCell_same _ g 3 _ _ d h3
 have h5 := heap_setCell_same _ g 4 _ _ e h4
 rw [h5]
 clear h1 h2 h3 h4 h5 h
 obtain ⟨l⟩ := cs
 match l, hc with
 | [p, q, r, s, u], _ => simp
def needsA (a : Aut) : List Nat := a.nodes.map (·.need)
theorem over_any (a : Aut) (s : Nat) (Ai : Option Addr) (ni ci : Nat) (An : Option Addr) (nn cn : Nat) (w : World) (B : Nat) (h : AutRd w B a Ai ni ci An nn cn) (hB : B ≤ w.1.size) (hA : a.Ok) (hs : s ≤ 16) (hnd : ∀ x ∈ a.nodes, x.need < 2 ^ 64 ∧ x.ban < 2 ^ 64)
  (hil : a.init.length ≤ 100000000) (hnl : a.nodes.length ≤ 100000000) (htl : ∀ x ∈ a.nodes, x.to.length ≤ 100000000) :
  Calls Tryz.prog 26 #[.agg #[.int .i64 (s : Int), .slice Ai ni ci, .slice An nn cn]] w (PlayPost (openI a) (openE a) (needsA a) (insA a) (allB s) w) := by
 obtain ⟨hb0, x0, y0, z0⟩ := two_new w (.cells #[.int .i64 (s : Int), .slice Ai ni ci, .slice An nn cn] 25) (.cells #[.slice none 0 0, .slice none 0 0, .slice none 0 0, .slice none 0 0, .int .u64 0] 57)
 obtain ⟨W0, hW0⟩ := xQ ((w.alloc (.cells #[.int .i64 (s : Int), .slice Ai ni ci, .slice An nn cn] 25)).alloc (.cells #[.slice none 0 0, .slice none 0 0, .slice none 0 0, .slice none 0 0, .int .u64 0] 57))
 rw [hW0] at hb0 x0 y0 z0
 have HR := dh (h.below hb0 hB)
 have hni := h.eni
 have hnn := h.enn
 have hci := h.init.cap
 have hmi := h.init.max
 obtain ⟨xsN, hsN, -⟩ := h.nodes
 have hcn := hsN.cap
 have hmn := hsN.max
 unfold maxLen at hmi hmn
 have HW0 := dh hW0
 have HX0 := dh x0
 have HY0 := dh y0
 have HZ0 := dh z0
 have HB0 := dh hb0
 have HNI := dh hni
 have HNN := dh hnn
 have HA := dh hA
 have HND := dh hnd
 have HTL := dh htl
 have hnil : ni ≤ 100000000 := by omega
 have hnnl : nn ≤ 100000000 := by omega
 have HEV := dh (every_any (.slice Ai ni ci) (.slice An nn cn) s W0 hs)
 have hBs : B ≤ W0.1.size := by omega
 obtain ⟨k0, k1, k2⟩ := box3A x0
 clear h hsN hW0 x0 y0 z0 hb0 hA hnd htl hil hni hnn hnl
 go_enter Tryz.func26, Tryz.ntmps26
 go_upto_region 1 with fail
 rw [HW0.out]
 go_wp2_with fail
 refine HEV.out.mono ?_
 rintro e w1 ⟨rfl, hb1⟩
 have HB1 := dh hb1
 have k0' : w1.cell? ⟨w.1.size, 0, none⟩ = some (.int .i64 (s : Int)) := bC hb1 (by show w.1.size < W0.1.size; have := HZ0.out; omega) k0
 have k1' : w1.cell? ⟨w.1.size, 1, none⟩ = some (.slice Ai ni ci) := bC hb1 (by show w.1.size < W0.1.size; have := HZ0.out; omega) k1
 clear hb1 k0 k1 k2
 obtain ⟨wP, hwP⟩ := xQ (w1.alloc (.cells #[.slice none 0 0, .slice none 0 0, .slice none 0 0, .slice none 0 0, .int .u64 ((allB s : Nat) : Int)] 57))
 have HWP := dh hwP
 go_upto_region 2 with fail
 have HCAN : Hid (∀ (w' : World) (q : Nat), Below W0.1.size W0 w' → q < nn → Calls Tryz.prog 48 #[.int .i64 (q : Int), .pointer (some ⟨w.1.size, 0, none⟩)] w' (Tru w' (canB (a.at q)))) := dh (fun w' q hb hq =>
  can_any a Ai ni ci An nn cn w' B w.1.size q (HR.out.below hb hBs) ((hb.cell (p := ⟨w.1.size, 2, none⟩) (by show w.1.size < W0.1.size; have := HZ0.out; omega)).trans (cR HX0.out)) hq HND.out)
 have hwPb : Below w1.1.size w1 wP := by rw [← hwP]; exact bR.alloc lR _
 have HBP := dh (HB1.out.trans (hwPb.mono HB1.out.size))
 have HPB : Hid (wP.1[w1.1.size]? = some (.cells #[.slice none 0 0, .slice none 0 0, .slice none 0 0, .slice none 0 0, .int .u64 ((allB s : Nat) : Int)] 57 (0, 0))) := dh (by rw [← hwP]; exact heap_alloc_new w1 _)
 have HP0 : Hid (PlM W0.1.size w1.1.size (.slice none 0 0) [] (.slice none 0 0) [] [] (.slice none 0 0) [] (.slice none 0 0) [] (allB s) wP) := dh ⟨HPB.out, World.ownsRow_nil _ _ _ _, Own2.nil _ _ _ _ _, World.ownsRow_nil _ _ _ _, World.ownsRow_nil _ _ _ _, fun g hg => by simp [Value.ownBlock] at hg, HB1.out.size⟩
 have HSZ := dh HB1.out.size
 obtain ⟨pb, hpb⟩ := xQ w1.1.size
 rw [hpb] at HP0 HSZ ⊢
 have hab : w.1.size < W0.1.size := by have := HZ0.out; omega
 have k1p : wP.cell? ⟨w.1.size, 1, none⟩ = some (.slice Ai ni ci) := (HBP.out.cell (p := ⟨w.1.size, 1, none⟩) hab).trans (cR HX0.out)
 clear hwP hwPb hpb HWP HB1 HPB HEV k0' k1'
 go_wp2_with fail
 go_loopw [19] (fun v wr => ∃ (i : Nat) (vi : Value), i ≤ ni ∧ v = .int .i64 i ∧ Hid (PlM W0.1.size pb vi (openK a (a.init.take i)) (.slice none 0 0) [] [] (.slice none 0 0) [] (.slice none 0 0) [] (allB s) wr) ∧ Hid (Below W0.1.size W0 wr)) (fun v _ => ni - (intOf v).toNat)
 case atStart => exact ⟨0, _, by omega, rfl, HP0, HBP⟩
 case round =>
  clear HP0 HBP k1p
  obtain ⟨i, vi, hi, rfl, HP, HB⟩ := hrel
  have hzr := HB.out.size
  by_cases hlt : i < ni
  ·have hlt' : (i : Int) < (ni : Int) := by omega
   have hi0 : (0 : Int) ≤ (i : Int) := by omega
   have hil : i < a.init.length := by rw [← HNI.out]; exact hlt
   obtain ⟨b, o, rfl, hbl, c0⟩ := rd_intS (HR.out.init.below HB.out hBs) hil
   obtain ⟨q, hqe, hq⟩ := HA.out.first (mM hil)
   have hq' : q < nn := by rw [HNN.out]; exact hq
   have HSN := dh (openK_snoc a hil)
   rw [hqe] at c0 HSN
   have HC := dh (HCAN.out wr q HB.out hq')
   have wi : IntKind.i64.wrap ((i : Int) + 1) = i + 1 := by rw [wI]; omega
   clear hqe hq
   go_wp2_with fail
   refine HC.out.mono ?_
   cases hc : canB (a.at q)
   ·rintro e w2 ⟨rfl, hb2⟩
    have HPx : Hid (openK a (a.init.take (i + 1)) = openK a (a.init.take i)) := dh (by rw [HSN.out, tN, hc]; simp)
    have HP2 := dh (HP.out.below hb2)
    have HB2 := dh (HB.out.trans (hb2.mono hzr))
    clear hb2 hc
    go_wp2_with fail
    exact ⟨⟨i + 1, vi, by omega, congrArg (Value.int .i64) (by omega), dh (by rw [HPx.out]; exact HP2.out), HB2⟩, by simp [intOf]; omega⟩
   ·rintro e w2 ⟨rfl, hb2⟩
    have HPx : Hid (openK a (a.init.take (i + 1)) = openK a (a.init.take i) ++ [(q : Int)]) := dh (by rw [HSN.out, tN, hc]; simp)
    have HP2 := dh (HP.out.below hb2)
    have HB2 := dh (HB.out.trans (hb2.mono hzr))
    have hle : (openK a (a.init.take i)).length ≤ i := Nat.le_trans (List.length_filter_le _ _) (by rw [List.length_take]; omega)
    have hz2 := HB2.out.size
    generalize openK a (a.init.take i) = I at *
    obtain ⟨Av, cv, rfl, -⟩ := own_sl HP2.out.init
    obtain ⟨p0, p1, p2, p3, p4⟩ := HP2.out.cells
    have hnw := dh (heap_alloc_new w2 (.cells #[.int .i64 (q : Int)] 3))
    have HO := dh HP2.out.init
    clear hb2 hc c0 p1 p2 p3 p4
    go_wp2_with (at_builtin; refine wpList_push rfl (.tmp 28) (.tmp 30) 22 rfl W0.1.size 3 1 8 sliceInt _ _ _ (HO.out.alloc _) rfl w2.1.size #[.int .i64 (q : Int)] rfl hnw.out rfl (by simp [Value.oneCell']) (by omega) (by omega) (by simp; omega) ?_; intro u' wA hown3 ht3 hat3 hne3; obtain ⟨g', cap', rfl, _⟩ := own_form hown3 (by omega); have HRW := dh (HP2.out.app_init hown3 ht3 hat3); have HBA := dh (bel_app HB2.out HO.out ht3 HSZ.out 0 (.slice (some ⟨g', 0, none⟩) (I.length + 1) cap')); have r1 := HRW.out.1; have r2 := HRW.out.2.1; have r3 := HRW.out.2.2.1)
    exact ⟨⟨i + 1, _, by omega, congrArg (Value.int .i64) (by omega), dh (by rw [HPx.out]; exact HRW.out.2.2.2), HBA⟩, by simp [intOf]; omega⟩
  ·have hin : i = ni := by omega
   subst hin
   have HPI : Hid (PlM W0.1.size pb vi (openI a) (.slice none 0 0) [] [] (.slice none 0 0) [] (.slice none 0 0) [] (allB s) wr) := dh (by have := HP.out; rw [HNI.out, List.take_length] at this; exact this)
   have k2p : wr.cell? ⟨w.1.size, 2, none⟩ = some (.slice An nn cn) := (HB.out.cell (p := ⟨w.1.size, 2, none⟩) hab).trans (cR HX0.out)
   clear HP
   obtain ⟨wq, rfl⟩ := xR wr
   go_wp2_with fail
   go_loopw [38] (fun v wr => ∃ (q : Nat) (ve : Value) (vs : List Value) (vl vn : Value), q ≤ nn ∧ v = .int .i64 q ∧ Hid (PlM W0.1.size pb vi (openI a) ve ((List.range q).map (openR a)) vs vl ((needsA a).take q) vn ((insA a).take q) (allB s) wr) ∧ Hid (Below W0.1.size W0 wr)) (fun v _ => nn - (intOf v).toNat)
   case atStart => exact ⟨0, _, _, _, _, by omega, rfl, HPI, HB⟩
   case round =>
    clear HPI HB k2p hzr
    obtain ⟨q, ve, vs, vl, vn, hq, rfl, HP, HB⟩ := hrel
    have hzr := HB.out.size
    by_cases hlt : q < nn
    ·have hlt' : (q : Int) < (nn : Int) := by omega
     have hq0 : (0 : Int) ≤ (q : Int) := by omega
     obtain ⟨b, o, x, At, ct, rfl, hbl, hx, c0, c1, c2, c3, hst⟩ := rd_aut (HR.out.below HB.out hBs) hlt
     have hxe : a.at q = x := by unfold Aut.at; rw [gD, hx]; rfl
     have hxm := List.mem_of_getElem? hx
     have htl := HTL.out x hxm
     have hmt := hst.max
     have hct := hst.cap
     unfold maxLen at hmt
     have wi : IntKind.i64.wrap ((q : Int) + 1) = q + 1 := by rw [wI]; omega
     have HXE := dh hxe
     have hbx : Below wr.1.size wr (wr.alloc (.cells #[.int .u64 (x.need : Int), .int .u64 (x.ban : Int), .int .u64 (x.inn : Int), .slice At x.to.length ct] 36)) := bR.alloc lR _
     have hxx := heap_alloc_new wr (.cells #[.int .u64 (x.need : Int), .int .u64 (x.ban : Int), .int .u64 (x.inn : Int), .slice At x.to.length ct] 36)
     have hzx : (wr.alloc (.cells #[.int .u64 (x.need : Int), .int .u64 (x.ban : Int), .int .u64 (x.inn : Int), .slice At x.to.length ct] 36)).1.size = wr.1.size + 1 := by simp
     obtain ⟨wx, hwx⟩ := xQ (wr.alloc (.cells #[.int .u64 (x.need : Int), .int .u64 (x.ban : Int), .int .u64 (x.inn : Int), .slice At x.to.length ct] 36))
     rw [hwx] at hbx hxx hzx
     have HWX := dh hwx
     have HXX := dh hxx
     have HZX := dh hzx
     have HST := dh (hst.below hbx (by omega))
     have HPX := dh (HP.out.below hbx)
     have HBX := dh (HB.out.trans (hbx.mono hzr))
     have hne : wr.1.size ≠ pb := by have := HP.out.lt; omega
     have HM := dh hxm
     clear hst hx hxe hbx hxx hzx hxm
     go_upto_region 12 with fail
     obtain ⟨xb, hxb⟩ := xQ wr.1.size
     rw [hxb] at HXX HZX hne ⊢
     clear hwx HWX HP HB hxb hzr c0 c1 c2 c3 wr
     obtain ⟨e0, e1, e2, e3⟩ := box4A HXX.out
     have hzX := HBX.out.size
     go_wp2_with fail
     go_loopw [9, 46] (fun u v wr => ∃ m : Nat, m ≤ x.to.length ∧ v = .int .i64 m ∧ Hid (wr.ownsRow wx.1.size 83 2 u (rowO a q (x.to.take m)).length (ncells (rowO a q (x.to.take m)))) ∧ Hid (Below wx.1.size wx wr)) (fun _ v _ => x.to.length - (intOf v).toNat)
     case atStart => exact ⟨0, by omega, rfl, dh (World.ownsRow_nil _ _ _ _), dh bR⟩
     case round =>
      clear e0 e1 e2 e3
      obtain ⟨m, hm, rfl, HO, HBr⟩ := hrel
      have hzr := HBr.out.size
      by_cases hmt2 : m < x.to.length
      ·have hm1 : (m : Int) < (x.to.length : Int) := by omega
       have hm0 : (0 : Int) ≤ (m : Int) := by omega
       obtain ⟨b2, o2, rfl, hbl2, d0⟩ := rd_intS (HST.out.below HBr.out (by omega)) hmt2
       obtain ⟨j, hje, hj⟩ := isNd_nat (HA.out.2 x HM.out _ (mM hmt2))
       have hj' : j < nn := by rw [HNN.out]; exact hj
       have HSN := dh (rowO_snoc a q hmt2)
       rw [hje] at d0 HSN
       have HBq := dh (HBX.out.trans (HBr.out.mono hzX))
       have HC := dh (HCAN.out wr q HBq.out hlt)
       have wm : IntKind.i64.wrap ((m : Int) + 1) = m + 1 := by rw [wI]; omega
       clear hje hj
       go_wp2_with fail
       refine HC.out.mono ?_
       cases hc : canB (a.at q)
       ·rintro e w2 ⟨rfl, hb2⟩
        have HPx : Hid (rowO a q (x.to.take (m + 1)) = rowO a q (x.to.take m)) := dh (by rw [HSN.out, hc]; simp)
        have HO2 := dh (own_below HO.out hb2)
        have HB2 := dh (HBr.out.trans (hb2.mono hzr))
        clear hb2 hc
        go_wp2_with fail
        exact ⟨⟨m + 1, by omega, congrArg (Value.int .i64) (by omega), dh (by rw [HPx.out]; exact HO2.out), HB2⟩, by simp [intOf]; omega⟩
       ·rintro e w2 ⟨rfl, hb2⟩
        have hz2 := hb2.size
        have HO2 := dh (own_below HO.out hb2)
        have HB2 := dh (HBr.out.trans (hb2.mono hzr))
        have HC2 := dh (HCAN.out w2 j (HBq.out.trans (hb2.mono HBq.out.size)) hj')
        have HCQ := dh hc
        clear hb2 hc HO HC d0
        go_wp2_with fail
        refine HC2.out.mono ?_
        cases hc : canB (a.at j)
        ·rintro e w3 ⟨rfl, hb3⟩
         have HPx : Hid (rowO a q (x.to.take (m + 1)) = rowO a q (x.to.take m)) := dh (by rw [HSN.out, HCQ.out, tN, hc]; simp)
         have HO3 := dh (own_below HO2.out hb3)
         have HB3 := dh (HB2.out.trans (hb3.mono HB2.out.size))
         clear hb3 hc
         go_wp2_with fail
         exact ⟨⟨m + 1, by omega, congrArg (Value.int .i64) (by omega), dh (by rw [HPx.out]; exact HO3.out), HB3⟩, by simp [intOf]; omega⟩
        ·rintro e w3 ⟨rfl, hb3⟩
         have HPx : Hid (rowO a q (x.to.take (m + 1)) = rowO a q (x.to.take m) ++ [⟨(j : Int), 0⟩]) := dh (by rw [HSN.out, HCQ.out, tN, hc]; simp)
         have HO3 := dh (own_below HO2.out hb3)
         have HB3 := dh (HB2.out.trans (hb3.mono HB2.out.size))
         have hle : (rowO a q (x.to.take m)).length ≤ m := Nat.le_trans (rowO_le a q _) (by rw [List.length_take]; omega)
         have hz3 := HB3.out.size
         clear hb3 hc HO2 HSN
         generalize rowO a q (x.to.take m) = Y at *
         obtain ⟨Au, cu, rfl, -⟩ := own_sl HO3.out
         have hnw := dh (heap_alloc_new w3 (.cells #[.int .i64 (j : Int), .int .i64 0] 83))
         go_wp2_with (at_builtin; refine wpList_push rfl (.tmp 58) (.tmp 61) 81 rfl wx.1.size 83 2 16 sliceEd _ _ _ (HO3.out.alloc _) rfl w3.1.size #[.int .i64 (j : Int), .int .i64 0] rfl hnw.out rfl (by simp [Value.oneCell']) (by omega) (by omega) (by simp; omega) ?_; intro u' wA hown3 ht3 hat3 hne3; obtain ⟨g', cap', rfl, _⟩ := own_form hown3 (by omega); have HOA := dh hown3; have HBA := dh (HB3.out.trans ((Tch.trans ((Tch.refl _ w3).alloc _) ht3 (fun _ _ h => h)).below hz3 (fun k hk e => by have := (HO3.out.lt k e).1; omega))))
         exact ⟨⟨m + 1, by omega, congrArg (Value.int .i64) (by omega), dh (by rw [HPx.out, lA, ncells_append]; simpa [ncells] using HOA.out), HBA⟩, by simp [intOf]; omega⟩
      ·have hme : m = x.to.length := by omega
       subst hme
       have HU : Hid (wr.ownsRow wx.1.size 83 2 u9 (openR a q).length (ncells (openR a q))) := dh (by have := HO.out; rw [List.take_length, ← HXE.out] at this; exact this)
       have HPr := dh (HPX.out.below HBr.out)
       have HBz := dh (HBX.out.trans (HBr.out.mono hzX))
       have HXz : Hid (wr.1[xb]? = some _) := dh ((HBr.out.block xb (by have := HZX.out; omega)).trans HXX.out)
       have hzz := HBz.out.size
       have HQE : Hid ((List.range (q + 1)).map (openR a) = (List.range q).map (openR a) ++ [openR a q]) := dh (by rw [List.range_succ, List.map_append]; rfl)
       have hqa : q < a.nodes.length := by rw [← HNN.out]; exact hlt
       have HQN : Hid ((needsA a).take (q + 1) = (needsA a).take q ++ [x.need]) := dh (by
        rw [take_snoc _ q (by unfold needsA; rw [List.length_map]; exact hqa)]
        congr 2
        unfold needsA
        rw [List.getElem_map, ← HXE.out]; unfold Aut.at; rw [gD, gE hqa]; rfl)
       have HQI : Hid ((insA a).take (q + 1) = (insA a).take q ++ [x.inn]) := dh (by
        rw [take_snoc _ q (by unfold insA; rw [List.length_map]; exact hqa)]
        congr 2
        unfold insA
        rw [List.getElem_map, ← HXE.out]; unfold Aut.at; rw [gD, gE hqa]; rfl)
       have HLE : Hid ((((List.range q).map (openR a)).map ncells).length = q) := dh (by simp)
       have HLN : Hid (((needsA a).take q).length = q) := dh (by unfold needsA; simp; omega)
       have HLI : Hid (((insA a).take q).length = q) := dh (by unfold insA; simp; omega)
       generalize (List.range q).map (openR a) = E at *
       generalize (needsA a).take q = LN at *
       generalize (insA a).take q = LI at *
       generalize openR a q = row at *
       obtain ⟨Ar, cr, hur, -⟩ := own_sl HU.out
       rw [hur] at HU
       subst hur
       have HUD : Hid (∀ (j : Nat) y g, vs[j]? = some y → y.ownBlock = some g → (Value.slice Ar row.length cr).ownBlock ≠ some g) := dh (fun j y g hy hg e => by
        have h1 := (HU.out.lt g e).1
        have h2 := (HPX.out.edges.rowlt hy g hg).2
        omega)
       have HUB := dh (own_base HU.out hzX)
       obtain ⟨Ae, ce, hve, -⟩ := own_sl HPr.out.edges.main
       rw [HLE.out] at hve
       subst hve
       have HO1 : Hid (wr.ownsRow W0.1.size 81 1 (.slice Ae q ce) q vs) := dh (by have := HPr.out.edges.main; rwa [HLE.out] at this)
       obtain ⟨p0, p1, p2, p3, p4⟩ := HPr.out.cells
       clear HO p0 p2 p3 p4 HPX
       have hnw1 := dh (heap_alloc_new wr (.cells #[.slice Ar row.length cr] 81))
       go_upto_region 20 with (at_builtin; refine wpList_push rfl (.tmp 66) (.tmp 68) 53 rfl W0.1.size 81 1 24 sliceRowsE _ _ _ (HO1.out.alloc _) rfl wr.1.size #[.slice Ar row.length cr] rfl hnw1.out rfl (by simp [Value.oneCell']) (by omega) (by omega) (by simp; omega) ?_; intro u' wA1 ho1 ht1 hat1 hne1; obtain ⟨g1, cap1, rfl, _⟩ := own_form ho1 (by omega); have HRW1 := dh (HPr.out.app_edges HUB.out HUD.out (by rw [HLE.out]; exact ho1) ht1 hat1); have HBA1 := dh (bel_app HBz.out HO1.out ht1 HSZ.out 1 (.slice (some ⟨g1, 0, none⟩) (q + 1) cap1)); have HXA1 := dh (blk_app HXz.out HO1.out (by decide) ht1 hne 1 (.slice (some ⟨g1, 0, none⟩) (q + 1) cap1)); have r1 := HRW1.out.1; have r2 := HRW1.out.2.1; have r3 := HRW1.out.2.2.1)
       obtain ⟨wB, hwB⟩ := xQ (wA1.setCell ⟨pb, 1, none⟩ (.slice (some ⟨g1, 0, none⟩) (q + 1) cap1))
       have HP2 : Hid (PlM _ _ _ _ _ _ _ _ _ _ _ _ wB) := dh (by rw [← hwB]; exact HRW1.out.2.2.2)
       have HB2 : Hid (Below W0.1.size W0 wB) := dh (by rw [← hwB]; exact HBA1.out)
       have HX2 : Hid (wB.1[xb]? = some _) := dh (by rw [← hwB]; exact HXA1.out)
       rw [hwB]
       clear hwB HRW1 HBA1 HXA1 HO1 hnw1 r1 r2 r3 ho1 ht1 hat1 hne1 p1 HPr HBz HXz HUD HUB HU
       have hz2 := HB2.out.size
       obtain ⟨Al, cl, hvl, -⟩ := own_sl HP2.out.labels
       rw [HLN.out] at hvl
       subst hvl
       have HO2 : Hid (wB.ownsRow W0.1.size 34 1 (.slice Al q cl) q (ucellsN LN)) := dh (by have := HP2.out.labels; rwa [HLN.out] at this)
       obtain ⟨p0, p1, p2, p3, p4⟩ := HP2.out.cells
       obtain ⟨e0, e1, e2, e3⟩ := box4A HX2.out
       clear p0 p1 p3 p4 e1 e2 e3
       have hnw2 := dh (heap_alloc_new wB (.cells #[.int .u64 (x.need : Int)] 34))
       go_upto_region 21 with (at_builtin; refine wpList_push rfl (.tmp 74) (.tmp 77) 27 rfl W0.1.size 34 1 8 sliceU64 _ _ _ (HO2.out.alloc _) rfl wB.1.size #[.int .u64 (x.need : Int)] rfl hnw2.out rfl (by simp [Value.oneCell']) (by omega) (by omega) (by simp; omega) ?_; intro u' wA2 ho2 ht2 hat2 hne2; obtain ⟨g2, cap2, rfl, _⟩ := own_form ho2 (by omega); have HRW2 := dh (HP2.out.app_labels (by rw [HLN.out]; exact ho2) ht2 hat2); have HBA2 := dh (bel_app HB2.out HO2.out ht2 HSZ.out 2 (.slice (some ⟨g2, 0, none⟩) (q + 1) cap2)); have HXA2 := dh (blk_app HX2.out HO2.out (by decide) ht2 hne 2 (.slice (some ⟨g2, 0, none⟩) (q + 1) cap2)); have r1 := HRW2.out.1; have r2 := HRW2.out.2.1; have r3 := HRW2.out.2.2.1)
       obtain ⟨wC, hwC⟩ := xQ (wA2.setCell ⟨pb, 2, none⟩ (.slice (some ⟨g2, 0, none⟩) (q + 1) cap2))
       have HP3 : Hid (PlM _ _ _ _ _ _ _ _ _ _ _ _ wC) := dh (by rw [← hwC]; exact HRW2.out.2.2.2)
       have HB3 : Hid (Below W0.1.size W0 wC) := dh (by rw [← hwC]; exact HBA2.out)
       have HX3 : Hid (wC.1[xb]? = some _) := dh (by rw [← hwC]; exact HXA2.out)
       rw [hwC]
       clear hwC HRW2 HBA2 HXA2 HO2 hnw2 r1 r2 r3 ho2 ht2 hat2 hne2 p2 e0 HP2 HB2 HX2 hz2
       have hz3 := HB3.out.size
       obtain ⟨An', cn', hvn, -⟩ := own_sl HP3.out.ins
       rw [HLI.out] at hvn
       subst hvn
       have HO3 : Hid (wC.ownsRow W0.1.size 34 1 (.slice An' q cn') q (ucellsN LI)) := dh (by have := HP3.out.ins; rwa [HLI.out] at this)
       obtain ⟨p0, p1, p2, p3, p4⟩ := HP3.out.cells
       obtain ⟨e0, e1, e2, e3⟩ := box4A HX3.out
       clear p0 p1 p2 p4 e0 e1 e3
       have hnw3 := dh (heap_alloc_new wC (.cells #[.int .u64 (x.inn : Int)] 34))
       go_wp2_with (at_builtin; refine wpList_push rfl (.tmp 82) (.tmp 85) 27 rfl W0.1.size 34 1 8 sliceU64 _ _ _ (HO3.out.alloc _) rfl wC.1.size #[.int .u64 (x.inn : Int)] rfl hnw3.out rfl (by simp [Value.oneCell']) (by omega) (by omega) (by simp; omega) ?_; intro u' wA3 ho3 ht3 hat3 hne3; obtain ⟨g3, cap3, rfl, _⟩ := own_form ho3 (by omega); have HRW3 := dh (HP3.out.app_ins (by rw [HLI.out]; exact ho3) ht3 hat3); have HBA3 := dh (bel_app HB3.out HO3.out ht3 HSZ.out 3 (.slice (some ⟨g3, 0, none⟩) (q + 1) cap3)); have r1 := HRW3.out.1; have r2 := HRW3.out.2.1; have r3 := HRW3.out.2.2.1)
       exact ⟨⟨q + 1, _, _, _, _, by omega, congrArg (Value.int .i64) (by omega), dh (by rw [HQE.out, HQN.out, HQI.out]; exact HRW3.out.2.2.2), HBA3⟩, by simp [intOf]; omega⟩
    ·have hqn : q = nn := by omega
     subst hqn
     have HE1 : Hid ((List.range q).map (openR a) = openE a) := dh (by rw [HNN.out]; rfl)
     have HE2 : Hid ((needsA a).take q = needsA a) := dh (tL (by unfold needsA; rw [List.length_map, HNN.out]; exact lR))
     have HE3 : Hid ((insA a).take q = insA a) := dh (tL (by unfold insA; rw [List.length_map, HNN.out]; exact lR))
     rw [HE1.out, HE2.out, HE3.out] at HP
     obtain ⟨Ai', ci', rfl, -⟩ := own_sl HP.out.init
     obtain ⟨Ae, ce, rfl, -⟩ := own_sl HP.out.edges.main
     obtain ⟨Al, cl, rfl, -⟩ := own_sl HP.out.labels
     obtain ⟨An', cn', rfl, -⟩ := own_sl HP.out.ins
     have hl1 : ((openE a).map ncells).length = q := by rw [List.length_map, openE_len, HNN.out]
     have hl2 : (needsA a).length = q := by unfold needsA; rw [List.length_map, HNN.out]
     have hl3 : (insA a).length = q := by unfold insA; rw [List.length_map, HNN.out]
     rw [hl1, hl2, hl3] at HP
     have HL2 := dh hl2
     have HL3 := dh hl3
     generalize hil : (openI a).length = ni' at *
     have HIL := dh hil
     clear hl1 hl2 hl3 hil
     obtain ⟨p0, p1, p2, p3, p4⟩ := HP.out.cells
     have hy : wr.1[w.1.size + 1]? = some _ := (HB.out.block (w.1.size + 1) (by have := HZ0.out; omega)).trans HY0.out
     have hylt : w.1.size + 1 < wr.1.size := by have := HZ0.out; omega
     have f0 : wr.frozen? ⟨w.1.size + 1, 0, none⟩ = false := frozen_of_row wr _ 0 _ _ hy
     have f1 : wr.frozen? ⟨w.1.size + 1, 1, none⟩ = false := frozen_of_row wr _ 1 _ _ hy
     have f2 : wr.frozen? ⟨w.1.size + 1, 2, none⟩ = false := frozen_of_row wr _ 2 _ _ hy
     have f3 : wr.frozen? ⟨w.1.size + 1, 3, none⟩ = false := frozen_of_row wr _ 3 _ _ hy
     have f4 : wr.frozen? ⟨w.1.size + 1, 4, none⟩ = false := frozen_of_row wr _ 4 _ _ hy
     have y0 : wr.cell? ⟨w.1.size + 1, 0, none⟩ = some (.slice none 0 0) := cR hy
     have y1 : wr.cell? ⟨w.1.size + 1, 1, none⟩ = some (.slice none 0 0) := cR hy
     have y2 : wr.cell? ⟨w.1.size + 1, 2, none⟩ = some (.slice none 0 0) := cR hy
     have y3 : wr.cell? ⟨w.1.size + 1, 3, none⟩ = some (.slice none 0 0) := cR hy
     have y4 : wr.cell? ⟨w.1.size + 1, 4, none⟩ = some (.int .u64 0) := cR hy
     have HY := dh hy
     clear hy
     go_wp2_with fail
     have hset := set5P (a := .slice Ai' ni' ci') (b := .slice Ae q ce) (c := .slice Al q cl) (d := .slice An' q cn') (e := .int .u64 ((allB s : Nat) : Int)) HY.out rfl
     have HT : Hid (Tch (fun k => k = w.1.size + 1) wr (((((wr.setCell ⟨w.1.size + 1, 0, none⟩ (.slice Ai' ni' ci')).setCell ⟨w.1.size + 1, 1, none⟩ (.slice Ae q ce)).setCell ⟨w.1.size + 1, 2, none⟩ (.slice Al q cl)).setCell ⟨w.1.size + 1, 3, none⟩ (.slice An' q cn')).setCell ⟨w.1.size + 1, 4, none⟩ (.int .u64 ((allB s : Nat) : Int)))) := dh (Tch.setCell (S := fun k => k = w.1.size + 1) (p := ⟨w.1.size + 1, 4, none⟩) (Tch.setCell (S := fun k => k = w.1.size + 1) (p := ⟨w.1.size + 1, 3, none⟩) (Tch.setCell (S := fun k => k = w.1.size + 1) (p := ⟨w.1.size + 1, 2, none⟩) (Tch.setCell (S := fun k => k = w.1.size + 1) (p := ⟨w.1.size + 1, 1, none⟩) (Tch.setCell (S := fun k => k = w.1.size + 1) (p := ⟨w.1.size + 1, 0, none⟩) (Tch.refl _ wr) (fun _ => rfl) _) (fun _ => rfl) _) (fun _ => rfl) _) (fun _ => rfl) _) (fun _ => rfl) _)
     generalize ((((wr.setCell ⟨w.1.size + 1, 0, none⟩ (.slice Ai' ni' ci')).setCell ⟨w.1.size + 1, 1, none⟩ (.slice Ae q ce)).setCell ⟨w.1.size + 1, 2, none⟩ (.slice Al q cl)).setCell ⟨w.1.size + 1, 3, none⟩ (.slice An' q cn')).setCell ⟨w.1.size + 1, 4, none⟩ (.int .u64 ((allB s : Nat) : Int)) = wF at *
     have g0 : wF.cell? ⟨w.1.size + 1, 0, none⟩ = some (.slice Ai' ni' ci') := cR hset
     have g1 : wF.cell? ⟨w.1.size + 1, 1, none⟩ = some (.slice Ae q ce) := cR hset
     have g2 : wF.cell? ⟨w.1.size + 1, 2, none⟩ = some (.slice Al q cl) := cR hset
     have g3 : wF.cell? ⟨w.1.size + 1, 3, none⟩ = some (.slice An' q cn') := cR hset
     have g4 : wF.cell? ⟨w.1.size + 1, 4, none⟩ = some (.int .u64 ((allB s : Nat) : Int)) := cR hset
     refine bodyPost_ret (v := .agg #[.slice Ai' ni' ci', .slice Ae q ce, .slice Al q cl, .slice An' q cn', .int .u64 ((allB s : Nat) : Int)]) ?_ rfl (play_done HP.out HT.out (by have := HZ0.out; omega) (by omega) HB0.out HB.out)
     simp [results, Tryz.results26, go_sem, g0, g1, g2, g3, g4]
end Go.Proofs.YtiebpncpdbnelaaGreatDoor
