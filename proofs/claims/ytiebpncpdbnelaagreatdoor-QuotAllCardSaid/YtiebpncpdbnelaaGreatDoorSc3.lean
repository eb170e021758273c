/- The walks of layer 7 (strongly connected parts): leave. -/
import Derived.Test.YtiebpncpdbnelaaGreatDoorZas
set_option maxHeartbeats 4000000
set_option maxRecDepth 100000
namespace Go.Proofs.YtiebpncpdbnelaaGreatDoor
open Go.RowKit
def CutPost (X : Nat) (xo : Obj) (base b : Nat) (EA : Value) (N qn ql qx qi qp : Nat) (vw : Value) (s : Sc) (a L : List Nat) (w : World) (e : Ending) (w' : World) : Prop :=
 (∃ v, e = .returned v) ∧ (∃ m vs', m ∈ L ∧ (∀ y ∈ L, m ≤ y) ∧ ScM X xo base b EA N qn ql qx qi qp vs' vw (s.cut a L m) w') ∧ Below base w w'
theorem slice_fromS {A : Option Addr} {n c k : Nat} {i : Int} (hi : i = k) (hk : k ≤ n) (w : World) : (Instr.sliceAt 22 (.slice A n c) (some (.int .i64 i)) none none).run Tryz.prog w = .ok (.slice (if c = k then A else A.map (·.add (k * 1))) (n - k) (c - k)) w := by
 subst hi
 rw [run_sliceAt_slice _ _ _ _ _ _ (by kernel_rfl), run_slice_l _ _ _ _ _ (by kernel_rfl) _ _ (by omega) (by omega)]
 have : (sizeOf (Tryz.prog.elem 22)).run Tryz.prog w = .ok 1 w := by kernel_rfl
 rw [this]
 simp [Result.andThen, sliced]
theorem addr_at (g k : Nat) : (some (⟨g, 0, none⟩ : Addr)).map (·.add (k * 1)) = some ⟨g, k, none⟩ := by
 rw [Option.map_some, Nat.mul_one]
 unfold Addr.add
 split
 ·rename_i h; subst h; rfl
 ·simp
theorem slice_toS {A : Option Addr} {n c k : Nat} (hk : k ≤ c) (w : World) : (Instr.sliceAt 22 (.slice A n c) none (some (.int .i64 (k : Int))) none).run Tryz.prog w = .ok (.slice A k c) w := by
 rw [run_sliceAt_slice _ _ _ _ _ _ (by kernel_rfl), run_slice_h _ _ _ _ _ (by kernel_rfl) _ _ (by omega) (by omega)]
 have : (sizeOf (Tryz.prog.elem 22)).run Tryz.prog w = .ok 1 w := by kernel_rfl
 rw [this]
 have he : (if c = 0 then A else A.map (·.add (0 * 1))) = A := by
  split
  ·rfl
  ·cases A with
   | none => rfl
   | some p => simp [Addr.add]
 simp [Result.andThen, sliced, he]
theorem leave_stay (X : Nat) (xo : Obj) (base b : Nat) (EA : Value) (N qn ql qx qi qp : Nat) (vs vw : Value) (s : Sc) (w : World) (n : Nat) (h : ScM X xo base b EA N qn ql qx qi qp vs vw s w) (hn : n < N) (hd : s.low.getD n 0 ≠ s.num.getD n 0) :
  Calls Tryz.prog 100 #[.pointer (some ⟨b, 0, none⟩), .int .i64 (n : Int)] w (fun e w' => (∃ v, e = .returned v) ∧ ScM X xo base b EA N qn ql qx qi qp vs vw s w' ∧ Below base w w') := by
 have hn0 : (0 : Int) ≤ (n : Int) := by omega
 have hn1 : (n : Int) < (N : Int) := by omega
 have c1 := h.cells.2.1
 have c2 := h.cells.2.2.1
 obtain ⟨l1, l2, l3⟩ := own_getn h.low hn
 obtain ⟨m1, m2, m3⟩ := own_getn h.num hn
 obtain ⟨lw, hlw⟩ := xQ (s.low.getD n 0)
 obtain ⟨nm, hnm⟩ := xQ (s.num.getD n 0)
 rw [hlw] at l1 hd
 rw [hnm] at m1 hd
 have hne : ((lw : Int) == (nm : Int)) = false := by simp; omega
 have hne2 : ((lw : Int) = (nm : Int)) = False := by simp; omega
 have hA := dh h.drew
 have hB := dh (bel_drew (Below.refl base w))
 clear h hlw hnm l2 l3 m2 m3
 go_enter Tryz.func100, Tryz.ntmps100
 go_wp2_with fail
 refine wp_region_held_drew (S := fun w' => w'.cell? ⟨b, 2, none⟩ = some (.slice (some ⟨ql, 0, none⟩) N N) ∧ w'.cell? ⟨b, 1, none⟩ = some (.slice (some ⟨qn, 0, none⟩) N N) ∧ w'.cell? ⟨ql, n, none⟩ = some (.int .i64 (lw : Int)) ∧ w'.cell? ⟨qn, n, none⟩ = some (.int .i64 (nm : Int))) (by kernel_rfl) ⟨c2, c1, l1, m1⟩ (fun hS => ?_)
 refine tkH 0 ?_
 refine tkH 1 ?_
 refine tkH 2 ?_
 refine tkH 3 ?_
 refine tkH 4 ?_
 refine tkH 5 ?_
 refine tkH 6 ?_
 refine tkH 7 ?_
 refine tkH 8 ?_
 refine tkH 9 ?_
 refine tkH 10 ?_
 refine tkH 11 ?_
 refine tkH 12 ?_
 refine tkH 13 ?_
 refine tkH 14 ?_
 refine wpAnyH_done (by kernel_rfl) ?_ _
 go_wp2_with fail
 refine bodyPost_ret (results_none rfl _ _ _) rfl ?_
 exact ⟨⟨_, rfl⟩, hA.out, hB.out⟩
theorem leave_cut (X : Nat) (xo : Obj) (base b : Nat) (EA : Value) (N qn ql qx qi qp : Nat) (vs vw : Value) (s : Sc) (w : World) (n : Nat) (h : ScM X xo base b EA N qn ql qx qi qp vs vw s w) (hn : n < N) (a bb : List Nat) (hd : s.low.getD n 0 = s.num.getD n 0) (hs : s.stk = a ++ n :: bb) (hnb : n ∉ bb) (hlt : ∀ x ∈ s.stk, x < N) (_hN : N ≤ 1000000000) (hsl : s.stk.length ≤ 1000000000) :
  Calls Tryz.prog 100 #[.pointer (some ⟨b, 0, none⟩), .int .i64 (n : Int)] w (CutPost X xo base b EA N qn ql qx qi qp vw s a (n :: bb) w) := by
 have hn0 : (0 : Int) ≤ (n : Int) := by omega
 have hn1 : (n : Int) < (N : Int) := by omega
 have c1 := h.cells.2.1
 have c2 := h.cells.2.2.1
 obtain ⟨l1, l2, l3⟩ := own_getn h.low hn
 obtain ⟨m1, m2, m3⟩ := own_getn h.num hn
 obtain ⟨lw, hlw⟩ := xQ (s.low.getD n 0)
 obtain ⟨nm, hnm⟩ := xQ (s.num.getD n 0)
 rw [hlw] at l1 hd
 rw [hnm] at m1 hd
 have hne : ((lw : Int) == (nm : Int)) = true := by simp; omega
 have hne2 : ((lw : Int) = (nm : Int)) = True := by simp; omega
 have hA := dh h.drew
 have hB := dh (bel_drew (Below.refl base w))
 have HD := dh hs
 have HLT := dh hlt
 clear h hlw hnm l2 l3 m2 m3 hs hlt
 go_enter Tryz.func100, Tryz.ntmps100
 go_wp2_with fail
 refine wp_region_held_drew (S := fun w' => w'.cell? ⟨b, 2, none⟩ = some (.slice (some ⟨ql, 0, none⟩) N N) ∧ w'.cell? ⟨b, 1, none⟩ = some (.slice (some ⟨qn, 0, none⟩) N N) ∧ w'.cell? ⟨ql, n, none⟩ = some (.int .i64 (lw : Int)) ∧ w'.cell? ⟨qn, n, none⟩ = some (.int .i64 (nm : Int))) (by kernel_rfl) ⟨c2, c1, l1, m1⟩ (fun hS => ?_)
 refine tkH 0 ?_
 refine tkH 1 ?_
 refine tkH 2 ?_
 refine tkH 3 ?_
 refine tkH 4 ?_
 refine tkH 5 ?_
 refine tkH 6 ?_
 refine tkH 7 ?_
 refine tkH 8 ?_
 refine tkH 9 ?_
 refine tkH 10 ?_
 refine tkH 11 ?_
 refine tkH 12 ?_
 refine tkH 13 ?_
 refine tkH 14 ?_
 refine wpAnyH_done (by kernel_rfl) ?_ _
 clear c1 c2 l1 m1 hS hne hne2
 have h1 := hA.out
 have hb1 := hB.out
 obtain ⟨w1, hw1⟩ := xQ w.drew
 rw [hw1] at h1 hb1 ⊢
 clear hw1 hA hB
 have c4 := h1.cells.2.2.2.2.1
 have hpos : 0 < s.stk.length := by rw [HD.out, lA, List.length_cons]; omega
 obtain ⟨ns, hns⟩ : ∃ k, s.stk.length = k + 1 := ⟨s.stk.length - 1, by omega⟩
 have hst := h1.stk
 rw [hns] at hst
 obtain ⟨gs, cs, hvs⟩ := ownsRow_succ hst
 subst hvs
 have hsc : ∀ j, j < ns + 1 → w1.cell? ⟨gs, j, none⟩ = some (.int .i64 ((s.stk.getD j 0 : Nat) : Int)) := fun j hj => by
  rw [hst.cellAt j (by omega)]
  exact nat_at (by omega)
 obtain ⟨As, cs2, hvv, hcap, hmx, _⟩ := own_any hst
 cases hvv
 unfold maxLen at hmx
 have wl : IntKind.i64.wrap (((ns + 1 : Nat) : Int) - 1) = (ns : Int) := by rw [wI]; omega
 have wl2 : IntKind.i64.wrap ((ns : Int) + 1 - 1) = (ns : Int) := by rw [wI]; omega
 have H1 := dh h1
 have HB1 := dh hb1
 have HST := dh hst
 have HSC := dh hsc
 have HNS := dh hns
 clear h1 hb1 hst hsc hns
 go_wp2_with fail
 obtain ⟨ka, hka⟩ := xQ a.length
 have hkn : ka ≤ ns := by have := HNS.out; rw [HD.out] at this; simp at this; omega
 have hat : ∀ j, s.stk.getD (ka + j) 0 = (n :: bb).getD j 0 := fun j => by
  rw [HD.out, gD, gR (by omega), show ka + j - a.length = j by omega, ← gD]
 have hbl : (n :: bb).length = ns + 1 - ka := by have := HNS.out; rw [HD.out] at this; simp at this ⊢; omega
 have HAT := dh hat
 have HBL := dh hbl
 clear hat hbl
 go_loopw [4] (fun v wr => ∃ k : Nat, ka ≤ k ∧ k ≤ ns ∧ v = .int .i64 k ∧ wr = w1) (fun v _ => (intOf v).toNat)
 case atStart => exact ⟨ns, hkn, lR, rfl, rfl⟩
 case round =>
  obtain ⟨k, hk1, hk2, rfl, rfl⟩ := hrel
  have hck := HSC.out k (by omega)
  have hk0 : (0 : Int) ≤ (k : Int) := by omega
  have hk3 : (k : Int) < (ns : Int) + 1 := by omega
  by_cases hgt : ka < k
  ·have hx : s.stk.getD k 0 ≠ n := by
    have := HAT.out (k - ka)
    rw [show ka + (k - ka) = k by omega] at this
    rw [this, show k - ka = (k - ka - 1) + 1 by omega]
    intro e
    have hlt2 : k - ka - 1 < bb.length := by have := HBL.out; simp at this; omega
    apply hnb
    rw [← e]
    simp only [List.getD_cons_succ]
    rw [gD, gE hlt2]
    exact mM hlt2
   obtain ⟨x, hxe⟩ := xQ (s.stk.getD k 0)
   rw [hxe] at hck hx
   have hne : ((x : Int) == (n : Int)) = false := by simp; omega
   have hne2 : ((x : Int) = (n : Int)) = False := by simp; omega
   obtain ⟨km, hkm⟩ := xR (k - 1)
   have wk : IntKind.i64.wrap ((k : Int) - 1) = (km : Int) := by rw [wI]; omega
   have hkm1 : ka ≤ km ∧ km ≤ ns ∧ km < k := by omega
   clear hxe hkm
   go_wp2_with fail
   exact ⟨⟨km, hkm1.1, hkm1.2.1, rfl, trivial⟩, by simp only [intOf, tN]; exact hkm1.2.2⟩
  ·have hke : k = ka := by omega
   have hx : s.stk.getD k 0 = n := by
    have := HAT.out 0
    rw [show ka + 0 = k by omega] at this
    rw [this]; rfl
   rw [hx] at hck
   subst hke
   have hsf : ∀ w', (Instr.sliceAt 22 (.slice (some ⟨gs, 0, none⟩) (ns + 1) cs) (some (.int .i64 (k : Int))) none none).run Tryz.prog w' = .ok (.slice (some ⟨gs, k, none⟩) (ns + 1 - k) (cs - k)) w' := fun w' => by
    rw [slice_fromS (k := k) rfl (by omega), if_neg (by omega), addr_at]
   obtain ⟨nl, hnl⟩ := xR (ns + 1 - k)
   obtain ⟨cl, hcl⟩ := xR (cs - k)
   rw [← hcl] at hsf
   have hsl2 : Sl wr wr.1.size 1 (some ⟨gs, k, none⟩) nl cl (icells (natI (n :: bb))) := by
    refine ⟨by rw [icells_len, natI_len, HBL.out, hnl], by omega, by unfold maxLen; omega, fun e => (by cases e), .inr ⟨gs, k, rfl, (HST.out.lt gs rfl).2, fun j u hu => ?_⟩⟩
    have hjl := (gB.1 hu).1
    rw [icells_len, natI_len, HBL.out, Nat.mul_one] at hjl
    rw [HSC.out (k + j) (by omega), HAT.out j, ← hu, nat_at (by rw [HBL.out]; exact hjl)]
   rw [← hnl] at hsf
   have HMIN := dh (min_any (some ⟨gs, k, none⟩) nl cl (n :: bb) wr wr.1.size hsl2 (by rw [HBL.out, hnl]) (by omega))
   have HSF := dh hsf
   have hnl1 : nl ≤ cl ∧ 0 < nl ∧ cl ≤ 9223372036854775807 ∧ nl = ns + 1 - k ∧ cl = cs - k := by omega
   have HNL := dh hnl1
   clear hsf hsl2 hnl hcl hnl1
   have hs4 := HSF.out wr
   go_wp2_with fail
   refine HMIN.out.mono ?_
   rintro e w2 ⟨m, hm1, hm2, rfl, hb2⟩
   clear hs4 hck c4
   have hz1 := hb2.size
   have h2 := H1.out.tch (Tch.of_below hb2) (fun q hq => by omega)
   have hbB2 : Below base w w2 := HB1.out.trans (hb2.mono (by have := H1.out.bb; have := H1.out.far.2.2.2.2.2.2.2; omega))
   go_wp2_with fail
   obtain ⟨L, hL⟩ := xQ (n :: bb)
   have hLl : L.length = nl := by rw [← hL, HBL.out]; have := HNL.out; omega
   have hx : ∀ i, i < nl → s.stk.getD (k + i) 0 = L.getD i 0 ∧ L.getD i 0 < N ∧ k + i < s.stk.length := fun i hi => by
    have h3 := HAT.out i
    rw [hL] at h3
    have h4 : k + i < s.stk.length := by have := HNL.out; have := HNS.out; omega
    refine ⟨h3, ?_, h4⟩
    rw [← h3]
    refine HLT.out _ ?_
    rw [gD, gE h4]
    exact mM h4
   have HX := dh hx
   have HLL := dh hLl
   have HL := dh hL
   have HM := dh (And.intro hm1 hm2)
   have h20 : ScM X xo base b EA N qn ql qx qi qp (.slice (some ⟨gs, 0, none⟩) (ns + 1) cs) vw { s with prt := putAll (L.take 0) m s.prt, inn := putAll (L.take 0) false s.inn } w2 := h2
   clear hLl hL hx hm1 hm2 h2 hb2 hz1
   go_loopw [51] (fun v wr => ∃ i : Nat, i ≤ nl ∧ v = .int .i64 i ∧ ScM X xo base b EA N qn ql qx qi qp (.slice (some ⟨gs, 0, none⟩) (ns + 1) cs) vw { s with prt := putAll (L.take i) m s.prt, inn := putAll (L.take i) false s.inn } wr ∧ Below base w wr) (fun v _ => nl - (intOf v).toNat)
   case atStart => exact ⟨0, by omega, rfl, h20, hbB2⟩
   case round =>
    obtain ⟨i, hi, rfl, hR, hbR⟩ := hrel
    clear h20 hbB2
    by_cases hlti : i < nl
    ·have hi0 : (0 : Int) ≤ (i : Int) := by omega
     have hi1 : (i : Int) < (nl : Int) := by omega
     have wi : IntKind.i64.wrap ((i : Int) + 1) = (i : Int) + 1 := by have := HNL.out; rw [wI]; omega
     obtain ⟨hx1, hx2, hx3⟩ := HX.out i hlti
     have hcell : wr.cell? ⟨gs, k + i, none⟩ = some (.int .i64 ((L.getD i 0 : Nat) : Int)) := by
      have hst := hR.stk
      have e1 : ({ s with prt := putAll (L.take i) m s.prt, inn := putAll (L.take i) false s.inn } : Sc).stk = s.stk := rfl
      rw [e1, HNS.out] at hst
      rw [hst.cellAt (k + i) (show k + i < (ns + 1) * 1 by have := HNS.out; omega), ← hx1]
      exact nat_at hx3
     obtain ⟨x, hxe⟩ := xQ (L.getD i 0)
     rw [hxe] at hcell hx2
     have hsn : L.take (i + 1) = L.take i ++ [x] := by
      rw [take_snoc L i (by rw [HLL.out]; exact hlti), ← hxe, gD, gE (by rw [HLL.out]; exact hlti)]; rfl
     have HSN := dh hsn
     have hxx0 : (0 : Int) ≤ (x : Int) := by omega
     have hxx1 : (x : Int) < (N : Int) := by omega
     obtain ⟨p1, p2, p3⟩ := own_getn hR.prt hx2
     have c7 := hR.cells.2.2.2.2.2.2.2.1
     have c6 := hR.cells.2.2.2.2.2.2.1
     have HR := dh hR
     have HBR := dh hbR
     clear hR hbR hxe hsn hx1 hx3
     go_wp2_with fail
     refine wp_region_held_drew (S := fun w' => w'.cell? ⟨b, 7, none⟩ = some (.slice (some ⟨qp, 0, none⟩) N N) ∧ w'.cell? ⟨b, 6, none⟩ = some (.slice (some ⟨qi, 0, none⟩) N N)) (by kernel_rfl) ⟨c7, c6⟩ (fun hS => ?_)
     refine tkH 0 ?_
     refine tkH 1 ?_
     refine tkH 2 ?_
     refine tkH 3 ?_
     refine tkH 4 ?_
     refine tkH 5 ?_
     refine tkH 6 ?_
     refine tkH 7 ?_
     refine tkH 8 ?_
     refine tkH 9 ?_
     refine tkH 10 ?_
     refine tkH 11 ?_
     refine oneH 12 (fun K hK => ?_)
     go_simp
     have hB := HR.out.set_prt x m (x := (m : Int)) rfl
     have hbB := HBR.out.setCell (p := ⟨qp, x, none⟩) (HR.out.prt.lt qp rfl).1 (.int .i64 (m : Int))
     obtain ⟨wB, hwB⟩ := xQ (wr.setCell ⟨qp, x, none⟩ (.int .i64 (m : Int)))
     rw [hwB] at hB hbB ⊢
     clear hwB
     have hc7 := hB.cells.2.2.2.2.2.2.2.1
     have hc6 := hB.cells.2.2.2.2.2.2.1
     obtain ⟨i1, i2, i3, _⟩ := own_getB hB.inn hx2
     have HB := dh hB
     have HBB := dh hbB
     clear hB hbB p1 p2 p3 c6 c7
     refine hK.out _ _ ⟨hc7, hc6⟩ (fun hS => ?_)
     clear hK
     refine tkH 13 ?_
     refine oneH 14 (fun K hK => ?_)
     go_simp
     have hC := HB.out.set_inn x false
     have hbC := HBB.out.setCell (p := ⟨qi, x, none⟩) (HB.out.inn.lt qi rfl).1 (.bool false)
     obtain ⟨wC, hwC⟩ := xQ (wB.setCell ⟨qi, x, none⟩ (.bool false))
     rw [hwC] at hC hbC ⊢
     clear hwC
     have m7 := hC.cells.2.2.2.2.2.2.2.1
     have m6 := hC.cells.2.2.2.2.2.2.1
     refine hK.out _ _ ⟨m7, m6⟩ (fun hS => ?_)
     clear hK
     refine wpAnyH_done (by kernel_rfl) ?_ _
     have HC := dh hC.drew
     have HBC := dh (bel_drew hbC)
     clear hC hbC HB HBB HR HBR m7 m6 hc7 hc6 i1 i2 i3 hS
     go_wp2_with fail
     refine ⟨⟨i + 1, by omega, congrArg (Value.int .i64) (by omega), ?_, HBC.out⟩, by simp [intOf]; omega⟩
     rw [HSN.out, putAll_snoc, putAll_snoc]
     exact HC.out
    ·have hin : i = nl := by omega
     subst hin
     have hLt : L.take i = L := tL (by rw [HLL.out]; exact lR)
     rw [hLt] at hR
     have c4 := hR.cells.2.2.2.2.1
     have hf4 := hR.soft 4
     have hbz := hR.far.2.2.2.2.2.2.2
     have hst := hR.stk
     have e1 : ({ s with prt := putAll L m s.prt, inn := putAll L false s.inn } : Sc).stk = s.stk := rfl
     rw [e1, HNS.out] at hst
     have hka : a.length = k := hka
     have hct := own_cut hst (k := k) (by have := HNL.out; omega)
     have ha : (icells (natI s.stk)).take (k * 1) = icells (natI a) := by
      rw [HD.out, Nat.mul_one, ← hka]
      simp [icells, natI]
     rw [ha] at hct
     obtain ⟨_, _, _, hfin⟩ := hR.put_stk (w1 := wr) (vs' := .slice (some ⟨gs, 0, none⟩) k cs) (l := a) (Tch.refl (fun _ => False) wr) (fun _ e => e.elim) (by rw [hka]; exact hct) (fun g e => .inl e)
     have hbf := hbR.setCell (p := ⟨b, 4, none⟩) hR.bb (.slice (some ⟨gs, 0, none⟩) k cs)
     have hst2 := slice_toS (A := some ⟨gs, 0, none⟩) (n := ns + 1) (c := cs) (k := k) (by have := HNL.out; omega)
     have HST2 := dh hst2
     have HF := dh hfin
     have HBF := dh hbf
     have ht2 := HST2.out wr
     clear hR hbR hst hct ha hfin hbf hLt e1 hst2
     go_wp2_with fail
     go_end0
     exact ⟨⟨_, rfl⟩, ⟨m, _, HM.out.1, HM.out.2, by rw [HL.out]; exact HF.out⟩, HBF.out⟩
end Go.Proofs.YtiebpncpdbnelaaGreatDoor
