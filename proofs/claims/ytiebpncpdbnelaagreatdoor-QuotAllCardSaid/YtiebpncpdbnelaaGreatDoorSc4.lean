/- The walks of layer 7 (strongly connected parts): walk. -/
import Derived.Test.YtiebpncpdbnelaaGreatDoorSc3
import Derived.WalkMore
set_option maxHeartbeats 16000000
set_option maxRecDepth 100000
namespace Go.Proofs.YtiebpncpdbnelaaGreatDoor
open Go.RowKit
def muS (E : List (List Nd)) (s : Sc) : Nat := 2 * edgesLeft E s.nxt + s.way.length
def WalkPost (X : Nat) (xo : Obj) (E : List (List Nd)) (base b : Nat) (EA : Value) (N qn ql qx qi qp : Nat) (num0 : List Nat) (n : Nat) (w : World) (e : Ending) (w' : World) : Prop :=
 (∃ v, e = .returned v) ∧ (∃ s vs vw, SI E s ∧ s.way = [] ∧ (∀ y, 0 < num0.getD y 0 → 0 < s.num.getD y 0) ∧ 0 < s.num.getD n 0 ∧ ScM X xo base b EA N qn ql qx qi qp vs vw s w') ∧ Below base w w'
theorem muS_come {E : List (List Nd)} {s : Sc} (y : Nat) : muS E (s.come y) = muS E s + 1 := by simp [muS, Sc.come]; omega
theorem muS_adv {E : List (List Nd)} {s : Sc} (h : SI E s) {x : Nat} (hx : x ∈ s.way) (hn : s.nxt.getD x 0 < (E.getD x []).length) : muS E (s.adv x) + 2 = muS E s := by
 have := edgesLeft_adv (E := E) h.lx (h.stk x (h.sub x hx)).1 hn
 simp only [muS, Sc.adv]
 omega
theorem muS_lower {E : List (List Nd)} {s : Sc} (x v : Nat) : muS E (s.lower x v) = muS E s := rfl
def Grown (num0 : List Nat) (n : Nat) (s : Sc) : Prop := (∀ y, 0 < num0.getD y 0 → 0 < s.num.getD y 0) ∧ 0 < s.num.getD n 0
theorem Grown.come {num0 : List Nat} {n y : Nat} {s : Sc} (h : Grown num0 n s) : Grown num0 n (s.come y) := by
 have key : ∀ k, 0 < s.num.getD k 0 → 0 < (s.come y).num.getD k 0 := fun k hk => by
  show 0 < (s.num.set y (s.cnt + 1)).getD k 0
  by_cases e : y < s.num.length
  ·rw [setD e]; split <;> omega
  ·rw [List.set_eq_of_length_le (by omega)]; exact hk
 exact ⟨fun k hk => key k (h.1 k hk), key n h.2⟩
theorem SI.pop {E : List (List Nd)} {s : Sc} (h : SI E s) {pre : List Nat} {x : Nat} (hx : s.way = pre ++ [x]) (hd : s.nxt.getD x 0 = (E.getD x []).length) :
  (s.low.getD x 0 ≠ s.num.getD x 0 ∧ ∃ pr p, pre = pr ++ [p] ∧ p ≠ x ∧ SI E ({ s with way := pre }.lower p (s.low.getD x 0))) ∨
  (s.low.getD x 0 = s.num.getD x 0 ∧ (∀ pr p, pre = pr ++ [p] → p ≠ x ∧ ({ s with way := pre } : Sc).lower p (s.low.getD x 0) = { s with way := pre }) ∧
   ∃ a bb, s.stk = a ++ x :: bb ∧ x ∉ bb ∧ ∀ m, m ∈ x :: bb → (∀ y ∈ x :: bb, m ≤ y) → SI E ({ s with way := pre }.cut a (x :: bb) m)) := by
 have hxw : x ∈ s.way := by rw [hx]; simp
 have htop := (h.top hx).1
 have hne : ∀ pr p, pre = pr ++ [p] → p ≠ x := fun pr p e hp => by
  have := htop p (by rw [e]; simp)
  rw [hp] at this; omega
 by_cases hl : s.low.getD x 0 = s.num.getD x 0
 ·right
  obtain ⟨a, bb, hs⟩ := List.append_of_mem (h.sub x hxw)
  have hnb : x ∉ bb := fun hb => by
   have hp := h.srt
   rw [hs, List.pairwise_append, List.pairwise_cons] at hp
   have := hp.2.1.1 x hb
   omega
  refine ⟨hl, fun pr p e => ⟨hne pr p e, ?_⟩, a, bb, hs, hnb, fun m hm hmin => (h.part hx hd hl hs hm hmin).1⟩
  have hmin : s.low.getD p 0 ≤ s.low.getD x 0 := by
   obtain ⟨m, hm, hle⟩ : ∃ m, m ∈ x :: bb ∧ ∀ y ∈ x :: bb, m ≤ y := by
    have : ∀ l : List Nat, l ≠ [] → ∃ m, m ∈ l ∧ ∀ y ∈ l, m ≤ y := by
     intro l
     induction l with
     | nil => intro h; exact absurd rfl h
     | cons z l ih =>
      intro _
      by_cases e : l = []
      ·subst e; exact ⟨z, by simp, fun y hy => by simp at hy; omega⟩
      ·obtain ⟨m, h1, h2⟩ := ih e
       by_cases e2 : z ≤ m
       ·exact ⟨z, by simp, fun y hy => by rcases List.mem_cons.1 hy with rfl | hy; exact lR; exact Nat.le_trans e2 (h2 y hy)⟩
       ·exact ⟨m, List.mem_cons_of_mem _ h1, fun y hy => by rcases List.mem_cons.1 hy with rfl | hy; omega; exact h2 y hy⟩
    exact this _ (by simp)
   exact (h.part hx hd hl hs hm hle).2 p (by rw [e]; simp)
  have hpl : p < s.low.length := by rw [h.ll]; exact (h.stk p (h.sub p (by rw [hx, e]; simp))).1
  have e2 : s.low.set p (min (s.low.getD p 0) (s.low.getD x 0)) = s.low := by
   rw [Nat.min_eq_left hmin]
   refine List.ext_getElem (by simp) (fun i h1 h2 => ?_)
   rw [List.getElem_set]
   split
   ·next e3 => subst e3; rw [gD, gE hpl]; rfl
   ·rfl
  show ({ s with way := pre, low := s.low.set p (min (s.low.getD p 0) (s.low.getD x 0)) } : Sc) = _
  rw [e2]
 ·left
  obtain ⟨pr, p, e, hI⟩ := h.stay hx hd hl
  exact ⟨hl, pr, p, e, hne pr p e, hI⟩
theorem ScM.box {X : Nat} {T : Nat} {v : Value} {base b : Nat} {EA : Value} {N qn ql qx qi qp : Nat} {vs vw : Value} {s : Sc} {w : World} (h : ScM X (.cells #[v] T (0, 0)) base b EA N qn ql qx qi qp vs vw s w) : w.cell? ⟨X, 0, none⟩ = some v := by
 rw [cell_of_row _ _ _ _ _ (0, 0) h.xo]; rfl
theorem walk_any (X : Nat) (xo : Obj) (E : List (List Nd)) (ae : Option Addr) (ce B : Nat) (base b : Nat) (N qn ql qx qi qp : Nat) (vs vw : Value) (s : Sc) (w : World) (n : Nat)
  (hEd : Sl2 w B 2 ae N ce (E.map ncells)) (hB : B ≤ base) (hM : ScM X xo base b (.slice ae N ce) N qn ql qx qi qp vs vw s w) (hX : X < base) (hI : SI E s) (hw : s.way = []) (hn : n < N) (h0 : s.num.getD n 0 = 0)
  (hE : ∀ r ∈ E, ∀ e ∈ r, isNd E.length e.op = true) (hN : N ≤ 1000000) (hr : ∀ r ∈ E, r.length ≤ 1000000) :
  Calls Tryz.prog 93 #[.pointer (some ⟨b, 0, none⟩), .int .i64 (n : Int)] w (WalkPost X xo E base b (.slice ae N ce) N qn ql qx qi qp s.num n w) := by
 have hNE : N = E.length := by have := hEd.len; simpa using this
 have hcap := hEd.cap
 have hmax := hEd.max
 unfold maxLen at hmax
 have hbase : base ≤ w.1.size := by have := hM.bb; have := hM.far.2.2.2.2.2.2.2; omega
 obtain ⟨w1, hw1⟩ := xQ (w.alloc (.cells #[.pointer (some ⟨b, 0, none⟩)] 124))
 have hM1 := hM.fresh (.cells #[.pointer (some ⟨b, 0, none⟩)] 124)
 have hb1 : Below base w w1 := by rw [← hw1]; exact (Below.refl base w).alloc hbase _
 rw [hw1] at hM1
 obtain ⟨bx, hbx⟩ := xQ w.1.size
 have HW1 := dh hw1
 have hxo := hM.xo
 have hcn : s.cnt ≤ 1000000 := by have := hI.cnt_le; omega
 have hsl : s.stk.length ≤ 1000000 := by have := hI.stk_len; omega
 have hwl : s.way.length ≤ 1000000 := by have := hI.way_len; omega
 have HCM : Hid (∀ (bx' : Nat) (xo' : Obj) (s' : Sc) (vs' vw' : Value) (w' : World) (k : Nat), ScM bx' xo' base b (.slice ae N ce) N qn ql qx qi qp vs' vw' s' w' → (s'.cnt ≤ 1000000 ∧ s'.stk.length ≤ 1000000 ∧ s'.way.length ≤ 1000000) → k < N → Calls Tryz.prog 98 #[.pointer (some ⟨b, 0, none⟩), .int .i64 (k : Int)] w' (ScPost bx' xo' base b (.slice ae N ce) N qn ql qx qi qp (s'.come k) w')) :=
  dh (fun bx' xo' s' vs' vw' w' k h hi hk => come_any bx' xo' base b (.slice ae N ce) N qn ql qx qi qp vs' vw' s' w' k h hk (by omega) (by omega) (by omega) (by omega))
 have hI1 : SI E (s.come n) := hI.come (by omega) h0 (fun x hx => by rw [hw] at hx; cases hx)
 have hG1 : Grown s.num n (s.come n) := by
  have hnl : n < s.num.length := by rw [hI.ln]; omega
  refine ⟨fun y hy => ?_, ?_⟩
  ·show 0 < (s.num.set n (s.cnt + 1)).getD y 0
   rw [setD hnl]; split <;> omega
  ·show 0 < (s.num.set n (s.cnt + 1)).getD n 0
   rw [setD hnl, if_pos rfl]; omega
 have hcx := hM1.box
 rw [hbx] at hM1 hcx
 have H1 := dh hM1
 have HI := dh hI
 have HI1 := dh hI1
 have HG1 := dh hG1
 have HB1 := dh hb1
 have HEd := dh hEd
 have HXO := dh hxo
 have HE := dh hE
 have HR := dh hr
 have HNE := dh hNE
 have HBX := dh hbx
 clear hM hI hI1 hG1 hw1 hM1 hb1 hEd hxo hE hr hNE
 go_enter Tryz.func93, Tryz.ntmps93
 go_wp2_with fail
 go_step3
 rw [HW1.out]
 go_wp2_with fail
 refine (HCM.out bx _ s vs vw w1 n H1.out ⟨hcn, hsl, hwl⟩ hn).mono ?_
 rintro e w2 ⟨⟨v, rfl⟩, ⟨vs2, vw2, hM2⟩, hb2⟩
 have hcx := hM2.box
 have hb2' : Below base w w2 := HB1.out.trans hb2
 have HM2 := dh hM2
 have HB2 := dh hb2'
 clear hM2 hb2 hb2' hcn hsl hwl hbx
 go_wp2_with fail
 clear hcx
 go_step3
 go_wp2_with fail
 obtain ⟨K0, hK0⟩ : ∃ K, muS E (s.come n) ≤ K := ⟨_, lR⟩
 have HK0 := dh hK0
 obtain ⟨XO, hXO⟩ : ∃ XO : Obj, XO = .cells #[.pointer (some ⟨b, 0, none⟩)] 124 := ⟨_, rfl⟩
 have HXO2 := dh hXO
 rw [← hXO] at HM2
 clear hK0 hXO
 go_loopg [5] K0 (fun gk _ wr => ∃ (s1 : Sc) (vs1 vw1 : Value), ScM bx XO base b (.slice ae N ce) N qn ql qx qi qp vs1 vw1 s1 wr ∧ Hid (SI E s1) ∧ Hid (Grown s.num n s1) ∧ Hid (muS E s1 ≤ gk) ∧ Below base w wr)
 case atStart => exact ⟨_, _, _, HM2.out, HI1, HG1, HK0, HB2.out⟩
 case round =>
  clear HI1 HG1 HK0 HM2 HB2
  obtain ⟨s1, vs1, vw1, hM, HI1, HG1, HK1, hb⟩ := hrel
  have hcx : wr.cell? ⟨bx, 0, none⟩ = some (.pointer (some ⟨b, 0, none⟩)) := by have h' := hM; rw [HXO2.out] at h'; exact h'.box
  have c5 := hM.cells.2.2.2.2.2.1
  obtain ⟨Aw, cw, rfl, hsw⟩ := own_sl hM.way
  have hcw := hsw.cap
  have hcm := hsw.max
  unfold maxLen at hcm
  have HSW := dh hsw
  have HM := dh hM
  have HB := dh hb
  clear hsw hM hb
  rcases List.eq_nil_or_concat s1.way with hw0 | ⟨pre, x, hwx⟩
  ·have hl0 : s1.way.length = 0 := by rw [hw0]; rfl
   rw [hl0] at c5 HM HSW hcw
   have HW0 := dh hw0
   clear hw0 hl0
   go_wp2_with fail
   go_end0
   have hx' := (HB.out.block X (by omega)).trans HXO.out
   exact ⟨⟨_, rfl⟩, ⟨s1, vs1, _, HI1.out, HW0.out, HG1.out.1, HG1.out.2, HM.out.swap hx' hX⟩, HB.out⟩
  ·have hwx' : s1.way = pre ++ [x] := by simpa using hwx
   obtain ⟨m, hm⟩ := xQ pre.length
   have hl : s1.way.length = m + 1 := by rw [hwx', lA, hm]; rfl
   rw [hl] at c5 HM HSW hcw
   obtain ⟨bw, ow, hAw, hbw, hcl⟩ := HSW.out.rd.at_ (j := m) (u := .int .i64 (x : Int)) (by
    rw [nat_at (by omega), hwx', gD, gR (by omega), hm, Nat.sub_self]; rfl)
   subst hAw
   have hxN : x < N := by rw [HNE.out]; exact (HI1.out.stk x (HI1.out.sub x (by rw [hwx']; simp))).1
   have hx0 : (0 : Int) ≤ (x : Int) := by omega
   have hx1 : (x : Int) < (N : Int) := by omega
   have hgt : (0 : Int) < (m : Int) + 1 := by omega
   have wl : IntKind.i64.wrap (m : Int) = (m : Int) := by rw [wI]; omega
   have hm0 : (0 : Int) ≤ (m : Int) := by omega
   have hm1 : (m : Int) < (m : Int) + 1 := by omega
   have HWX := dh hwx'
   have HMP := dh hm
   clear hwx hwx' hl hm hbw HSW
   go_wp2_with fail
   refine wp_region_held_drew (S := fun w' => w'.cell? ⟨bx, 0, none⟩ = some (.pointer (some ⟨b, 0, none⟩)) ∧ w'.cell? ⟨b, 5, none⟩ = some (.slice (some ⟨bw, ow, none⟩) (m + 1) cw) ∧ w'.cell? ⟨bw, ow + m, none⟩ = some (.int .i64 (x : Int))) (by kernel_rfl) ⟨hcx, c5, hcl⟩ (fun hS => ?_)
   refine tkH 0 ?_
   refine tkH 1 ?_
   refine tkH 2 ?_
   refine tkH 3 ?_
   refine tkH 4 ?_
   refine tkH 5 ?_
   refine tkH 6 ?_
   refine tkH 7 ?_
   refine tkH 8 ?_
   refine tkH 9 ?_
   refine tkH 10 ?_
   refine tkH 11 ?_
   refine tkH 12 ?_
   refine wpAnyH_done (by kernel_rfl) ?_ _
   have HM2 := dh HM.out.drew
   have HB2 := dh (bel_drew HB.out)
   obtain ⟨w3, hw3⟩ := xQ wr.drew
   rw [hw3] at HM2 HB2 ⊢
   clear hcx c5 hcl hS hgt wl hm0 hm1 HM HB hw3
   go_wp2_with fail
   obtain ⟨go, rfl⟩ := xR gk
   obtain ⟨K1, hK1⟩ : ∃ K, muS E s1 ≤ K := ⟨_, lR⟩
   have HK2 := dh hK1
   have HMU : Hid (muS E s1 ≤ go) := HK1
   clear hK1
   go_loopg [6] K1 (fun gi _ wq => ∃ (s2 : Sc) (vs2 vw2 : Value), ScM bx XO base b (.slice ae N ce) N qn ql qx qi qp vs2 vw2 s2 wq ∧ Hid (SI E s2) ∧ Hid (Grown s.num n s2) ∧ Hid (s2.way = pre ++ [x]) ∧ Hid (muS E s2 ≤ gi) ∧ Hid (muS E s2 ≤ go) ∧ Below base w wq)
   case atStart => exact ⟨_, _, _, HM2.out, HI1, HG1, HWX, HK2, HMU, HB2.out⟩
   case round =>
    clear HM2 HI1 HG1 HWX HK2 HMU HB2 HK1
    obtain ⟨s2, vs2, vw2, hM, HI2, HG2, HW2, HKi, HKo, hb⟩ := hrel
    have hcx : wr.cell? ⟨bx, 0, none⟩ = some (.pointer (some ⟨b, 0, none⟩)) := by have h' := hM; rw [HXO2.out] at h'; exact h'.box
    have c3 := hM.cells.2.2.2.1
    have c0 := hM.cells.1
    have hxE : x < E.length := by rw [← HNE.out]; exact hxN
    obtain ⟨eb, eo, A', n', c', hae, hbb, hc00, hrow⟩ := (HEd.out.below hb hB).at_ (ed_take hxE)
    subst hae
    have hlen : n' = E[x].length := by have := hrow.len; rw [ncells_len] at this; omega
    have hgE : E.getD x [] = E[x] := by rw [gD, gE hxE]; rfl
    have hrl := HR.out E[x] (mM hxE)
    obtain ⟨er, her⟩ := xQ (E[x])
    rw [her] at hrow hlen hgE hrl
    subst hlen
    obtain ⟨q1, q2, q3⟩ := own_getn hM.nxt hxN
    obtain ⟨nx, hnx⟩ := xQ (s2.nxt.getD x 0)
    rw [hnx] at q1
    have hxw : x ∈ s2.way := by rw [HW2.out]; simp
    have hle := HI2.out.le x
    rw [hnx, hgE] at hle
    have hx0 : (0 : Int) ≤ (x : Int) := by omega
    have HM := dh hM
    have HB := dh hb
    have HRW := dh hrow
    have HNX := dh hnx
    have HGE := dh hgE
    have HXW := dh hxw
    have HRC := dh (And.intro hrow.cap hrow.max)
    have hrc := hrow.cap
    have hrm := hrow.max
    unfold maxLen at hrm
    clear hM hb hrow hnx hgE her hxw hxE
    by_cases hlt : nx < er.length
    ·have hlt' : (nx : Int) < (er.length : Int) := by omega
     have hnx0 : (0 : Int) ≤ (nx : Int) := by omega
     go_wp2_with fail
     refine wp_region_held_drew (S := fun w' => w'.cell? ⟨bx, 0, none⟩ = some (.pointer (some ⟨b, 0, none⟩)) ∧ w'.cell? ⟨b, 3, none⟩ = some (.slice (some ⟨qx, 0, none⟩) N N) ∧ w'.cell? ⟨b, 0, none⟩ = some (.slice (some ⟨eb, eo, none⟩) N ce) ∧ w'.cell? ⟨qx, x, none⟩ = some (.int .i64 (nx : Int)) ∧ w'.cell? ⟨eb, eo + x, none⟩ = some (.slice A' er.length c')) (by kernel_rfl) ⟨hcx, c3, c0, q1, hc00⟩ (fun hS => ?_)
     refine tkH 0 ?_
     refine tkH 1 ?_
     refine tkH 2 ?_
     refine tkH 3 ?_
     refine tkH 4 ?_
     refine tkH 5 ?_
     refine tkH 6 ?_
     refine tkH 7 ?_
     refine tkH 8 ?_
     refine tkH 9 ?_
     refine tkH 10 ?_
     refine tkH 11 ?_
     refine tkH 12 ?_
     refine tkH 13 ?_
     refine tkH 14 ?_
     refine tkH 15 ?_
     refine wpAnyH_done (by kernel_rfl) ?_ _
     obtain ⟨bb, oo, hA', hbbb, hd0, hd1⟩ := rd_nd HRW.out.rd hlt
     subst hA'
     have hD := HM.out.drew
     have hbD := bel_drew HB.out
     obtain ⟨w3, hw3⟩ := xQ wr.drew
     have p1 : w3.cell? ⟨bx, 0, none⟩ = some (.pointer (some ⟨b, 0, none⟩)) := by rw [← hw3]; exact hcx
     have p2 : w3.cell? ⟨b, 3, none⟩ = some (.slice (some ⟨qx, 0, none⟩) N N) := by rw [← hw3]; exact c3
     have p3 : w3.cell? ⟨b, 0, none⟩ = some (.slice (some ⟨eb, eo, none⟩) N ce) := by rw [← hw3]; exact c0
     have p4 : w3.cell? ⟨qx, x, none⟩ = some (.int .i64 (nx : Int)) := by rw [← hw3]; exact q1
     have p5 : w3.cell? ⟨eb, eo + x, none⟩ = some (.slice (some ⟨bb, oo, none⟩) er.length c') := by rw [← hw3]; exact hc00
     have p6 : w3.cell? ⟨bb, oo + nx * 2, none⟩ = some (.int .i64 er[nx].op) := by rw [← hw3]; exact hd0
     have htg : isNd E.length er[nx].op = true := by
      have h9 := HE.out (E.getD x []) (by rw [gD, gE (by rw [← HNE.out]; exact hxN)]; exact mM _)
      rw [HGE.out] at h9
      exact h9 er[nx] (mM hlt)
     have htt : (tgts (E.getD x []))[s2.nxt.getD x 0]? = some er[nx].op := by rw [HGE.out, HNX.out]; simp [tgts, hlt]
     obtain ⟨y, hy, hyN⟩ := isNd_nat htg
     rw [hy] at p6 htt
     rw [← HNE.out] at hyN
     have HTT := dh htt
     rw [hw3] at hD hbD ⊢
     have HD := dh hD
     have HBD := dh hbD
     clear hcx c3 c0 q1 q2 q3 hc00 hd0 hd1 hD hbD htg htt hS HM HB hw3 hy
     go_wp2_with fail
     refine wp_region_held_drew (S := fun w' => w'.cell? ⟨bx, 0, none⟩ = some (.pointer (some ⟨b, 0, none⟩)) ∧ w'.cell? ⟨b, 3, none⟩ = some (.slice (some ⟨qx, 0, none⟩) N N) ∧ w'.cell? ⟨b, 0, none⟩ = some (.slice (some ⟨eb, eo, none⟩) N ce) ∧ w'.cell? ⟨qx, x, none⟩ = some (.int .i64 (nx : Int)) ∧ w'.cell? ⟨eb, eo + x, none⟩ = some (.slice (some ⟨bb, oo, none⟩) er.length c') ∧ w'.cell? ⟨bb, oo + nx * 2, none⟩ = some (.int .i64 (y : Int))) (by kernel_rfl) ⟨p1, p2, p3, p4, p5, p6⟩ (fun hS => ?_)
     refine tkH 0 ?_
     refine tkH 1 ?_
     refine tkH 2 ?_
     refine tkH 3 ?_
     refine tkH 4 ?_
     refine tkH 5 ?_
     refine tkH 6 ?_
     refine tkH 7 ?_
     refine tkH 8 ?_
     refine tkH 9 ?_
     refine tkH 10 ?_
     refine tkH 11 ?_
     refine tkH 12 ?_
     refine tkH 13 ?_
     refine tkH 14 ?_
     refine tkH 15 ?_
     refine tkH 16 ?_
     refine tkH 17 ?_
     refine wpAnyH_done (by kernel_rfl) ?_ _
     have hD := HD.out.drew
     have hbD := bel_drew HBD.out
     obtain ⟨w4, hw4⟩ := xQ w3.drew
     rw [hw4] at hD hbD ⊢
     clear p1 p2 p3 p4 p5 p6 hS HD HBD hw4
     have hcx : w4.cell? ⟨bx, 0, none⟩ = some (.pointer (some ⟨b, 0, none⟩)) := by have h' := hD; rw [HXO2.out] at h'; exact h'.box
     have c3 := hD.cells.2.2.2.1
     have c0 := hD.cells.1
     have c1 := hD.cells.2.1
     obtain ⟨q1, q2, q3⟩ := own_getn hD.nxt hxN
     rw [HNX.out] at q1
     have wn : IntKind.i64.wrap ((nx : Int) + 1) = (nx : Int) + 1 := by rw [wI]; omega
     have hE2 := hD.set_nxt x (nx + 1) (x := (nx : Int) + 1) (by omega)
     have hbE2 := hbD.setCell (p := ⟨qx, x, none⟩) (hD.nxt.lt qx rfl).1 (.int .i64 ((nx : Int) + 1))
     have hcx2 : (w4.setCell ⟨qx, x, none⟩ (.int .i64 ((nx : Int) + 1))).cell? ⟨bx, 0, none⟩ = some (.pointer (some ⟨b, 0, none⟩)) := by have h' := hE2; rw [HXO2.out] at h'; exact h'.box
     have HE2 := dh hE2
     have HBE2 := dh hbE2
     have hy0 : (0 : Int) ≤ (y : Int) := by omega
     have hy1 : (y : Int) < (N : Int) := by omega
     obtain ⟨m1, m2, m3⟩ := own_getn hE2.num hyN
     obtain ⟨ny, hny⟩ := xQ (s2.num.getD y 0)
     have e1 : ({ s2 with nxt := s2.nxt.set x (nx + 1) } : Sc) = s2.adv x := by rw [Sc.adv, HNX.out]
     have e2 : ({ s2 with nxt := s2.nxt.set x (nx + 1) } : Sc).num.getD y 0 = ny := hny
     rw [e2] at m1
     have d1 := hE2.cells.2.1
     have d0 := hE2.cells.1
     have d6 := hE2.cells.2.2.2.2.2.2.1
     obtain ⟨i1, i2, i3, _⟩ := own_getB hE2.inn hyN
     have e3 : ({ s2 with nxt := s2.nxt.set x (nx + 1) } : Sc).inn = s2.inn := rfl
     rw [e3] at i1
     have HE1 := dh e1
     have HNY := dh hny
     have hmu := muS_adv HI2.out HXW.out (by rw [HNX.out, HGE.out]; exact hlt)
     have HMA := dh hmu
     clear hD hbD hE2 hbE2 e1 e2 e3 hny hmu
     by_cases hz : ny = 0
     ·subst hz
      have hcnt : (s2.adv x).cnt ≤ 1000000 ∧ (s2.adv x).stk.length ≤ 1000000 ∧ (s2.adv x).way.length ≤ 1000000 := by
       have a1 := HI2.out.cnt_le
       have a2 := HI2.out.stk_len
       have a3 := HI2.out.way_len
       have a4 := HNE.out
       show s2.cnt ≤ _ ∧ s2.stk.length ≤ _ ∧ s2.way.length ≤ _
       omega
      have HCE := dh (HCM.out bx XO (s2.adv x) vs2 vw2 _ y (HE1.out ▸ HE2.out) hcnt hyN)
      clear hcnt i1 i2 i3 d6
      go_wp2_with fail
      refine HCE.out.mono ?_
      rintro e w5 ⟨⟨v5, rfl⟩, ⟨vs5, vw5, hM5⟩, hb5⟩
      have HT := dh (HI2.out.tree HE.out HW2.out HTT.out HNY.out)
      have HB5 := dh (HBE2.out.trans hb5)
      have HM5 := dh hM5
      clear hM5 hb5 hcx2 d1 d0 m1 m2 m3 hcx c3 c0 c1 q1 q2 q3
      go_wp2_with fail
      go_roundg (go - 1)
      case rel => exact ⟨_, _, _, HM5.out, HT, dh ((show Grown s.num n (s2.adv x) from HG2.out).come), dh (by have := HMA.out; have := HKo.out; rw [muS_come]; omega), HB5.out⟩
      case measure => have := HMA.out; have := HKo.out; omega
     ·have hz' : ((ny : Int) == 0) = false := by simp; omega
      have hynp : 0 < s2.num.getD y 0 := by rw [HNY.out]; omega
      obtain ⟨bi, hbi⟩ := xQ (s2.inn.getD y false)
      rw [hbi] at i1
      cases bi with
      | true =>
       have hys : y ∈ s2.stk := (HI2.out.inn y).1 hbi
       have HLO := dh (lower_any bx XO base b bx (.slice (some ⟨eb, eo, none⟩) N ce) N qn ql qx qi qp vs2 vw2 (s2.adv x) _ x ny (HE1.out ▸ HE2.out) hcx2 hxN)
       have HBK := dh (HI2.out.back HE.out HW2.out HTT.out hys)
       clear hys hbi
       go_wp2_with fail
       refine HLO.out.mono ?_
       rintro e w5 ⟨⟨v5, rfl⟩, hM5, hb5⟩
       have HB5 := dh (HBE2.out.trans hb5)
       have HM5 := dh hM5
       clear hM5 hb5 hcx2 d1 d0 d6 m1 m2 m3 i1 i2 i3 hcx c3 c0 c1 q1 q2 q3
       go_wp2_with fail
       go_roundg (gk - 1)
       case rel => exact ⟨(s2.adv x).lower x (s2.num.getD y 0), vs2, vw2, by rw [HNY.out]; exact HM5.out, HBK, HG2, HW2, dh (by have := HMA.out; have := HKi.out; rw [muS_lower]; omega), dh (by have := HMA.out; have := HKo.out; rw [muS_lower]; omega), HB5.out⟩
       case measure => have := HMA.out; have := HKi.out; omega
      | false =>
       have hys : y ∉ s2.stk := fun h' => by rw [(HI2.out.inn y).2 h'] at hbi; cases hbi
       have HSK := dh (HI2.out.skip HXW.out HTT.out hynp hys)
       clear hys hbi
       go_wp2_with fail
       go_roundg (gk - 1)
       case rel => exact ⟨s2.adv x, vs2, vw2, HE1.out ▸ HE2.out, HSK, HG2, HW2, dh (by have := HMA.out; have := HKi.out; omega), dh (by have := HMA.out; have := HKo.out; omega), HBE2.out⟩
       case measure => have := HMA.out; have := HKi.out; omega
    ·have hge : nx = er.length := by omega
     subst hge
     have hlt' : ¬ ((er.length : Int) < (er.length : Int)) := by omega
     have HPOP := dh (HI2.out.pop HW2.out (by rw [HNX.out, HGE.out]))
     clear hlt hle
     go_wp2_with fail
     refine wp_region_held_drew (S := fun w' => w'.cell? ⟨bx, 0, none⟩ = some (.pointer (some ⟨b, 0, none⟩)) ∧ w'.cell? ⟨b, 3, none⟩ = some (.slice (some ⟨qx, 0, none⟩) N N) ∧ w'.cell? ⟨b, 0, none⟩ = some (.slice (some ⟨eb, eo, none⟩) N ce) ∧ w'.cell? ⟨qx, x, none⟩ = some (.int .i64 (er.length : Int)) ∧ w'.cell? ⟨eb, eo + x, none⟩ = some (.slice A' er.length c')) (by kernel_rfl) ⟨hcx, c3, c0, q1, hc00⟩ (fun hS => ?_)
     refine tkH 0 ?_
     refine tkH 1 ?_
     refine tkH 2 ?_
     refine tkH 3 ?_
     refine tkH 4 ?_
     refine tkH 5 ?_
     refine tkH 6 ?_
     refine tkH 7 ?_
     refine tkH 8 ?_
     refine tkH 9 ?_
     refine tkH 10 ?_
     refine tkH 11 ?_
     refine tkH 12 ?_
     refine tkH 13 ?_
     refine tkH 14 ?_
     refine tkH 15 ?_
     refine wpAnyH_done (by kernel_rfl) ?_ _
     have hD := HM.out.drew
     have hbD := bel_drew HB.out
     obtain ⟨w3, hw3⟩ := xQ wr.drew
     rw [hw3] at hD hbD ⊢
     clear hcx c3 c0 q1 q2 q3 hc00 hS HM HB hw3 hlt' HRW HRC hrc hrm hrl HKi
     have hcx : w3.cell? ⟨bx, 0, none⟩ = some (.pointer (some ⟨b, 0, none⟩)) := by have h' := hD; rw [HXO2.out] at h'; exact h'.box
     obtain ⟨Aw2, cw2, hvw, hsw2⟩ := own_sl hD.way
     subst hvw
     have hwl : s2.way.length = m + 1 := by rw [HW2.out, lA, HMP.out]; rfl
     have c5 := hD.cells.2.2.2.2.2.1
     have f5 := hD.soft 5
     have hbz := hD.far.2.2.2.2.2.2.2
     have hway := hD.way
     rw [hwl] at c5 hsw2 hway
     have hcw2 := hsw2.cap
     have hcm2 := hsw2.max
     unfold maxLen at hcm2
     have hct := own_cut_any hway (k := m) (by omega)
     have htk : (icells (natI s2.way)).take (m * 1) = icells (natI pre) := by
      rw [HW2.out, Nat.mul_one, ← HMP.out]; simp [icells, natI]
     rw [htk] at hct
     have hst2 := fun w' => slice_toS (A := Aw2) (n := m + 1) (c := cw2) (k := m) (by omega) w'
     have wm : IntKind.i64.wrap (m : Int) = (m : Int) := by rw [wI]; omega
     have hD' := hD.drew
     rw [hwl] at hD'
     have hpw := (hD'.put_way (w1 := w3.drew) (vw' := .slice Aw2 m cw2) (l := pre) (Tch.refl (fun _ => False) _) (fun _ e => e.elim) (by rw [HMP.out]; exact own_tch hct (drew_tch w3) (fun _ _ e => e)) (fun g e => .inl (by rw [ownBlock_eq Aw2 (m + 1) m cw2 cw2]; exact e))).2.2.2
     have hbw := (bel_drew hbD).setCell (p := ⟨b, 5, none⟩) hD.bb (.slice Aw2 m cw2)
     have HPW := dh hpw
     have HBW := dh hbw
     have HMZ := dh hwl
     clear hD hbD hsw2 hwl hway hct htk hD' hpw hbw
     go_wp2_with fail
     refine wp_region_U (S := fun w' => w'.cell? ⟨bx, 0, none⟩ = some (.pointer (some ⟨b, 0, none⟩)) ∧ w'.cell? ⟨b, 5, none⟩ = some (.slice Aw2 (m + 1) cw2)) 14 (by kernel_rfl) (⟨hcx, c5⟩) (fun hS => ?_)
     refine tkU 0 [] ?_
     refine tkU 1 [] ?_
     refine tkU 2 [] ?_
     refine tkU 3 [] ?_
     refine tkU 4 [] ?_
     refine tkU 5 [] ?_
     refine tkU 6 [] ?_
     refine tkU 7 [] ?_
     refine tkU 8 [] ?_
     refine tkU 9 [] ?_
     refine tkU 10 [] ?_
     refine tkU 11 [] ?_
     refine tkU 12 [13] ?_
     refine tkU 13 [] ?_
     refine wpAnyU_lastD (i := 14) rfl (by kernel_rfl) (by kernel_rfl) (fun K hK => ?_)
     go_simp
     refine hK.out _ _ ?_
     clear hK
     refine wpAnyU_done (by kernel_rfl) ?_
     obtain ⟨w5, hw5⟩ := xQ (w3.setCell ⟨b, 5, none⟩ (.slice Aw2 m cw2)).drew
     have hP : ScM bx XO base b (.slice (some ⟨eb, eo, none⟩) N ce) N qn ql qx qi qp vs2 (.slice Aw2 m cw2) { s2 with way := pre } w5 := by rw [← hw5]; exact HPW.out
     have hbP : Below base w w5 := by rw [← hw5]; exact HBW.out
     rw [hw5]
     clear hcx c5 f5 hbz hS hst2 hcw2 HPW HBW hw5
     have hcx : w5.cell? ⟨bx, 0, none⟩ = some (.pointer (some ⟨b, 0, none⟩)) := by have h' := hP; rw [HXO2.out] at h'; exact h'.box
     have c5 := hP.cells.2.2.2.2.2.1
     obtain ⟨lx, hlx⟩ := xQ (s2.low.getD x 0)
     have HLX := dh hlx
     have HP := dh hP
     have HBP := dh hbP
     have hmup : muS E s2 = 2 * edgesLeft E s2.nxt + (m + 1) := by rw [muS, HMZ.out]
     have HMU2 := dh hmup
     have HLT : Hid (∀ z ∈ s2.stk, z < N) := dh (fun z hz => by rw [HNE.out]; exact (HI2.out.stk z hz).1)
     have HSL : Hid (s2.stk.length ≤ 1000000000) := dh (by have := HI2.out.stk_len; have := HI2.out.cnt_le; have := HNE.out; omega)
     have HST := dh (fun (s' : Sc) (vs' vw' : Value) (w' : World) (h' : ScM bx XO base b (.slice (some ⟨eb, eo, none⟩) N ce) N qn ql qx qi qp vs' vw' s' w') (hd : s'.low.getD x 0 ≠ s'.num.getD x 0) => leave_stay bx XO base b (.slice (some ⟨eb, eo, none⟩) N ce) N qn ql qx qi qp vs' vw' s' w' x h' hxN hd)
     have HCT := dh (fun (s' : Sc) (vs' vw' : Value) (w' : World) (h' : ScM bx XO base b (.slice (some ⟨eb, eo, none⟩) N ce) N qn ql qx qi qp vs' vw' s' w') (a bb : List Nat) (hd : s'.low.getD x 0 = s'.num.getD x 0) (hs : s'.stk = a ++ x :: bb) (hnb : x ∉ bb) (hlt : ∀ z ∈ s'.stk, z < N) (hsl : s'.stk.length ≤ 1000000000) =>
      leave_cut bx XO base b (.slice (some ⟨eb, eo, none⟩) N ce) N qn ql qx qi qp vs' vw' s' w' x h' hxN a bb hd hs hnb hlt (by omega) hsl)
     clear hP hbP hlx hmup
     rcases List.eq_nil_or_concat pre with hp0 | ⟨pr, pp, hpc⟩
     ·have hm0 : m = 0 := by rw [← HMP.out, hp0]; rfl
      subst hm0
      obtain ⟨hlo, _, a, bb, hs, hnb, hfin⟩ : s2.low.getD x 0 = s2.num.getD x 0 ∧ True ∧ ∃ a bb, s2.stk = a ++ x :: bb ∧ x ∉ bb ∧ ∀ m, m ∈ x :: bb → (∀ y ∈ x :: bb, m ≤ y) → SI E ({ s2 with way := pre }.cut a (x :: bb) m) := by
       rcases HPOP.out with ⟨_, pr, p, e, _⟩ | ⟨h1, _, h3⟩
       ·rw [hp0] at e; simp at e
       ·exact ⟨h1, trivial, h3⟩
      have HFIN := dh hfin
      have HCA := dh (HCT.out _ _ _ w5 HP.out a bb hlo hs hnb HLT.out HSL.out)
      clear hlo hs hnb hfin hp0 HCT HST HPOP
      go_wp2_with fail
      refine HCA.out.mono ?_
      rintro e w6 ⟨⟨v6, rfl⟩, ⟨mm, vs6, hmm1, hmm2, hM6⟩, hb6⟩
      have HM6 := dh hM6
      have HI6 := dh (HFIN.out mm hmm1 hmm2)
      have HB6 := dh (HBP.out.trans hb6)
      clear hmm1 hmm2 hM6 hb6 hcx c5
      go_wp2_with fail
      go_roundg (go - 1)
      case rel => exact ⟨_, _, _, HM6.out, HI6, HG2, dh (by have := HMU2.out; have := HKo.out; have := HMP.out; show 2 * edgesLeft E s2.nxt + pre.length ≤ _; omega), HB6.out⟩
      case measure => have := HMU2.out; have := HKo.out; omega
     ·have hpc' : pre = pr ++ [pp] := by simpa using hpc
      obtain ⟨mp, hmp⟩ : ∃ k, m = k + 1 := ⟨pr.length, by rw [← HMP.out, hpc']; simp⟩
      subst hmp
      have hsw3 := HP.out.way
      have hpl : pre.length = mp + 1 := HMP.out
      have e4 : ({ s2 with way := pre } : Sc).way.length = mp + 1 := HMP.out
      rw [e4] at hsw3
      obtain ⟨_, _, hvv, _, _, hrd3⟩ := own_any hsw3
      cases hvv
      obtain ⟨bw3, ow3, hAw3, hbw3, hcl3⟩ := hrd3.at_ (j := mp) (u := .int .i64 (pp : Int)) (by
       show (icells (natI pre))[mp]? = _
       rw [nat_at (by omega), hpc', gD, gR (by have := hpl; rw [hpc'] at this; simp at this; omega), show mp - pr.length = 0 by have := hpl; rw [hpc'] at this; simp at this; omega]; rfl)
      subst hAw3
      have hppN : pp < N := by
       rw [HNE.out]; exact (HI2.out.stk pp (HI2.out.sub pp (by rw [HW2.out, hpc']; simp))).1
      have c2 := HP.out.cells.2.2.1
      obtain ⟨l1, l2, l3⟩ := own_getn HP.out.low hxN
      have e5 : ({ s2 with way := pre } : Sc).low.getD x 0 = lx := HLX.out
      rw [e5] at l1
      have wmp : IntKind.i64.wrap (mp : Int) = (mp : Int) := by rw [wI]; omega
      have hmp0 : (0 : Int) ≤ (mp : Int) := by omega
      have hmp1 : (mp : Int) < (mp : Int) + 1 := by omega
      have hmpg : (0 : Int) < (mp : Int) + 1 := by omega
      have HLW := dh (lower_any bx XO base b bx (.slice (some ⟨eb, eo, none⟩) N ce) N qn ql qx qi qp vs2 (.slice (some ⟨bw3, ow3, none⟩) (mp + 1) cw2) { s2 with way := pre } w5.drew pp lx HP.out.drew hcx hppN)
      have HPC := dh hpc'
      clear hpc hpc' hsw3 e4 hrd3 hbw3 hpl hppN l2 l3 e5
      go_wp2_with fail
      refine wp_region_U (S := fun w' => w'.cell? ⟨bx, 0, none⟩ = some (.pointer (some ⟨b, 0, none⟩)) ∧ w'.cell? ⟨b, 5, none⟩ = some (.slice (some ⟨bw3, ow3, none⟩) (mp + 1) cw2) ∧ w'.cell? ⟨b, 2, none⟩ = some (.slice (some ⟨ql, 0, none⟩) N N) ∧ w'.cell? ⟨ql, x, none⟩ = some (.int .i64 (lx : Int)) ∧ w'.cell? ⟨bw3, ow3 + mp, none⟩ = some (.int .i64 (pp : Int))) 20 (by kernel_rfl) (⟨hcx, c5, c2, l1, hcl3⟩) (fun hS => ?_)
      refine tkU 0 [] ?_
      refine tkU 1 [12, 11, 4, 3, 2] ?_
      refine tkU 2 [12, 11, 4, 3] ?_
      refine tkU 3 [12, 11, 4] ?_
      refine tkU 4 [12, 11] ?_
      refine tkU 5 [12, 11, 10, 9, 8, 7, 6] ?_
      refine tkU 6 [12, 11, 10, 9, 8, 7] ?_
      refine tkU 7 [12, 11, 10, 9, 8] ?_
      refine tkU 8 [12, 11, 10, 9] ?_
      refine tkU 9 [12, 11, 10] ?_
      refine tkU 10 [12, 11] ?_
      refine tkU 11 [12] ?_
      refine tkU 12 [] ?_
      refine tkU 13 [19, 18, 16, 15, 14] ?_
      refine tkU 14 [19, 18, 16, 15] ?_
      refine tkU 15 [19, 18, 16] ?_
      refine tkU 16 [19, 18] ?_
      refine tkU 17 [19, 18] ?_
      refine tkU 18 [19] ?_
      refine tkU 19 [] ?_
      refine wpAnyU_lastD (i := 20) rfl (by kernel_rfl) (by kernel_rfl) (fun K hK => ?_)
      go_simp
      refine HLW.out.mono ?_
      rintro e w7 ⟨⟨v7, rfl⟩, hM7, hb7⟩
      go_wp2_with fail
      refine hK.out _ _ ?_
      clear hK
      refine wpAnyU_done (by kernel_rfl) ?_
      have HM7 := dh hM7
      have hcx7 : w7.cell? ⟨bx, 0, none⟩ = some (.pointer (some ⟨b, 0, none⟩)) := by have h' := hM7; rw [HXO2.out] at h'; exact h'.box
      have HB7 := dh ((bel_drew HBP.out).trans hb7)
      clear hM7 hb7 hcx c5 c2 l1 hcl3 hS HP HBP HLW
      rcases HPOP.out with ⟨hne, pr', p', hpe, hpx, hsi⟩ | ⟨hlo, hsm, a, bb, hs, hnb, hfin⟩
      ·have hpe2 : pp = p' := by
        have h1 := congrArg List.getLast? (HPC.out.symm.trans hpe)
        rw [List.getLast?_concat, List.getLast?_concat] at h1
        injection h1
       subst hpe2
       have hll : pp < s2.low.length := by rw [HI2.out.ll]; exact (HI2.out.stk pp (HI2.out.sub pp (by rw [HW2.out, HPC.out]; simp))).1
       have hd7 : (({ s2 with way := pre } : Sc).lower pp lx).low.getD x 0 ≠ (({ s2 with way := pre } : Sc).lower pp lx).num.getD x 0 := by
        show (s2.low.set pp (min (s2.low.getD pp 0) lx)).getD x 0 ≠ s2.num.getD x 0
        rw [setD hll, if_neg hpx]; exact hne
       have HSI := dh (HLX.out ▸ hsi)
       have HCA := dh (HST.out _ _ _ w7 HM7.out hd7)
       clear hne hpe hpx hsi hll hd7 HCT HST HPOP
       go_wp2_with fail
       refine HCA.out.mono ?_
       rintro e w8 ⟨⟨v8, rfl⟩, hM8, hb8⟩
       have HM8 := dh hM8
       have HB8 := dh (HB7.out.trans hb8)
       clear hM8 hb8
       go_wp2_with fail
       go_roundg (go - 1)
       case rel => exact ⟨_, _, _, HM8.out, HSI, HG2, dh (by have := HMU2.out; have := HKo.out; have := HMP.out; show 2 * edgesLeft E s2.nxt + pre.length ≤ _; omega), HB8.out⟩
       case measure => have := HMU2.out; have := HKo.out; omega
      ·have hsm2 := (hsm pr pp HPC.out).2
       rw [HLX.out] at hsm2
       have hM7' := HM7.out
       rw [hsm2] at hM7'
       have HFIN := dh hfin
       have HCA := dh (HCT.out _ _ _ w7 hM7' a bb hlo hs hnb HLT.out HSL.out)
       clear hlo hsm hs hnb hfin hsm2 hM7' HCT HST HPOP HM7
       go_wp2_with fail
       refine HCA.out.mono ?_
       rintro e w8 ⟨⟨v8, rfl⟩, ⟨mm, vs8, hmm1, hmm2, hM8⟩, hb8⟩
       have HM8 := dh hM8
       have HI8 := dh (HFIN.out mm hmm1 hmm2)
       have HB8 := dh (HB7.out.trans hb8)
       clear hmm1 hmm2 hM8 hb8
       go_wp2_with fail
       go_roundg (go - 1)
       case rel => exact ⟨_, _, _, HM8.out, HI8, HG2, dh (by have := HMU2.out; have := HKo.out; have := HMP.out; show 2 * edgesLeft E s2.nxt + pre.length ≤ _; omega), HB8.out⟩
       case measure => have := HMU2.out; have := HKo.out; omega
end Go.Proofs.YtiebpncpdbnelaaGreatDoor
