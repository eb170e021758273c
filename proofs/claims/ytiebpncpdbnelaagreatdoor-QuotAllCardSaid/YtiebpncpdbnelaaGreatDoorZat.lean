/- Texts that stand one behind the other, in one file. -/
import Derived.Test.YtiebpncpdbnelaaGreatDoorZas
set_option maxHeartbeats 4000000
set_option maxRecDepth 100000
namespace Go.Proofs.YtiebpncpdbnelaaGreatDoor
open Go.RowKit
theorem eqI30_any (A1 A2 : Option Addr) (n1 c1 n2 c2 : Nat) (xs ys : List Int) (w : World) (B1 B2 : Nat) (hx : Sl w B1 1 A1 n1 c1 (xs.map (.int .i64))) (hy : Sl w B2 1 A2 n2 c2 (ys.map (.int .i64)))
  (hn1 : n1 = xs.length) (hn2 : n2 = ys.length) (hl : n1 ≤ 100000000000000) :
  Calls Tryz.prog 15 #[.slice A1 n1 c1, .slice A2 n2 c2] w (Said w (decide (xs = ys))) := by
 by_cases hne : n1 = n2
 ·subst hne
  have HN1 := dh hn1
  have HN2 := dh hn2
  clear hn1 hn2
  have hd : ((n1 : Int) != (n1 : Int)) = false := by simp
  go_enter Tryz.func15, Tryz.ntmps15
  go_wp2
  go_loopw [5] (fun i wr => ∃ k m : Nat, k ≤ n1 ∧ i = .int .i64 k ∧ wr = w.drewN m ∧ Hid (xs.take k = ys.take k)) (fun i _ => n1 - (intOf i).toNat)
  case atStart => exact ⟨0, 0, by omega, rfl, rfl, rfl⟩
  case round =>
   obtain ⟨k, m, hk, rfl, rfl, ht⟩ := hrel
   by_cases hlt : k < n1
   ·have hkx : k < xs.length := by rw [← HN1.out]; exact hlt
    have hky : k < ys.length := by rw [← HN2.out]; exact hlt
    obtain ⟨b, o, rfl, _, hc⟩ := hx.rd.at_ (j := k) (u := .int .i64 xs[k]) (by simp [hkx])
    obtain ⟨b', o', rfl, _, hc'⟩ := hy.rd.at_ (j := k) (u := .int .i64 ys[k]) (by simp [hky])
    have hs := fun h => take_eq_snoc ht.out hkx hky h
    generalize hX : xs[k] = x at *
    generalize hY : ys[k] = y at *
    have HX := dh hX
    have HY := dh hY
    have HS := dh hs
    clear hX hY hs
    have h0 : (0 : Int) ≤ (k : Int) := by omega
    have h1 : (k : Int) < (n1 : Int) := by omega
    rcases Decidable.em (x = y) with he | he
    ·have hb : (x != y) = false := by simp [he]
     have HE := dh he
     clear he
     go_wp2_with fail
     go_quiet (fail)
     go_wp2
     go_roundw
     case rel => exact ⟨k + 1, _, by omega, by go_num, by first | rfl | rw [World.drewN_drewN], HS.out HE.out⟩
     case measure => simp [intOf]; omega
    ·have hb : (x != y) = true := by simp [he]
     have HE := dh he
     clear he
     go_wp2_with fail
     go_quiet (fail)
     go_wp2
     go_ret
     refine ⟨ret_bool ?_, _, by rw [World.drewN_drewN]⟩
     symm; rw [decide_eq_false_iff_not]
     rintro rfl
     exact HE.out (HX.out.symm.trans HY.out)
   ·have hkn : k = n1 := by omega
    subst hkn
    go_wp2
    go_ret
    refine ⟨ret_bool ?_, _, rfl⟩
    have := ht.out
    rw [tL (by rw [← HN1.out]; exact lR), tL (by rw [← HN2.out]; exact lR)] at this
    simp [this]
 ·have hd : ((n1 : Int) != (n2 : Int)) = true := by simp; omega
  have HD := dh hne
  have HN1 := dh hn1
  have HN2 := dh hn2
  clear hne hn1 hn2
  go_enter Tryz.func15, Tryz.ntmps15
  go_wp2
  go_ret
  refine ⟨ret_bool ?_, 0, rfl⟩
  symm; rw [decide_eq_false_iff_not]
  intro h
  exact HD.out (by rw [HN1.out, HN2.out, h])
end Go.Proofs.YtiebpncpdbnelaaGreatDoor
namespace Go.Proofs.YtiebpncpdbnelaaGreatDoor
open Go.RowKit
theorem said_truA {w : World} {b : Bool} {en : Ending} {w' : World} (h : Said w b en w') : Tru w b en w' := by
 obtain ⟨e, n, rfl⟩ := h
 exact ⟨e, below_drewA w n⟩
theorem box4A {w : World} {b t : Nat} {p q r s : Value} (h : w.1[b]? = some (.cells #[p, q, r, s] t (0, 0))) : w.cell? ⟨b, 0, none⟩ = some p ∧ w.cell? ⟨b, 1, none⟩ = some q ∧ w.cell? ⟨b, 2, none⟩ = some r ∧ w.cell? ⟨b, 3, none⟩ = some s := by
 refine ⟨?_, ?_, ?_, ?_⟩ <;> (rw [cell_of_row _ _ _ _ _ (0, 0) h]; rfl)
theorem set4A {w : World} {g T : Nat} {a b c d : Value} {cs : Array Value} (h : w.1[g]? = some (.cells cs T (0, 0))) (hc : cs.size = 4) :
  ((((w.setCell ⟨g, 0, none⟩ a).setCell ⟨g, 1, none⟩ b).setCell ⟨g, 2, none⟩ c).setCell ⟨g, 3, none⟩ d).1[g]? = some (.cells #[a, b, c, d] T (0, 0)) := by
 have h1 := heap_setCell_same w g 0 _ _ a h
 have h2 := heap_setCell_same _ g 1 _ _ b h1
 have h3 := heap_setCell_same _ g 2 _ _ c h2
 have h4 := heap_setCell_same _ g 3 _ _ d h3
 rw [h4]
 clear h1 h2 h3 h4 h
 obtain ⟨l⟩ := cs
 match l, hc with
 | [p, q, r, s], _ => simp
theorem tch4A (w0 : World) (g : Nat) (a b c d : Value) : Tch (fun k => k = g) w0 ((((w0.setCell ⟨g, 0, none⟩ a).setCell ⟨g, 1, none⟩ b).setCell ⟨g, 2, none⟩ c).setCell ⟨g, 3, none⟩ d) :=
 ((((Tch.refl (fun k => k = g) w0).setCell (p := ⟨g, 0, none⟩) (fun _ => rfl) a).setCell (p := ⟨g, 1, none⟩) (fun _ => rfl) b).setCell (p := ⟨g, 2, none⟩) (fun _ => rfl) c).setCell (p := ⟨g, 3, none⟩) (fun _ => rfl) d
theorem rd_at {w : World} {B : Nat} {a : Aut} {Ai An : Option Addr} {ni ci nn cn : Nat} (h : AutRd w B a Ai ni ci An nn cn) {k : Nat} (hk : k < nn) {x : ANd} (hx : a.nodes[k]? = some x) :
  ∃ b off A c, An = some ⟨b, off, none⟩ ∧ b < B ∧ w.cell? ⟨b, off + k * 4, none⟩ = some (.int .u64 (x.need : Int)) ∧ w.cell? ⟨b, off + k * 4 + 1, none⟩ = some (.int .u64 (x.ban : Int)) ∧
   w.cell? ⟨b, off + k * 4 + 2, none⟩ = some (.int .u64 (x.inn : Int)) ∧ w.cell? ⟨b, off + k * 4 + 3, none⟩ = some (.slice A x.to.length c) ∧ Sl w B 1 A x.to.length c (icells x.to) := by
 obtain ⟨b, off, y, A, c, h1, h2, h3, h4⟩ := rd_aut h hk
 rw [hx] at h3
 cases h3
 exact ⟨b, off, A, c, h1, h2, h4⟩
end Go.Proofs.YtiebpncpdbnelaaGreatDoor
namespace Go.Proofs.YtiebpncpdbnelaaGreatDoor
open Go.RowKit
instance : DecidableEq ANd := fun x y => decidable_of_iff (x.need = y.need ∧ x.ban = y.ban ∧ x.inn = y.inn ∧ x.to = y.to) (by
 constructor
 ·rintro ⟨h1, h2, h3, h4⟩
  cases x; cases y
  simp only at h1 h2 h3 h4
  subst h1; subst h2; subst h3; subst h4
  rfl
 ·rintro rfl; exact ⟨rfl, rfl, rfl, rfl⟩)
instance : DecidableEq Aut := fun x y => decidable_of_iff (x.sets = y.sets ∧ x.init = y.init ∧ x.nodes = y.nodes) (by
 constructor
 ·rintro ⟨h1, h2, h3⟩
  cases x; cases y
  simp only at h1 h2 h3
  subst h1; subst h2; subst h3
  rfl
 ·rintro rfl; exact ⟨rfl, rfl, rfl⟩)
theorem and_iff (x y : ANd) : x = y ↔ x.need = y.need ∧ x.ban = y.ban ∧ x.inn = y.inn ∧ x.to = y.to := by
 constructor
 ·rintro rfl; exact ⟨rfl, rfl, rfl, rfl⟩
 ·rintro ⟨h1, h2, h3, h4⟩
  cases x; cases y
  simp only at h1 h2 h3 h4
  subst h1; subst h2; subst h3; subst h4
  rfl
theorem aut_iff (x y : Aut) : x = y ↔ x.sets = y.sets ∧ x.init = y.init ∧ x.nodes = y.nodes := by
 constructor
 ·rintro rfl; exact ⟨rfl, rfl, rfl⟩
 ·rintro ⟨h1, h2, h3⟩
  cases x; cases y
  simp only at h1 h2 h3
  subst h1; subst h2; subst h3
  rfl
theorem natCast_beq (x y : Nat) : ((x : Int) == (y : Int)) = decide (x = y) := by
 by_cases h : x = y
 ·subst h; simp
 ·rw [decide_eq_false h]; exact beq_eq_false_iff_ne.2 (by omega)
theorem autSame1_any (x y : ANd) (A1 A2 : Option Addr) (c1 c2 : Nat) (w : World) (B : Nat) (h1 : Sl w B 1 A1 x.to.length c1 (icells x.to)) (h2 : Sl w B 1 A2 y.to.length c2 (icells y.to)) (hB : B ≤ w.1.size) (hl : x.to.length ≤ 100000000) :
  Calls Tryz.prog 36 #[.agg #[.int .u64 (x.need : Int), .int .u64 (x.ban : Int), .int .u64 (x.inn : Int), .slice A1 x.to.length c1], .agg #[.int .u64 (y.need : Int), .int .u64 (y.ban : Int), .int .u64 (y.inn : Int), .slice A2 y.to.length c2]] w (Tru w (decide (x = y))) := by
 obtain ⟨hb0, x0, y0, z0⟩ := two_new w (.cells #[.int .u64 (x.need : Int), .int .u64 (x.ban : Int), .int .u64 (x.inn : Int), .slice A1 x.to.length c1] 36) (.cells #[.int .u64 (y.need : Int), .int .u64 (y.ban : Int), .int .u64 (y.inn : Int), .slice A2 y.to.length c2] 36)
 obtain ⟨W0, hW0⟩ := xQ ((w.alloc (.cells #[.int .u64 (x.need : Int), .int .u64 (x.ban : Int), .int .u64 (x.inn : Int), .slice A1 x.to.length c1] 36)).alloc (.cells #[.int .u64 (y.need : Int), .int .u64 (y.ban : Int), .int .u64 (y.inn : Int), .slice A2 y.to.length c2] 36))
 rw [hW0] at hb0 x0 y0 z0
 obtain ⟨k0, k1, k2, k3⟩ := box4A x0
 obtain ⟨l0, l1, l2, l3⟩ := box4A y0
 have HEQ := dh ((equalInt_any A1 A2 x.to.length c1 y.to.length c2 x.to y.to W0 B B (h1.below hb0 hB) (h2.below hb0 hB) rfl rfl (by omega)).mono (fun _ _ h => said_truA h))
 have HW0 := dh hW0
 have HB0 := dh hb0
 have HZ0 := dh z0
 have b1 := natCast_beq x.need y.need
 have b2 := natCast_beq x.ban y.ban
 have b3 := natCast_beq x.inn y.inn
 clear h1 h2 hb0 hW0 x0 y0 z0
 by_cases e1 : x.need = y.need
 ·rw [decide_eq_true e1] at b1
  by_cases e2 : x.ban = y.ban
  ·rw [decide_eq_true e2] at b2
   by_cases e3 : x.inn = y.inn
   ·rw [decide_eq_true e3] at b3
    have HD : Hid (decide (x.to = y.to) = decide (x = y)) := dh (decide_eq_decide.2 (by rw [and_iff]; exact ⟨fun h => ⟨e1, e2, e3, h⟩, fun h => h.2.2.2⟩))
    clear e1 e2 e3
    go_enter Tryz.func36, Tryz.ntmps36
    go_upto_region 1 with fail
    rw [HW0.out]
    go_wp2_with fail
    refine HEQ.out.mono ?_
    rintro e w1 ⟨rfl, hb1⟩
    have HBF := dh (HB0.out.trans (hb1.mono (by have := HZ0.out; omega)))
    clear hb1
    go_wp2_with fail
    go_ret
    exact ⟨ret_bool HD.out, HBF.out⟩
   ·rw [decide_eq_false e3] at b3
    have HD : Hid (false = decide (x = y)) := dh (decide_eq_false (fun h => e3 (by rw [h]))).symm
    clear e1 e2 e3
    go_enter Tryz.func36, Tryz.ntmps36
    go_upto_region 1 with fail
    rw [HW0.out]
    go_wp2_with fail
    go_ret
    exact ⟨ret_bool HD.out, HB0.out⟩
  ·rw [decide_eq_false e2] at b2
   have HD : Hid (false = decide (x = y)) := dh (decide_eq_false (fun h => e2 (by rw [h]))).symm
   clear e1 e2
   go_enter Tryz.func36, Tryz.ntmps36
   go_upto_region 1 with fail
   rw [HW0.out]
   go_wp2_with fail
   go_ret
   exact ⟨ret_bool HD.out, HB0.out⟩
 ·rw [decide_eq_false e1] at b1
  have HD : Hid (false = decide (x = y)) := dh (decide_eq_false (fun h => e1 (by rw [h]))).symm
  clear e1
  go_enter Tryz.func36, Tryz.ntmps36
  go_upto_region 1 with fail
  rw [HW0.out]
  go_wp2_with fail
  go_ret
  exact ⟨ret_bool HD.out, HB0.out⟩
theorem list_ne_at {α : Type} {l m : List α} {k : Nat} {x y : α} (h1 : l[k]? = some x) (h2 : m[k]? = some y) (h : x ≠ y) : l ≠ m := by
 rintro rfl
 rw [h1] at h2
 exact h (Option.some.inj h2)
theorem eqNodes_any (a b : Aut) (Ai : Option Addr) (ni ci : Nat) (An : Option Addr) (nn cn : Nat) (Di : Option Addr) (mi di : Nat) (Dn : Option Addr) (mn dn : Nat) (w : World) (B : Nat) (h1 : AutRd w B a Ai ni ci An nn cn) (h2 : AutRd w B b Di mi di Dn mn dn) (hB : B ≤ w.1.size)
  (hlN : a.nodes.length ≤ 100000) (hlT : ∀ x ∈ a.nodes, x.to.length ≤ 100000000) :
  Calls Tryz.prog 35 #[.slice An nn cn, .slice Dn mn dn, .func (.func 36) #[] #[]] w (Tru w (decide (a.nodes = b.nodes))) := by
 have e2 := h1.enn
 have e4 := h2.enn
 obtain ⟨xsN, hsN, -⟩ := h1.nodes
 obtain ⟨ysN, hsM, -⟩ := h2.nodes
 have hcn := hsN.cap
 have hmn := hsN.max
 have hcm := hsM.cap
 have hmm := hsM.max
 unfold maxLen at hmn hmm
 have H1 := dh h1
 have H2 := dh h2
 have HLT := dh hlT
 clear h1 h2 hlT hsN hsM
 by_cases hne : nn = mn
 ·subst hne
  have E2 := dh e2
  have E4 := dh e4
  have hln : nn ≤ 100000 := by omega
  clear e2 e4
  go_enter Tryz.func35, Tryz.ntmps35
  go_wp2_with fail
  go_loopw [17] (fun v wr => ∃ i : Nat, i ≤ nn ∧ v = .int .i64 i ∧ Below w.1.size w wr ∧ Hid (a.nodes.take i = b.nodes.take i)) (fun v _ => nn - (intOf v).toNat)
  case atStart => exact ⟨0, by omega, rfl, bR, dh rfl⟩
  case round =>
   obtain ⟨i, hi, rfl, hbr, HQ⟩ := hrel
   have hzr := hbr.size
   by_cases hlt : i < nn
   ·have hi0 : (0 : Int) ≤ (i : Int) := by omega
    have hi1 : (i : Int) < (nn : Int) := by omega
    have wi : IntKind.i64.wrap ((i : Int) + 1) = i + 1 := by rw [wI]; omega
    obtain ⟨b1, o1, x, At, ct, rfl, hbl, hx, c0, c1, c2, c3, hst⟩ := rd_aut (H1.out.below hbr hB) hlt
    obtain ⟨b2, o2, y, Dt, dt, rfl, hbl2, hy, d0, d1, d2, d3, hst2⟩ := rd_aut (H2.out.below hbr hB) hlt
    have hxl := HLT.out x (List.mem_of_getElem? hx)
    obtain ⟨hb0, x0, y0, z0⟩ := two_new wr (.cells #[.int .u64 (x.need : Int), .int .u64 (x.ban : Int), .int .u64 (x.inn : Int), .slice At x.to.length ct] 36) (.cells #[.int .u64 (y.need : Int), .int .u64 (y.ban : Int), .int .u64 (y.inn : Int), .slice Dt y.to.length dt] 36)
    obtain ⟨W0, hW0⟩ := xQ ((wr.alloc (.cells #[.int .u64 (x.need : Int), .int .u64 (x.ban : Int), .int .u64 (x.inn : Int), .slice At x.to.length ct] 36)).alloc (.cells #[.int .u64 (y.need : Int), .int .u64 (y.ban : Int), .int .u64 (y.inn : Int), .slice Dt y.to.length dt] 36))
    rw [hW0] at hb0 x0 y0 z0
    have HS := dh (autSame1_any x y At Dt ct dt W0 B (hst.below hb0 (by omega)) (hst2.below hb0 (by omega)) (by omega) hxl)
    have HBW := dh (hbr.trans (hb0.mono hzr))
    have HZW := dh z0
    have HW0 := dh hW0
    have HXY := dh (And.intro hx hy)
    obtain ⟨k0, k1, k2, k3⟩ := box4A x0
    obtain ⟨l0, l1, l2, l3⟩ := box4A y0
    have hbA : Below wr.1.size wr (wr.alloc (.cells #[.int .u64 (x.need : Int), .int .u64 (x.ban : Int), .int .u64 (x.inn : Int), .slice At x.to.length ct] 36)) := bR.alloc lR _
    have d0 := (hbA.cell (show b2 < wr.1.size by omega)).trans d0
    have d1 := (hbA.cell (show b2 < wr.1.size by omega)).trans d1
    have d2 := (hbA.cell (show b2 < wr.1.size by omega)).trans d2
    have d3 := (hbA.cell (show b2 < wr.1.size by omega)).trans d3
    clear hbA
    clear hst hst2 hb0 hW0 hx hy x0 y0 z0 hbl hbl2
    go_upto_region 7 with fail
    rw [HW0.out]
    clear c0 c1 c2 c3 d0 d1 d2 d3
    go_wp2_with fail
    refine HS.out.mono ?_
    by_cases hxy : x = y
    ·rw [decide_eq_true hxy]
     rintro e w2 ⟨rfl, hb2⟩
     have HB2 := dh (HBW.out.trans (hb2.mono (by have := HZW.out; omega)))
     have HQ2 : Hid (a.nodes.take (i + 1) = b.nodes.take (i + 1)) := dh (by
      obtain ⟨hx, hy⟩ := HXY.out
      rw [List.take_add_one, List.take_add_one, HQ.out, hx, hy, hxy])
     clear hb2 k0 k1 k2 k3 l0 l1 l2 l3
     go_wp2_with fail
     exact ⟨⟨i + 1, by omega, congrArg (Value.int .i64) (by omega), HB2.out, HQ2⟩, by simp [intOf]; omega⟩
    ·rw [decide_eq_false hxy]
     rintro e w2 ⟨rfl, hb2⟩
     have HB2 := dh (HBW.out.trans (hb2.mono (by have := HZW.out; omega)))
     have HD : Hid (false = decide (a.nodes = b.nodes)) := dh (decide_eq_false (list_ne_at HXY.out.1 HXY.out.2 hxy)).symm
     clear hb2 k0 k1 k2 k3 l0 l1 l2 l3
     go_wp2_with fail
     go_ret
     exact ⟨ret_bool HD.out, HB2.out⟩
   ·have hin : i = nn := by omega
    subst hin
    have HD : Hid (true = decide (a.nodes = b.nodes)) := dh (decide_eq_true (by have := HQ.out; rwa [E2.out, List.take_length, ← E2.out, E4.out, List.take_length] at this)).symm
    go_wp2_with fail
    go_ret
    exact ⟨ret_bool HD.out, hbr⟩
 ·have HD : Hid (false = decide (a.nodes = b.nodes)) := dh (decide_eq_false (fun h => hne (by rw [e2, e4, h]))).symm
  have hne1 : ((nn : Int) == (mn : Int)) = false := by simp; omega
  have hln : nn ≤ 100000 := by omega
  clear e2 e4
  go_enter Tryz.func35, Tryz.ntmps35
  go_wp2_with fail
  go_ret
  exact ⟨ret_bool HD.out, bR⟩
theorem autoSame_any (a b : Aut) (Ai : Option Addr) (ni ci : Nat) (An : Option Addr) (nn cn : Nat) (Di : Option Addr) (mi di : Nat) (Dn : Option Addr) (mn dn : Nat) (w : World) (B : Nat) (h1 : AutRd w B a Ai ni ci An nn cn) (h2 : AutRd w B b Di mi di Dn mn dn) (hB : B ≤ w.1.size)
  (hlN : a.nodes.length ≤ 100000) (hlI : a.init.length ≤ 1000000) (hlT : ∀ x ∈ a.nodes, x.to.length ≤ 100000000) :
  Calls Tryz.prog 14 #[.agg #[.int .i64 a.sets, .slice Ai ni ci, .slice An nn cn], .agg #[.int .i64 b.sets, .slice Di mi di, .slice Dn mn dn]] w (Tru w (decide (a = b))) := by
 obtain ⟨s, hs⟩ := xQ a.sets
 obtain ⟨t, ht⟩ := xQ b.sets
 rw [hs, ht]
 obtain ⟨hb0, x0, y0, z0⟩ := two_new w (.cells #[.int .i64 s, .slice Ai ni ci, .slice An nn cn] 25) (.cells #[.int .i64 t, .slice Di mi di, .slice Dn mn dn] 25)
 obtain ⟨W0, hW0⟩ := xQ ((w.alloc (.cells #[.int .i64 s, .slice Ai ni ci, .slice An nn cn] 25)).alloc (.cells #[.int .i64 t, .slice Di mi di, .slice Dn mn dn] 25))
 rw [hW0] at hb0 x0 y0 z0
 obtain ⟨k0, k1, k2⟩ := box3A x0
 obtain ⟨l0, l1, l2⟩ := box3A y0
 have HEI := dh ((equalInt_any Ai Di ni ci mi di a.init b.init W0 B B (h1.init.below hb0 hB) (h2.init.below hb0 hB) h1.eni h2.eni (by rw [h1.eni]; omega)).mono (fun _ _ h => said_truA h))
 have HEN := dh (fun (w' : World) (hb : Below W0.1.size W0 w') => eqNodes_any a b Ai ni ci An nn cn Di mi di Dn mn dn w' B ((h1.below hb0 hB).below hb (by omega)) ((h2.below hb0 hB).below hb (by omega)) (by have := hb.size; omega) hlN hlT)
 have HW0 := dh hW0
 have HB0 := dh hb0
 have HZ0 := dh z0
 have HX0 := dh x0
 have HY0 := dh y0
 clear h1 h2 hb0 hW0 x0 y0 z0 hlT
 by_cases e1 : s = t
 ·have b1 : ((s : Int) == t) = true := by simp [e1]
  by_cases e2 : a.init = b.init
  ·rw [decide_eq_true e2] at HEI
   have HD : Hid (decide (a.nodes = b.nodes) = decide (a = b)) := dh (decide_eq_decide.2 (by rw [aut_iff]; exact ⟨fun h => ⟨by rw [hs, ht]; exact e1, e2, h⟩, fun h => h.2.2⟩))
   clear e1 e2 hs ht
   go_enter Tryz.func14, Tryz.ntmps14
   go_upto_region 1 with fail
   rw [HW0.out]
   go_wp2_with fail
   refine HEI.out.mono ?_
   rintro e w1 ⟨rfl, hb1⟩
   have k2' : w1.cell? ⟨w.1.size, 2, none⟩ = some (.slice An nn cn) := bC hb1 (by show w.1.size < W0.1.size; have := HZ0.out; omega) k2
   have l2' : w1.cell? ⟨w.1.size + 1, 2, none⟩ = some (.slice Dn mn dn) := bC hb1 (by show w.1.size + 1 < W0.1.size; have := HZ0.out; omega) l2
   have HB1 := dh hb1
   have HE1 := dh (HEN.out w1 hb1)
   clear hb1 k0 k1 k2 l0 l1 l2
   go_wp2_with fail
   refine HE1.out.mono ?_
   rintro e w2 ⟨rfl, hb2⟩
   have HB2 := dh (HB0.out.trans ((HB1.out.trans (hb2.mono HB1.out.size)).mono (by have := HZ0.out; omega)))
   clear hb2 k2' l2'
   go_wp2_with fail
   go_ret
   exact ⟨ret_bool HD.out, HB2.out⟩
  ·rw [decide_eq_false e2] at HEI
   have HD : Hid (false = decide (a = b)) := dh (decide_eq_false (fun h => e2 (by rw [h]))).symm
   clear e1 e2 hs ht
   go_enter Tryz.func14, Tryz.ntmps14
   go_upto_region 1 with fail
   rw [HW0.out]
   go_wp2_with fail
   refine HEI.out.mono ?_
   rintro e w1 ⟨rfl, hb1⟩
   have HB1 := dh (HB0.out.trans (hb1.mono (by have := HZ0.out; omega)))
   clear hb1
   go_wp2_with fail
   go_ret
   exact ⟨ret_bool HD.out, HB1.out⟩
 ·have b1 : ((s : Int) == t) = false := beq_eq_false_iff_ne.2 e1
  have HD : Hid (false = decide (a = b)) := dh (decide_eq_false (fun h => e1 (by rw [← hs, ← ht, h]))).symm
  clear e1 hs ht
  go_enter Tryz.func14, Tryz.ntmps14
  go_upto_region 1 with fail
  rw [HW0.out]
  go_wp2_with fail
  go_ret
  exact ⟨ret_bool HD.out, HB0.out⟩
end Go.Proofs.YtiebpncpdbnelaaGreatDoor
namespace Go.Proofs.YtiebpncpdbnelaaGreatDoor
structure OfOk (E : List (List Nd)) (of : List Nat) : Prop where
 len : of.length = E.length
 at_ : ∀ x, x < E.length → PartIs E x (of.getD x 0)
def scPart (of : List Nat) (m : Nat) : List Nat := (List.range of.length).filter (fun i => of.getD i 0 == m)
def repsL (of : List Nat) : List Nat := (List.range of.length).filter (fun i => of.getD i 0 == i)
def scParts (of : List Nat) : List (List Nat) := (repsL of).map (scPart of)
theorem scPart_mem {of : List Nat} {m x : Nat} : x ∈ scPart of m ↔ x < of.length ∧ of.getD x 0 = m := by
 unfold scPart
 rw [List.mem_filter, List.mem_range, beq_iff_eq]
theorem repsL_mem {of : List Nat} {x : Nat} : x ∈ repsL of ↔ x < of.length ∧ of.getD x 0 = x := by
 unfold repsL
 rw [List.mem_filter, List.mem_range, beq_iff_eq]
section
variable {E : List (List Nd)} {of : List Nat}
theorem lead_lt {x y : Nat} (h : Lead (Arc E) x y) (hx : x < E.length) : y < E.length := by
 induction h with
 | refl a => exact hx
 | step r _ ih => exact ih r.2.1
theorem OfOk.lt (h : OfOk E of) {x : Nat} (hx : x < E.length) : of.getD x 0 < E.length := lead_lt (h.at_ x hx).1.1 hx
theorem OfOk.le (h : OfOk E of) {x : Nat} (hx : x < E.length) : of.getD x 0 ≤ x := (h.at_ x hx).2 x (Mut.refl E x)
theorem OfOk.idem (h : OfOk E of) {x : Nat} (hx : x < E.length) : of.getD (of.getD x 0) 0 = of.getD x 0 := by
 have h1 := h.at_ x hx
 have h2 := h.at_ _ (h.lt hx)
 exact h2.uniq ⟨Mut.refl E _, fun y hy => h1.2 y (h1.1.trans hy)⟩
theorem OfOk.mut (h : OfOk E of) {x y : Nat} (hx : x < E.length) (hy : y < E.length) : of.getD x 0 = of.getD y 0 ↔ Mut E x y := by
 constructor
 ·intro e
  exact (h.at_ x hx).1.trans (e ▸ (h.at_ y hy).1.symm)
 ·intro hm
  have h1 := h.at_ x hx
  have h2 := h.at_ y hy
  exact h1.uniq ⟨hm.trans h2.1, fun z hz => h2.2 z (hm.symm.trans hz)⟩
theorem OfOk.rep (h : OfOk E of) {x : Nat} (hx : x < E.length) : of.getD x 0 ∈ repsL of := repsL_mem.2 ⟨by rw [h.len]; exact h.lt hx, h.idem hx⟩
theorem parts_of (h : OfOk E of) {l : List Nat} (hl : l ∈ scParts of) : ∃ m, m < E.length ∧ m ∈ l ∧ ∀ x, x ∈ l ↔ x < E.length ∧ Mut E m x := by
 obtain ⟨m, hm, rfl⟩ := List.mem_map.1 hl
 obtain ⟨h1, h2⟩ := repsL_mem.1 hm
 rw [h.len] at h1
 refine ⟨m, h1, scPart_mem.2 ⟨by rw [h.len]; exact h1, h2⟩, fun x => ?_⟩
 rw [scPart_mem, h.len]
 constructor
 ·rintro ⟨hx, e⟩
  exact ⟨hx, (h.mut h1 hx).1 (by rw [h2, e])⟩
 ·rintro ⟨hx, e⟩
  exact ⟨hx, by rw [← (h.mut h1 hx).2 e, h2]⟩
theorem parts_has (h : OfOk E of) {x : Nat} (hx : x < E.length) : scPart of (of.getD x 0) ∈ scParts of ∧ x ∈ scPart of (of.getD x 0) :=
 ⟨List.mem_map.2 ⟨_, h.rep hx, rfl⟩, scPart_mem.2 ⟨by rw [h.len]; exact hx, rfl⟩⟩
end
def orL (ins : List Nat) (l : List Nat) : Nat := l.foldl (fun u i => u ||| ins.getD i 0) 0
theorem orL_snoc (ins : List Nat) (l : List Nat) (x : Nat) : orL ins (l ++ [x]) = orL ins l ||| ins.getD x 0 := by simp [orL, List.foldl_append]
theorem orL_bit {ins : List Nat} {i : Nat} : ∀ (l : List Nat), (orL ins l).testBit i = true ↔ ∃ x ∈ l, (ins.getD x 0).testBit i = true := by
 have key : ∀ (l : List Nat) (u : Nat), (l.foldl (fun u i => u ||| ins.getD i 0) u).testBit i = true ↔ u.testBit i = true ∨ ∃ x ∈ l, (ins.getD x 0).testBit i = true := by
  intro l
  induction l with
  | nil => intro u; simp
  | cons x l ih =>
   intro u
   rw [List.foldl_cons, ih, Nat.testBit_or, Bool.or_eq_true]
   constructor
   ·rintro ((h | h) | ⟨y, hy, h⟩)
    ·exact .inl h
    ·exact .inr ⟨x, List.mem_cons_self .., h⟩
    ·exact .inr ⟨y, List.mem_cons_of_mem _ hy, h⟩
   ·rintro (h | ⟨y, hy, h⟩)
    ·exact .inl (.inl h)
    ·rcases List.mem_cons.1 hy with rfl | hy
     ·exact .inl (.inr h)
     ·exact .inr ⟨y, hy, h⟩
 intro l
 rw [orL, key]; simp
theorem orL_lt {ins : List Nat} (h : ∀ i, ins.getD i 0 < 2 ^ 64) : ∀ l, orL ins l < 2 ^ 64 := by
 have key : ∀ (l : List Nat) (u : Nat), u < 2 ^ 64 → l.foldl (fun u i => u ||| ins.getD i 0) u < 2 ^ 64 := by
  intro l
  induction l with
  | nil => intro u hu; exact hu
  | cons x l ih => intro u hu; exact ih _ (Nat.or_lt_two_pow hu (h x))
 exact fun l => key l 0 (by decide)
def loopsB (E : List (List Nd)) (n : Nat) : Bool := (E.getD n []).any (fun e => e.op == (n : Int))
def cycB (E : List (List Nd)) : List Nat → Bool
 | [] => false
 | x :: l => l.any (fun y => y != x) || loopsB E x
def allB (s : Nat) : Nat := 2 ^ s - 1
theorem allB_bit {s i : Nat} : (allB s).testBit i = decide (i < s) := by rw [allB, Nat.testBit_two_pow_sub_one]
def goodP (E : List (List Nd)) (ins : List Nat) (s : Nat) (l : List Nat) : Bool := decide (orL ins l &&& allB s = allB s) && cycB E l
def asksI (ins : List Nat) (s : Nat) : List (Nat → Bool) := (fun _ => true) :: (List.range s).map (fun i m => (ins.getD m 0).testBit i)
theorem asksI_iff {ins : List Nat} {s : Nat} {P : (Nat → Bool) → Prop} : (∀ p ∈ asksI ins s, P p) ↔ P (fun _ => true) ∧ ∀ i, i < s → P (fun m => (ins.getD m 0).testBit i) := by
 constructor
 ·intro h
  exact ⟨h _ (List.mem_cons_self ..), fun i hi => h _ (List.mem_cons_of_mem _ (List.mem_map.2 ⟨i, List.mem_range.2 hi, rfl⟩))⟩
 ·rintro ⟨h1, h2⟩ p hp
  rcases List.mem_cons.1 hp with rfl | hp
  ·exact h1
  ·obtain ⟨i, hi, rfl⟩ := List.mem_map.1 hp
   exact h2 i (List.mem_range.1 hi)
theorem and_all {u s : Nat} : u &&& allB s = allB s ↔ ∀ i, i < s → u.testBit i = true := by
 constructor
 ·intro h i hi
  have := congrArg (fun x => x.testBit i) h
  simp only [Nat.testBit_and, allB_bit, decide_eq_true hi, Bool.and_true] at this
  exact this
 ·intro h
  apply Nat.eq_of_testBit_eq
  intro i
  rw [Nat.testBit_and, allB_bit]
  by_cases hi : i < s
  ·rw [h i hi, Bool.true_and]
  ·rw [decide_eq_false hi, Bool.and_false]
section
variable {E : List (List Nd)} {of : List Nat} {ins : List Nat} {s : Nat}
theorem cyc_iff {l : List Nat} {m : Nat} (hm : m ∈ l) (hmN : m < E.length) (hl : ∀ x, x ∈ l ↔ x < E.length ∧ Mut E m x) : cycB E l = true ↔ ∃ j, Arc E m j ∧ Lead (Arc E) j m := by
 have hfirst : ∀ {x y}, Lead (Arc E) x y → x ≠ y → ∃ j, Arc E x j ∧ Lead (Arc E) j y := by
  intro x y h
  cases h with
  | refl a => exact fun h => absurd rfl h
  | step r k => exact fun _ => ⟨_, r, k⟩
 cases l with
 | nil => cases hm
 | cons x l =>
  have hx := (hl x).1 (List.mem_cons_self ..)
  unfold cycB
  rw [Bool.or_eq_true]
  constructor
  ·rintro (h | h)
   ·rw [List.any_eq_true] at h
    obtain ⟨y, hy, hyx⟩ := h
    have hyx' : y ≠ x := by simpa using hyx
    have hy' := (hl y).1 (List.mem_cons_of_mem _ hy)
    by_cases e : m = x
    ·subst e
     obtain ⟨j, h1, h2⟩ := hfirst hy'.2.1 (fun e => hyx' e.symm)
     exact ⟨j, h1, h2.trans hy'.2.2⟩
    ·obtain ⟨j, h1, h2⟩ := hfirst hx.2.1 e
     exact ⟨j, h1, h2.trans hx.2.2⟩
   ·unfold loopsB at h
    rw [List.any_eq_true] at h
    obtain ⟨e, he, hn⟩ := h
    have hn' : e.op = (x : Int) := by simpa using hn
    have ha : Arc E x x := ⟨hx.1, hx.1, by simp only [tgts, List.mem_map]; exact ⟨e, he, hn'⟩⟩
    by_cases e2 : m = x
    ·subst e2; exact ⟨m, ha, .refl _⟩
    ·obtain ⟨j, h1, h2⟩ := hfirst hx.2.1 e2
     exact ⟨j, h1, h2.trans hx.2.2⟩
  ·rintro ⟨j, h1, h2⟩
   by_cases hany : l.any (fun y => y != x) = true
   ·exact .inl hany
   ·right
    have hall : ∀ y, y ∈ x :: l → y = x := by
     intro y hy
     rcases List.mem_cons.1 hy with rfl | hy
     ·rfl
     ·apply Classical.byContradiction
      intro hne
      exact hany (List.any_eq_true.2 ⟨y, hy, by simpa using hne⟩)
    have hmx := hall m hm
    subst hmx
    have hj := hall j ((hl j).2 ⟨h1.2.1, .step h1 (.refl _), h2⟩)
    subst hj
    have ht := h1.2.2
    simp only [tgts, List.mem_map] at ht
    obtain ⟨e, he, hn⟩ := ht
    exact List.any_eq_true.2 ⟨e, he, by simpa using hn⟩
theorem Core.mut {asks : List (Nat → Bool)} {x y : Nat} (h : Core E asks x) (hm : Mut E x y) : Core E asks y := by
 obtain ⟨⟨j, h1, h2⟩, h3⟩ := h
 refine ⟨?_, fun p hp => ?_⟩
 ·have hl := hm.2
  cases hl with
  | refl a => exact ⟨j, h1, h2⟩
  | step r k => exact ⟨_, r, k.trans hm.1⟩
 ·obtain ⟨u, a, b, c⟩ := h3 p hp
  exact ⟨u, hm.2.trans a, b.trans hm.1, c⟩
theorem good_core (h : OfOk E of) {l : List Nat} (hl : l ∈ scParts of) {x : Nat} (hx : x ∈ l) : goodP E ins s l = true ↔ Core E (asksI ins s) x := by
 obtain ⟨m, hmN, hm, hlm⟩ := parts_of h hl
 obtain ⟨hxN, hmx⟩ := (hlm x).1 hx
 have hgm : goodP E ins s l = true ↔ Core E (asksI ins s) m := by
  unfold goodP Core
  rw [Bool.and_eq_true, decide_eq_true_eq, cyc_iff hm hmN hlm, and_all, asksI_iff]
  constructor
  ·rintro ⟨h1, h2⟩
   refine ⟨h2, ⟨m, .refl _, .refl _, rfl⟩, fun i hi => ?_⟩
   obtain ⟨u, hu, hb⟩ := (orL_bit l).1 (h1 i hi)
   have := (hlm u).1 hu
   exact ⟨u, this.2.1, this.2.2, hb⟩
  ·rintro ⟨h1, _, h3⟩
   refine ⟨fun i hi => ?_, h1⟩
   obtain ⟨u, a, b, c⟩ := h3 i hi
   exact (orL_bit l).2 ⟨u, (hlm u).2 ⟨lead_lt a hmN, a, b⟩, c⟩
 rw [hgm]
 exact ⟨fun h => h.mut hmx, fun h => h.mut hmx.symm⟩
def goalL (E : List (List Nd)) (ins : List Nat) (s : Nat) (P : List (List Nat)) : List Bool := ((P.filter (goodP E ins s)).flatten).foldl (fun r x => r.set x true) (List.replicate E.length false)
theorem goal_core (h : OfOk E of) {x : Nat} (hx : x < E.length) : (goalL E ins s (scParts of)).getD x false = true ↔ Core E (asksI ins s) x := by
 have hin : ∀ y ∈ ((scParts of).filter (goodP E ins s)).flatten, y < (List.replicate E.length false).length := by
  intro y hy
  obtain ⟨l, hl, hyl⟩ := List.mem_flatten.1 hy
  obtain ⟨m, _, _, hlm⟩ := parts_of h (List.mem_filter.1 hl).1
  rw [List.length_replicate]
  exact ((hlm y).1 hyl).1
 have e : (goalL E ins s (scParts of)).getD x false = if x ∈ ((scParts of).filter (goodP E ins s)).flatten then true else (List.replicate E.length false).getD x false := putAll_at hin x
 rw [e, rep_getD]
 have : x ∈ ((scParts of).filter (goodP E ins s)).flatten ↔ Core E (asksI ins s) x := by
  rw [List.mem_flatten]
  constructor
  ·rintro ⟨l, hl, hxl⟩
   obtain ⟨h1, h2⟩ := List.mem_filter.1 hl
   exact (good_core h h1 hxl).1 h2
  ·intro hc
   obtain ⟨h1, h2⟩ := parts_has h hx
   exact ⟨_, List.mem_filter.2 ⟨h1, (good_core h h1 h2).2 hc⟩, h2⟩
 rw [← this]
 split
 ·next e => exact ⟨fun _ => e, fun _ => rfl⟩
 ·next e => exact ⟨fun h' => by simp at h', fun h' => absurd h' e⟩
theorem lasting_iff (h : OfOk E of) {x : Nat} (hx : x < E.length) : (stepZ.backG' E.length E (goalL E ins s (scParts of))).getD x false = true ↔ Runs E (asksI ins s) x := by
 have h1 := reachG_iff (n := E.length) (E := turnE E) (from_ := goalsG E.length (goalL E ins s (scParts of))) (i := (x : Int)) (isNd_iff.2 ⟨by omega, by omega⟩)
 rw [tN] at h1
 unfold stepZ.backG'
 rw [h1, rch_lead rfl hx, runs_iff]
 constructor
 ·rintro ⟨k, hk, hg, hl⟩
  exact ⟨k, hl, (goal_core h hk).1 ((goalsG_mem hk).1 hg)⟩
 ·rintro ⟨v, hl, hc⟩
  have hv := lead_lt hl hx
  exact ⟨v, hv, (goalsG_mem hv).2 ((goal_core h hv).2 hc), hl⟩
theorem Runs.congr {asks asks' : List (Nat → Bool)} (hl : ∀ p' ∈ asks', ∃ p ∈ asks, ∀ k, k < E.length → p k = p' k) {x : Nat} (h : Runs E asks x) : Runs E asks' x := by
 obtain ⟨r, h0, h1, h2⟩ := h
 refine ⟨r, h0, h1, fun p' hp' k => ?_⟩
 obtain ⟨p, hp, he⟩ := hl p' hp'
 obtain ⟨m, a, b⟩ := h2 p hp k
 exact ⟨m, a, by rw [← he _ (h1 m).1]; exact b⟩
end
def repK (of : List Nat) (k : Nat) : List Nat := (List.range k).filter (fun i => of.getD i 0 == i)
def rowK (of : List Nat) (k m : Nat) : List Nat := (List.range k).filter (fun i => of.getD i 0 == m)
def partsK (of : List Nat) (k : Nat) : List (List Nat) := (repK of k).map (rowK of k)
theorem partsK_all (of : List Nat) : partsK of of.length = scParts of := rfl
theorem repK_succ (of : List Nat) (k : Nat) : repK of (k + 1) = repK of k ++ (if of.getD k 0 = k then [k] else []) := by
 unfold repK
 rw [List.range_succ, List.filter_append]
 congr 1
 rw [List.filter_cons, List.filter_nil]
 by_cases e : of.getD k 0 = k
 ·rw [if_pos e, if_pos (by simpa using e)]
 ·rw [if_neg e, if_neg (by simpa using e)]
theorem rowK_succ (of : List Nat) (k m : Nat) : rowK of (k + 1) m = rowK of k m ++ (if of.getD k 0 = m then [k] else []) := by
 unfold rowK
 rw [List.range_succ, List.filter_append]
 congr 1
 rw [List.filter_cons, List.filter_nil]
 by_cases e : of.getD k 0 = m
 ·rw [if_pos e, if_pos (by simpa using e)]
 ·rw [if_neg e, if_neg (by simpa using e)]
theorem repK_mem {of : List Nat} {k m : Nat} : m ∈ repK of k ↔ m < k ∧ of.getD m 0 = m := by
 unfold repK
 rw [List.mem_filter, List.mem_range, beq_iff_eq]
theorem repK_len (of : List Nat) (k : Nat) : (repK of k).length ≤ k := by
 have := List.length_filter_le (fun i => of.getD i 0 == i) (List.range k)
 rwa [List.length_range] at this
theorem rowK_len (of : List Nat) (k m : Nat) : (rowK of k m).length ≤ k := by
 have := List.length_filter_le (fun i => of.getD i 0 == m) (List.range k)
 rwa [List.length_range] at this
def PlaceOk (of place : List Nat) (k : Nat) : Prop := ∀ j m, (repK of k)[j]? = some m → place.getD m 0 = j
theorem placeOk_new {of place : List Nat} {k : Nat} (h : PlaceOk of place k) (hk : k < place.length) (he : of.getD k 0 = k) : PlaceOk of (place.set k (repK of k).length) (k + 1) := by
 intro j m hj
 rw [repK_succ, if_pos he] at hj
 rw [setD hk]
 by_cases hl : j < (repK of k).length
 ·rw [gC hl] at hj
  have hm := (repK_mem.1 (List.mem_of_getElem? hj)).1
  rw [if_neg (by omega)]
  exact h j m hj
 ·rw [gR (by omega)] at hj
  have : j - (repK of k).length = 0 := by
   have := (gB.1 hj).1
   simp at this; omega
  rw [this] at hj
  simp at hj
  rw [if_pos hj]; omega
theorem placeOk_old {of place : List Nat} {k : Nat} (h : PlaceOk of place k) (he : of.getD k 0 ≠ k) : PlaceOk of place (k + 1) := by
 intro j m hj
 rw [repK_succ, if_neg he, List.append_nil] at hj
 exact h j m hj
theorem partsK_at {of : List Nat} {k j m : Nat} (h : (repK of k)[j]? = some m) : (partsK of k)[j]? = some (rowK of k m) := by
 unfold partsK
 rw [List.getElem?_map, h]; rfl
theorem partsK_old {E : List (List Nd)} {of : List Nat} (ho : OfOk E of) {k : Nat} (hk : k < E.length) (he : of.getD k 0 ≠ k) : ∃ j, (repK of k)[j]? = some (of.getD k 0) ∧ partsK of (k + 1) = (partsK of k).set j (rowK of k (of.getD k 0) ++ [k]) := by
 have hle := ho.le hk
 obtain ⟨j, hj⟩ := List.getElem?_of_mem (repK_mem.2 ⟨show of.getD k 0 < k by omega, ho.idem hk⟩)
 refine ⟨j, hj, ?_⟩
 have hnd : (repK of k).Nodup := List.Pairwise.filter _ List.nodup_range
 refine List.ext_getElem? (fun i => ?_)
 unfold partsK
 rw [repK_succ, if_neg he, List.append_nil, List.getElem?_map, List.getElem?_set]
 have hjl := (gB.1 hj).1
 by_cases e : j = i
 ·subst e
  rw [if_pos rfl, hj, if_pos (by simpa using hjl), Option.map_some, rowK_succ, if_pos rfl]
 ·rw [if_neg e, List.getElem?_map]
  cases hi : (repK of k)[i]? with
  | none => rfl
  | some m =>
   rw [Option.map_some, Option.map_some, rowK_succ]
   have hne : of.getD k 0 ≠ m := fun e2 => by
    rw [e2] at hj
    obtain ⟨h1, h2⟩ := gB.1 hj
    obtain ⟨h3, h4⟩ := gB.1 hi
    exact e ((List.getElem_inj hnd).1 (h2.trans h4.symm))
   rw [if_neg hne, List.append_nil]
theorem partsK_new {E : List (List Nd)} {of : List Nat} (ho : OfOk E of) {k : Nat} (hk : k < E.length) (he : of.getD k 0 = k) : partsK of (k + 1) = ((partsK of k) ++ [[]]).set (repK of k).length [k] := by
 have hr : rowK of k k = [] := by
  unfold rowK
  rw [List.filter_eq_nil_iff]
  intro i hi
  have hi' := List.mem_range.1 hi
  have := ho.le (show i < E.length by omega)
  rw [beq_iff_eq]; omega
 have hold : ∀ m ∈ repK of k, rowK of (k + 1) m = rowK of k m := fun m hm => by
  rw [rowK_succ, if_neg (by have := (repK_mem.1 hm).1; omega), List.append_nil]
 unfold partsK
 rw [repK_succ, if_pos he, List.map_append, List.map_congr_left hold, List.map_singleton, rowK_succ, hr, if_pos he]
 have hl : ((repK of k).map (rowK of k)).length = (repK of k).length := List.length_map _
 rw [← hl, List.set_append_right _ _ lR, Nat.sub_self]
 rfl
end Go.Proofs.YtiebpncpdbnelaaGreatDoor
