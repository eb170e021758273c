/- Texts that stand one behind the other, in one file. -/
import Derived.Test.YtiebpncpdbnelaaDoorZaq
set_option maxHeartbeats 4000000
set_option maxRecDepth 100000
namespace Go.Proofs.YtiebpncpdbnelaaDoor
open Go.RowKit
theorem eqI30_any (A1 A2 : Option Addr) (n1 c1 n2 c2 : Nat) (xs ys : List Int) (w : World) (B1 B2 : Nat) (hx : Sl w B1 1 A1 n1 c1 (xs.map (.int .i64))) (hy : Sl w B2 1 A2 n2 c2 (ys.map (.int .i64)))
  (hn1 : n1 = xs.length) (hn2 : n2 = ys.length) (hl : n1 ≤ 100000000000000) :
  Calls Tryd.prog 37 #[.slice A1 n1 c1, .slice A2 n2 c2] w (Said w (decide (xs = ys))) := by
 by_cases hne : n1 = n2
 ·subst hne
  have HN1 := dh hn1
  have HN2 := dh hn2
  clear hn1 hn2
  have hd : ((n1 : Int) != (n1 : Int)) = false := by simp
  go_enter Tryd.func37, Tryd.ntmps37
  go_wp2
  go_loopw [5] (fun i wr => ∃ k m : Nat, k ≤ n1 ∧ i = .int .i64 k ∧ wr = w.drewN m ∧ Hid (xs.take k = ys.take k)) (fun i _ => n1 - (intOf i).toNat)
  case atStart => exact ⟨0, 0, by omega, rfl, rfl, rfl⟩
  case round =>
   obtain ⟨k, m, hk, rfl, rfl, ht⟩ := hrel
   by_cases hlt : k < n1
   ·have hkx : k < xs.length := by rw [← HN1.out]; exact hlt
    have hky : k < ys.length := by rw [← HN2.out]; exact hlt
    obtain ⟨b, o, rfl, _, hc⟩ := hx.rd.at_ (j := k) (u := .int .i64 xs[k]) (by simp [hkx])
    obtain ⟨b', o', rfl, _, hc'⟩ := hy.rd.at_ (j := k) (u := .int .i64 ys[k]) (by simp [hky])
    have hs := fun h => take_eq_snoc ht.out hkx hky h
    generalize hX : xs[k] = x at *
    generalize hY : ys[k] = y at *
    have HX := dh hX
    have HY := dh hY
    have HS := dh hs
    clear hX hY hs
    have h0 : (0 : Int) ≤ (k : Int) := by omega
    have h1 : (k : Int) < (n1 : Int) := by omega
    rcases Decidable.em (x = y) with he | he
    ·have hb : (x != y) = false := by simp [he]
     have HE := dh he
     clear he
     go_wp2_with fail
     go_quiet (fail)
     go_wp2
     go_roundw
     case rel => exact ⟨k + 1, _, by omega, by go_num, by first | rfl | rw [World.drewN_drewN], HS.out HE.out⟩
     case measure => simp [intOf]; omega
    ·have hb : (x != y) = true := by simp [he]
     have HE := dh he
     clear he
     go_wp2_with fail
     go_quiet (fail)
     go_wp2
     go_ret
     refine ⟨ret_bool ?_, _, by rw [World.drewN_drewN]⟩
     symm; rw [decide_eq_false_iff_not]
     rintro rfl
     exact HE.out (HX.out.symm.trans HY.out)
   ·have hkn : k = n1 := by omega
    subst hkn
    go_wp2
    go_ret
    refine ⟨ret_bool ?_, _, rfl⟩
    have := ht.out
    rw [tL (by rw [← HN1.out]; exact lR), tL (by rw [← HN2.out]; exact lR)] at this
    simp [this]
 ·have hd : ((n1 : Int) != (n2 : Int)) = true := by simp; omega
  have HD := dh hne
  have HN1 := dh hn1
  have HN2 := dh hn2
  clear hne hn1 hn2
  go_enter Tryd.func37, Tryd.ntmps37
  go_wp2
  go_ret
  refine ⟨ret_bool ?_, 0, rfl⟩
  symm; rw [decide_eq_false_iff_not]
  intro h
  exact HD.out (by rw [HN1.out, HN2.out, h])
end Go.Proofs.YtiebpncpdbnelaaDoor
namespace Go.Proofs.YtiebpncpdbnelaaDoor
open Go.RowKit
theorem said_truA {w : World} {b : Bool} {en : Ending} {w' : World} (h : Said w b en w') : Tru w b en w' := by
 obtain ⟨e, n, rfl⟩ := h
 exact ⟨e, below_drewA w n⟩
theorem box4A {w : World} {b t : Nat} {p q r s : Value} (h : w.1[b]? = some (.cells #[p, q, r, s] t (0, 0))) : w.cell? ⟨b, 0, none⟩ = some p ∧ w.cell? ⟨b, 1, none⟩ = some q ∧ w.cell? ⟨b, 2, none⟩ = some r ∧ w.cell? ⟨b, 3, none⟩ = some s := by
 refine ⟨?_, ?_, ?_, ?_⟩ <;> (rw [cell_of_row _ _ _ _ _ (0, 0) h]; rfl)
theorem set4A {w : World} {g T : Nat} {a b c d : Value} {cs : Array Value} (h : w.1[g]? = some (.cells cs T (0, 0))) (hc : cs.size = 4) :
  ((((w.setCell ⟨g, 0, none⟩ a).setCell ⟨g, 1, none⟩ b).setCell ⟨g, 2, none⟩ c).setCell ⟨g, 3, none⟩ d).1[g]? = some (.cells #[a, b, c, d] T (0, 0)) := by
 have h1 := heap_setCell_same w g 0 _ _ a h
 have h2 := heap_setCell_same _ g 1 _ _ b h1
 have h3 := heap_setCell_same _ g 2 _ _ c h2
 have h4 := heap_setCell_same _ g 3 _ _ d h3
 rw [h4]
 clear h1 h2 h3 h4 h
 obtain ⟨l⟩ := cs
 match l, hc with
 | [p, q, r, s], _ => simp
theorem tch4A (w0 : World) (g : Nat) (a b c d : Value) : Tch (fun k => k = g) w0 ((((w0.setCell ⟨g, 0, none⟩ a).setCell ⟨g, 1, none⟩ b).setCell ⟨g, 2, none⟩ c).setCell ⟨g, 3, none⟩ d) :=
 ((((Tch.refl (fun k => k = g) w0).setCell (p := ⟨g, 0, none⟩) (fun _ => rfl) a).setCell (p := ⟨g, 1, none⟩) (fun _ => rfl) b).setCell (p := ⟨g, 2, none⟩) (fun _ => rfl) c).setCell (p := ⟨g, 3, none⟩) (fun _ => rfl) d
theorem rd_at {w : World} {B : Nat} {a : Aut} {Ai An : Option Addr} {ni ci nn cn : Nat} (h : AutRd w B a Ai ni ci An nn cn) {k : Nat} (hk : k < nn) {x : ANd} (hx : a.nodes[k]? = some x) :
  ∃ b off A c, An = some ⟨b, off, none⟩ ∧ b < B ∧ w.cell? ⟨b, off + k * 4, none⟩ = some (.int .u64 (x.need : Int)) ∧ w.cell? ⟨b, off + k * 4 + 1, none⟩ = some (.int .u64 (x.ban : Int)) ∧
   w.cell? ⟨b, off + k * 4 + 2, none⟩ = some (.int .u64 (x.inn : Int)) ∧ w.cell? ⟨b, off + k * 4 + 3, none⟩ = some (.slice A x.to.length c) ∧ Sl w B 1 A x.to.length c (icells x.to) := by
 obtain ⟨b, off, y, A, c, h1, h2, h3, h4⟩ := rd_aut h hk
 rw [hx] at h3
 cases h3
 exact ⟨b, off, A, c, h1, h2, h4⟩
end Go.Proofs.YtiebpncpdbnelaaDoor
namespace Go.Proofs.YtiebpncpdbnelaaDoor
open Go.RowKit
instance : DecidableEq ANd := fun x y => decidable_of_iff (x.need = y.need ∧ x.ban = y.ban ∧ x.inn = y.inn ∧ x.to = y.to) (by
 constructor
 ·rintro ⟨h1, h2, h3, h4⟩
  cases x; cases y
  simp only at h1 h2 h3 h4
  subst h1; subst h2; subst h3; subst h4
  rfl
 ·rintro rfl; exact ⟨rfl, rfl, rfl, rfl⟩)
instance : DecidableEq Aut := fun x y => decidable_of_iff (x.sets = y.sets ∧ x.init = y.init ∧ x.nodes = y.nodes) (by
 constructor
 ·rintro ⟨h1, h2, h3⟩
  cases x; cases y
  simp only at h1 h2 h3
  subst h1; subst h2; subst h3
  rfl
 ·rintro rfl; exact ⟨rfl, rfl, rfl⟩)
theorem and_iff (x y : ANd) : x = y ↔ x.need = y.need ∧ x.ban = y.ban ∧ x.inn = y.inn ∧ x.to = y.to := by
 constructor
 ·rintro rfl; exact ⟨rfl, rfl, rfl, rfl⟩
 ·rintro ⟨h1, h2, h3, h4⟩
  cases x; cases y
  simp only at h1 h2 h3 h4
  subst h1; subst h2; subst h3; subst h4
  rfl
theorem aut_iff (x y : Aut) : x = y ↔ x.sets = y.sets ∧ x.init = y.init ∧ x.nodes = y.nodes := by
 constructor
 ·rintro rfl; exact ⟨rfl, rfl, rfl⟩
 ·rintro ⟨h1, h2, h3⟩
  cases x; cases y
  simp only at h1 h2 h3
  subst h1; subst h2; subst h3
  rfl
theorem natCast_beq (x y : Nat) : ((x : Int) == (y : Int)) = decide (x = y) := by
 by_cases h : x = y
 ·subst h; simp
 ·rw [decide_eq_false h]; exact beq_eq_false_iff_ne.2 (by omega)
theorem autSame1_any (x y : ANd) (A1 A2 : Option Addr) (c1 c2 : Nat) (w : World) (B : Nat) (h1 : Sl w B 1 A1 x.to.length c1 (icells x.to)) (h2 : Sl w B 1 A2 y.to.length c2 (icells y.to)) (hB : B ≤ w.1.size) (hl : x.to.length ≤ 100000000) :
  Calls Tryd.prog 53 #[.agg #[.int .u64 (x.need : Int), .int .u64 (x.ban : Int), .int .u64 (x.inn : Int), .slice A1 x.to.length c1], .agg #[.int .u64 (y.need : Int), .int .u64 (y.ban : Int), .int .u64 (y.inn : Int), .slice A2 y.to.length c2]] w (Tru w (decide (x = y))) := by
 obtain ⟨hb0, x0, y0, z0⟩ := two_new w (.cells #[.int .u64 (x.need : Int), .int .u64 (x.ban : Int), .int .u64 (x.inn : Int), .slice A1 x.to.length c1] 43) (.cells #[.int .u64 (y.need : Int), .int .u64 (y.ban : Int), .int .u64 (y.inn : Int), .slice A2 y.to.length c2] 43)
 obtain ⟨W0, hW0⟩ := xQ ((w.alloc (.cells #[.int .u64 (x.need : Int), .int .u64 (x.ban : Int), .int .u64 (x.inn : Int), .slice A1 x.to.length c1] 43)).alloc (.cells #[.int .u64 (y.need : Int), .int .u64 (y.ban : Int), .int .u64 (y.inn : Int), .slice A2 y.to.length c2] 43))
 rw [hW0] at hb0 x0 y0 z0
 obtain ⟨k0, k1, k2, k3⟩ := box4A x0
 obtain ⟨l0, l1, l2, l3⟩ := box4A y0
 have HEQ := dh ((equalInt_any A1 A2 x.to.length c1 y.to.length c2 x.to y.to W0 B B (h1.below hb0 hB) (h2.below hb0 hB) rfl rfl (by omega)).mono (fun _ _ h => said_truA h))
 have HW0 := dh hW0
 have HB0 := dh hb0
 have HZ0 := dh z0
 have b1 := natCast_beq x.need y.need
 have b2 := natCast_beq x.ban y.ban
 have b3 := natCast_beq x.inn y.inn
 clear h1 h2 hb0 hW0 x0 y0 z0
 by_cases e1 : x.need = y.need
 ·rw [decide_eq_true e1] at b1
  by_cases e2 : x.ban = y.ban
  ·rw [decide_eq_true e2] at b2
   by_cases e3 : x.inn = y.inn
   ·rw [decide_eq_true e3] at b3
    have HD : Hid (decide (x.to = y.to) = decide (x = y)) := dh (decide_eq_decide.2 (by rw [and_iff]; exact ⟨fun h => ⟨e1, e2, e3, h⟩, fun h => h.2.2.2⟩))
    clear e1 e2 e3
    go_enter Tryd.func53, Tryd.ntmps53
    go_upto_region 1 with fail
    rw [HW0.out]
    go_wp2_with fail
    refine HEQ.out.mono ?_
    rintro e w1 ⟨rfl, hb1⟩
    have HBF := dh (HB0.out.trans (hb1.mono (by have := HZ0.out; omega)))
    clear hb1
    go_wp2_with fail
    go_ret
    exact ⟨ret_bool HD.out, HBF.out⟩
   ·rw [decide_eq_false e3] at b3
    have HD : Hid (false = decide (x = y)) := dh (decide_eq_false (fun h => e3 (by rw [h]))).symm
    clear e1 e2 e3
    go_enter Tryd.func53, Tryd.ntmps53
    go_upto_region 1 with fail
    rw [HW0.out]
    go_wp2_with fail
    go_ret
    exact ⟨ret_bool HD.out, HB0.out⟩
  ·rw [decide_eq_false e2] at b2
   have HD : Hid (false = decide (x = y)) := dh (decide_eq_false (fun h => e2 (by rw [h]))).symm
   clear e1 e2
   go_enter Tryd.func53, Tryd.ntmps53
   go_upto_region 1 with fail
   rw [HW0.out]
   go_wp2_with fail
   go_ret
   exact ⟨ret_bool HD.out, HB0.out⟩
 ·rw [decide_eq_false e1] at b1
  have HD : Hid (false = decide (x = y)) := dh (decide_eq_false (fun h => e1 (by rw [h]))).symm
  clear e1
  go_enter Tryd.func53, Tryd.ntmps53
  go_upto_region 1 with fail
  rw [HW0.out]
  go_wp2_with fail
  go_ret
  exact ⟨ret_bool HD.out, HB0.out⟩
theorem list_ne_at {α : Type} {l m : List α} {k : Nat} {x y : α} (h1 : l[k]? = some x) (h2 : m[k]? = some y) (h : x ≠ y) : l ≠ m := by
 rintro rfl
 rw [h1] at h2
 exact h (Option.some.inj h2)
theorem eqNodes_any (a b : Aut) (Ai : Option Addr) (ni ci : Nat) (An : Option Addr) (nn cn : Nat) (Di : Option Addr) (mi di : Nat) (Dn : Option Addr) (mn dn : Nat) (w : World) (B : Nat) (h1 : AutRd w B a Ai ni ci An nn cn) (h2 : AutRd w B b Di mi di Dn mn dn) (hB : B ≤ w.1.size)
  (hlN : a.nodes.length ≤ 100000) (hlT : ∀ x ∈ a.nodes, x.to.length ≤ 100000000) :
  Calls Tryd.prog 52 #[.slice An nn cn, .slice Dn mn dn, .func (.func 53) #[] #[]] w (Tru w (decide (a.nodes = b.nodes))) := by
 have e2 := h1.enn
 have e4 := h2.enn
 obtain ⟨xsN, hsN, -⟩ := h1.nodes
 obtain ⟨ysN, hsM, -⟩ := h2.nodes
 have hcn := hsN.cap
 have hmn := hsN.max
 have hcm := hsM.cap
 have hmm := hsM.max
 unfold maxLen at hmn hmm
 have H1 := dh h1
 have H2 := dh h2
 have HLT := dh hlT
 clear h1 h2 hlT hsN hsM
 by_cases hne : nn = mn
 ·subst hne
  have E2 := dh e2
  have E4 := dh e4
  have hln : nn ≤ 100000 := by omega
  clear e2 e4
  go_enter Tryd.func52, Tryd.ntmps52
  go_wp2_with fail
  go_loopw [17] (fun v wr => ∃ i : Nat, i ≤ nn ∧ v = .int .i64 i ∧ Below w.1.size w wr ∧ Hid (a.nodes.take i = b.nodes.take i)) (fun v _ => nn - (intOf v).toNat)
  case atStart => exact ⟨0, by omega, rfl, bR, dh rfl⟩
  case round =>
   obtain ⟨i, hi, rfl, hbr, HQ⟩ := hrel
   have hzr := hbr.size
   by_cases hlt : i < nn
   ·have hi0 : (0 : Int) ≤ (i : Int) := by omega
    have hi1 : (i : Int) < (nn : Int) := by omega
    have wi : IntKind.i64.wrap ((i : Int) + 1) = i + 1 := by rw [wI]; omega
    obtain ⟨b1, o1, x, At, ct, rfl, hbl, hx, c0, c1, c2, c3, hst⟩ := rd_aut (H1.out.below hbr hB) hlt
    obtain ⟨b2, o2, y, Dt, dt, rfl, hbl2, hy, d0, d1, d2, d3, hst2⟩ := rd_aut (H2.out.below hbr hB) hlt
    have hxl := HLT.out x (List.mem_of_getElem? hx)
    obtain ⟨hb0, x0, y0, z0⟩ := two_new wr (.cells #[.int .u64 (x.need : Int), .int .u64 (x.ban : Int), .int .u64 (x.inn : Int), .slice At x.to.length ct] 43) (.cells #[.int .u64 (y.need : Int), .int .u64 (y.ban : Int), .int .u64 (y.inn : Int), .slice Dt y.to.length dt] 43)
    obtain ⟨W0, hW0⟩ := xQ ((wr.alloc (.cells #[.int .u64 (x.need : Int), .int .u64 (x.ban : Int), .int .u64 (x.inn : Int), .slice At x.to.length ct] 43)).alloc (.cells #[.int .u64 (y.need : Int), .int .u64 (y.ban : Int), .int .u64 (y.inn : Int), .slice Dt y.to.length dt] 43))
    rw [hW0] at hb0 x0 y0 z0
    have HS := dh (autSame1_any x y At Dt ct dt W0 B (hst.below hb0 (by omega)) (hst2.below hb0 (by omega)) (by omega) hxl)
    have HBW := dh (hbr.trans (hb0.mono hzr))
    have HZW := dh z0
    have HW0 := dh hW0
    have HXY := dh (And.intro hx hy)
    obtain ⟨k0, k1, k2, k3⟩ := box4A x0
    obtain ⟨l0, l1, l2, l3⟩ := box4A y0
    have hbA : Below wr.1.size wr (wr.alloc (.cells #[.int .u64 (x.need : Int), .int .u64 (x.ban : Int), .int .u64 (x.inn : Int), .slice At x.to.length ct] 43)) := bR.alloc lR _
    have d0 := (hbA.cell (show b2 < wr.1.size by omega)).trans d0
    have d1 := (hbA.cell (show b2 < wr.1.size by omega)).trans d1
    have d2 := (hbA.cell (show b2 < wr.1.size by omega)).trans d2
    have d3 := (hbA.cell (show b2 < wr.1.size by omega)).trans d3
    clear hbA
    clear hst hst2 hb0 hW0 hx hy x0 y0 z0 hbl hbl2
    go_upto_region 7 with fail
    rw [HW0.out]
    clear c0 c1 c2 c3 d0 d1 d2 d3
    go_wp2_with fail
    refine HS.out.mono ?_
    by_cases hxy : x = y
    ·rw [decide_eq_true hxy]
     rintro e w2 ⟨rfl, hb2⟩
     have HB2 := dh (HBW.out.trans (hb2.mono (by have := HZW.out; omega)))
     have HQ2 : Hid (a.nodes.take (i + 1) = b.nodes.take (i + 1)) := dh (by
      obtain ⟨hx, hy⟩ := HXY.out
      rw [List.take_add_one, List.take_add_one, HQ.out, hx, hy, hxy])
     clear hb2 k0 k1 k2 k3 l0 l1 l2 l3
     go_wp2_with fail
     exact ⟨⟨i + 1, by omega, congrArg (Value.int .i64) (by omega), HB2.out, HQ2⟩, by simp [intOf]; omega⟩
    ·rw [decide_eq_false hxy]
     rintro e w2 ⟨rfl, hb2⟩
     have HB2 := dh (HBW.out.trans (hb2.mono (by have := HZW.out; omega)))
     have HD : Hid (false = decide (a.nodes = b.nodes)) := dh (decide_eq_false (list_ne_at HXY.out.1 HXY.out.2 hxy)).symm
     clear hb2 k0 k1 k2 k3 l0 l1 l2 l3
     go_wp2_with fail
     go_ret
     exact ⟨ret_bool HD.out, HB2.out⟩
   ·have hin : i = nn := by omega
    subst hin
    have HD : Hid (true = decide (a.nodes = b.nodes)) := dh (decide_eq_true (by have := HQ.out; rwa [E2.out, List.take_length, ← E2.out, E4.out, List.take_length] at this)).symm
    go_wp2_with fail
    go_ret
    exact ⟨ret_bool HD.out, hbr⟩
 ·have HD : Hid (false = decide (a.nodes = b.nodes)) := dh (decide_eq_false (fun h => hne (by rw [e2, e4, h]))).symm
  have hne1 : ((nn : Int) == (mn : Int)) = false := by simp; omega
  have hln : nn ≤ 100000 := by omega
  clear e2 e4
  go_enter Tryd.func52, Tryd.ntmps52
  go_wp2_with fail
  go_ret
  exact ⟨ret_bool HD.out, bR⟩
theorem autoSame_any (a b : Aut) (Ai : Option Addr) (ni ci : Nat) (An : Option Addr) (nn cn : Nat) (Di : Option Addr) (mi di : Nat) (Dn : Option Addr) (mn dn : Nat) (w : World) (B : Nat) (h1 : AutRd w B a Ai ni ci An nn cn) (h2 : AutRd w B b Di mi di Dn mn dn) (hB : B ≤ w.1.size)
  (hlN : a.nodes.length ≤ 100000) (hlI : a.init.length ≤ 1000000) (hlT : ∀ x ∈ a.nodes, x.to.length ≤ 100000000) :
  Calls Tryd.prog 27 #[.agg #[.int .i64 a.sets, .slice Ai ni ci, .slice An nn cn], .agg #[.int .i64 b.sets, .slice Di mi di, .slice Dn mn dn]] w (Tru w (decide (a = b))) := by
 obtain ⟨s, hs⟩ := xQ a.sets
 obtain ⟨t, ht⟩ := xQ b.sets
 rw [hs, ht]
 obtain ⟨hb0, x0, y0, z0⟩ := two_new w (.cells #[.int .i64 s, .slice Ai ni ci, .slice An nn cn] 25) (.cells #[.int .i64 t, .slice Di mi di, .slice Dn mn dn] 25)
 obtain ⟨W0, hW0⟩ := xQ ((w.alloc (.cells #[.int .i64 s, .slice Ai ni ci, .slice An nn cn] 25)).alloc (.cells #[.int .i64 t, .slice Di mi di, .slice Dn mn dn] 25))
 rw [hW0] at hb0 x0 y0 z0
 obtain ⟨k0, k1, k2⟩ := box3A x0
 obtain ⟨l0, l1, l2⟩ := box3A y0
 have HEI := dh ((equalInt_any Ai Di ni ci mi di a.init b.init W0 B B (h1.init.below hb0 hB) (h2.init.below hb0 hB) h1.eni h2.eni (by rw [h1.eni]; omega)).mono (fun _ _ h => said_truA h))
 have HEN := dh (fun (w' : World) (hb : Below W0.1.size W0 w') => eqNodes_any a b Ai ni ci An nn cn Di mi di Dn mn dn w' B ((h1.below hb0 hB).below hb (by omega)) ((h2.below hb0 hB).below hb (by omega)) (by have := hb.size; omega) hlN hlT)
 have HW0 := dh hW0
 have HB0 := dh hb0
 have HZ0 := dh z0
 have HX0 := dh x0
 have HY0 := dh y0
 clear h1 h2 hb0 hW0 x0 y0 z0 hlT
 by_cases e1 : s = t
 ·have b1 : ((s : Int) == t) = true := by simp [e1]
  by_cases e2 : a.init = b.init
  ·rw [decide_eq_true e2] at HEI
   have HD : Hid (decide (a.nodes = b.nodes) = decide (a = b)) := dh (decide_eq_decide.2 (by rw [aut_iff]; exact ⟨fun h => ⟨by rw [hs, ht]; exact e1, e2, h⟩, fun h => h.2.2⟩))
   clear e1 e2 hs ht
   go_enter Tryd.func27, Tryd.ntmps27
   go_upto_region 1 with fail
   rw [HW0.out]
   go_wp2_with fail
   refine HEI.out.mono ?_
   rintro e w1 ⟨rfl, hb1⟩
   have k2' : w1.cell? ⟨w.1.size, 2, none⟩ = some (.slice An nn cn) := bC hb1 (by show w.1.size < W0.1.size; have := HZ0.out; omega) k2
   have l2' : w1.cell? ⟨w.1.size + 1, 2, none⟩ = some (.slice Dn mn dn) := bC hb1 (by show w.1.size + 1 < W0.1.size; have := HZ0.out; omega) l2
   have HB1 := dh hb1
   have HE1 := dh (HEN.out w1 hb1)
   clear hb1 k0 k1 k2 l0 l1 l2
   go_wp2_with fail
   refine HE1.out.mono ?_
   rintro e w2 ⟨rfl, hb2⟩
   have HB2 := dh (HB0.out.trans ((HB1.out.trans (hb2.mono HB1.out.size)).mono (by have := HZ0.out; omega)))
   clear hb2 k2' l2'
   go_wp2_with fail
   go_ret
   exact ⟨ret_bool HD.out, HB2.out⟩
  ·rw [decide_eq_false e2] at HEI
   have HD : Hid (false = decide (a = b)) := dh (decide_eq_false (fun h => e2 (by rw [h]))).symm
   clear e1 e2 hs ht
   go_enter Tryd.func27, Tryd.ntmps27
   go_upto_region 1 with fail
   rw [HW0.out]
   go_wp2_with fail
   refine HEI.out.mono ?_
   rintro e w1 ⟨rfl, hb1⟩
   have HB1 := dh (HB0.out.trans (hb1.mono (by have := HZ0.out; omega)))
   clear hb1
   go_wp2_with fail
   go_ret
   exact ⟨ret_bool HD.out, HB1.out⟩
 ·have b1 : ((s : Int) == t) = false := beq_eq_false_iff_ne.2 e1
  have HD : Hid (false = decide (a = b)) := dh (decide_eq_false (fun h => e1 (by rw [← hs, ← ht, h]))).symm
  clear e1 hs ht
  go_enter Tryd.func27, Tryd.ntmps27
  go_upto_region 1 with fail
  rw [HW0.out]
  go_wp2_with fail
  go_ret
  exact ⟨ret_bool HD.out, HB0.out⟩
end Go.Proofs.YtiebpncpdbnelaaDoor
