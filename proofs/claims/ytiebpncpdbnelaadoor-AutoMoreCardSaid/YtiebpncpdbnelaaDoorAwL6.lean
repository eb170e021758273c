/- The laws of layer 30: AutoMore. -/
import Derived.Test.YtiebpncpdbnelaaDoorZbw
set_option maxHeartbeats 8000000
set_option maxRecDepth 100000
namespace Go.Proofs.YtiebpncpdbnelaaDoor
open Go.RowKit
structure FewM (w0 : World) (B : Nat) (a : Aut) (p : Nat) (base lb : Nat) (v0 vi vn : Value) (k : Nat) (zs : List Value) (W : World) : Prop where
 blk : W.1[lb]? = some (.cells #[v0, vi, vn] 25 (0, 0))
 own : W.ownsRow base 43 4 vn k zs
 at_ : ∀ (j : Nat) (x : ANd), j < k → a.nodes[j]? = some x → ∃ A c, zs[j * 4]? = some (.int .u64 (x.need : Int)) ∧ zs[j * 4 + 1]? = some (.int .u64 (x.ban : Int)) ∧ zs[j * 4 + 2]? = some (.int .u64 ((bare64 x.inn p : Nat) : Int)) ∧ zs[j * 4 + 3]? = some (.slice A x.to.length c) ∧ Sl w0 B 1 A x.to.length c (icells x.to)
section
variable {w0 W W1 : World} {B : Nat} {a : Aut} {p base lb : Nat} {v0 vi vn v' : Value} {k : Nat} {zs : List Value}
theorem FewM.below (h : FewM w0 B a p base lb v0 vi vn k zs W) (hb : Below W.1.size W W1) : FewM w0 B a p base lb v0 vi vn k zs W1 :=
 ⟨(hb.block lb (aI.1 h.blk).1).trans h.blk, own_below h.own hb, h.at_⟩
theorem FewM.push (h : FewM w0 B a p base lb v0 vi vn k zs W) {x : ANd} (hx : a.nodes[k]? = some x) {A : Option Addr} {c : Nat} {o : Obj} (hs : Sl w0 B 1 A x.to.length c (icells x.to))
  (hown : W1.ownsRow base 43 4 v' (k + 1) (zs ++ [.int .u64 (x.need : Int), .int .u64 (x.ban : Int), .int .u64 ((bare64 x.inn p : Nat) : Int), .slice A x.to.length c])) (ht : Tch (fun g => vn.ownBlock = some g) (W.alloc o) W1) :
  (W1.frozen? ⟨lb, 2, none⟩ = false ∧ lb < W1.1.size ∧ W1.cell? ⟨lb, 2, none⟩ = some vn) ∧ FewM w0 B a p base lb v0 vi v' (k + 1) (zs ++ [.int .u64 (x.need : Int), .int .u64 (x.ban : Int), .int .u64 ((bare64 x.inn p : Nat) : Int), .slice A x.to.length c]) (W1.setCell ⟨lb, 2, none⟩ v') := by
 have ht' : Tch (fun g => vn.ownBlock = some g) W W1 := Tch.trans ((Tch.refl _ W).alloc o) ht (fun _ _ e => e)
 have hblk : W1.1[lb]? = some (.cells #[v0, vi, vn] 25 (0, 0)) := ht'.blk h.blk (fun e => own_ne_blk h.own h.blk (by decide) e)
 have hzl : zs.length = k * 4 := h.own.1
 refine ⟨⟨frozen_of_row W1 lb 2 _ _ hblk, (aI.1 hblk).1, cR hblk⟩, ?_, own_tch hown (tch_cell (w := W1) lb 2 v') (fun g hg e => own_ne_blk hown hblk (by decide) (by rw [hg, e])), fun j y hj hy => ?_⟩
 ·rw [heap_setCell_same W1 lb 2 _ _ v' hblk]; rfl
 ·by_cases hl : j < k
  ·obtain ⟨A', c', e0, e1, e2, e3, t⟩ := h.at_ j y hl hy
   exact ⟨A', c', by rw [gC (by omega)]; exact e0, by rw [gC (by omega)]; exact e1, by rw [gC (by omega)]; exact e2, by rw [gC (by omega)]; exact e3, t⟩
  ·obtain rfl : j = k := by omega
   rw [hx] at hy
   cases hy
   refine ⟨A, c, ?_, ?_, ?_, ?_, hs⟩ <;> (rw [gR (by omega)]; simp [hzl])
theorem FewM.rd {s : Nat} {Ai : Option Addr} {ni ci : Nat} (h : FewM w0 B a (2 ^ s) base lb (.int .i64 (s : Int)) (.slice Ai ni ci) vn a.nodes.length zs W) (hb : Below B w0 W) (hB : B ≤ W.1.size) (hi : Sl w0 B 1 Ai ni ci (icells a.init)) (hn : ni = a.init.length) :
  ∃ An cn, vn = .slice An a.nodes.length cn ∧ AutRd W W.1.size (fewA a s) Ai ni ci An a.nodes.length cn := by
 obtain ⟨An, cn, e, hs⟩ := own_sl h.own
 refine ⟨An, cn, e, hn, by simp [fewA], (hi.below hb lR).up hB, zs, hs, fun j x hx => ?_⟩
 have hx' : (a.nodes[j]?).map (fewN s) = some x := by rw [← List.getElem?_map]; exact hx
 obtain ⟨y, hy, rfl⟩ := Option.map_eq_some_iff.1 hx'
 obtain ⟨A, c, e0, e1, e2, e3, t⟩ := h.at_ j y (gB.1 hy).1 hy
 exact ⟨A, c, e0, e1, e2, e3, (t.below hb lR).up hB⟩
end
theorem box3M {W : World} {g T : Nat} {x y z : Value} (h : W.1[g]? = some (.cells #[x, y, z] T (0, 0))) : W.cell? ⟨g, 0, none⟩ = some x ∧ W.cell? ⟨g, 1, none⟩ = some y ∧ W.cell? ⟨g, 2, none⟩ = some z := by
 refine ⟨?_, ?_, ?_⟩ <;> (rw [cell_of_row _ _ _ _ _ (0, 0) h]; rfl)
theorem AutoMore_any (a : Aut) (Ai : Option Addr) (ni ci : Nat) (An : Option Addr) (nn cn : Nat) (A1 A2 : Option Addr) (n1 c1 n2 c2 : Nat) (st lo : List Int) (w : World) (hrd : AutRd w w.1.size a Ai ni ci An nn cn) (hw : WRd w w.1.size A1 A2 n1 c1 n2 c2 st lo) (hok : ∀ x ∈ a.nodes, ANdOk x) (_hsW : (Lit.int .i64 a.sets).wf = true) (hiL : a.init.length ≤ 17592186044416) (_hnL : a.nodes.length ≤ 2932031007402)
  (h1 : ∀ n ∈ st, (Lit.int .u64 n).wf = true) (h2 : ∀ n ∈ lo, (Lit.int .u64 n).wf = true) (_hl1 : st.length ≤ 17592186044416) (_hl2 : lo.length ≤ 17592186044416) (hT : TabAt 0 Lib.deBruijn64tab w) (hg : 0 < w.1.size) (n : Nat) (hnb : n < 256) :
  Calls Tryd.prog 12 #[.agg #[.int .i64 a.sets, .slice Ai ni ci, .slice An nn cn], .agg #[.slice A1 n1 c1, .slice A2 n2 c2], .int .u8 (n : Int)] w (Tru w true) := by
 obtain ⟨hb0, x0, y0, z0⟩ := two_new w (.cells #[.int .i64 a.sets, .slice Ai ni ci, .slice An nn cn] 25) (.cells #[.slice A1 n1 c1, .slice A2 n2 c2] 29)
 obtain ⟨W0, hW0⟩ := xQ ((w.alloc (.cells #[.int .i64 a.sets, .slice Ai ni ci, .slice An nn cn] 25)).alloc (.cells #[.slice A1 n1 c1, .slice A2 n2 c2] 29))
 rw [hW0] at hb0 x0 y0 z0
 have hq : w.1.size + 1 < W0.1.size := by omega
 have hq0 : w.1.size ≤ W0.1.size := by omega
 have HRD := dh (hrd.below hb0 lR)
 have HWD := dh (hw.below hb0 lR)
 have HW0 := dh hW0
 have HB0 := dh hb0
 have HOK := dh hok
 have HST := dh (fun n hn => by have := bd_u64 (h1 n hn); (exact (⟨by omega, by omega⟩ : 0 ≤ n ∧ n < 18446744073709551616)))
 have HLO := dh (fun n hn => by have := bd_u64 (h2 n hn); (exact (⟨by omega, by omega⟩ : 0 ≤ n ∧ n < 18446744073709551616)))
 have hnd : ∀ x ∈ a.nodes, x.need < 2 ^ 64 ∧ x.ban < 2 ^ 64 := fun x hx => ⟨(hok x hx).1, (hok x hx).2.1⟩
 have hinn : ∀ x ∈ a.nodes, x.inn < 2 ^ 64 := fun x hx => (hok x hx).2.2.1
 have HND := dh hnd
 have HINN := dh hinn
 have HNN := dh hrd.enn
 have HCL : Hid (∀ W', Below W0.1.size W0 W' → W'.cell? ⟨w.1.size, 0, none⟩ = some (.int .i64 a.sets) ∧ W'.cell? ⟨w.1.size, 1, none⟩ = some (.slice Ai ni ci) ∧ W'.cell? ⟨w.1.size, 2, none⟩ = some (.slice An nn cn) ∧ W'.cell? ⟨w.1.size + 1, 0, none⟩ = some (.slice A1 n1 c1) ∧ W'.cell? ⟨w.1.size + 1, 1, none⟩ = some (.slice A2 n2 c2)) := dh (fun W' hb => by
  have k0 := (hb.block w.1.size (by omega)).trans x0
  have k1 := (hb.block (w.1.size + 1) hq).trans y0
  refine ⟨?_, ?_, ?_, ?_, ?_⟩ <;> first | (rw [cell_of_row _ _ _ _ _ (0, 0) k0]; rfl) | (rw [cell_of_row _ _ _ _ _ (0, 0) k1]; rfl))
 have HAW : Hid (∀ W', Below W0.1.size W0 W' → Calls Tryd.prog 25 #[] W' (Tru W' true)) := dh (fun W' hb => by
  have hbw := hb0.trans (hb.mono hq0)
  exact awake30_any W' (fun x hx => bC hbw hg (hT x hx)) (Nat.lt_of_lt_of_le hg hbw.size))
 have HTB : Hid (∀ W', Below W0.1.size W0 W' → TabAt 0 Lib.deBruijn64tab W' ∧ 0 < W'.1.size) := dh (fun W' hb => by
  have hbw := hb0.trans (hb.mono hq0)
  exact ⟨fun x hx => bC hbw hg (hT x hx), Nat.lt_of_lt_of_le hg hbw.size⟩)
 have HHV := dh (heavy30_any a Ai ni ci An nn cn A1 n1 c1 A2 n2 c2 W0 w.1.size HRD.out hq0)
 have hl1' := hw.l1
 have hl2' := hw.l2
 have HL1 := dh hl1'
 have HL2 := dh hl2'
 clear hW0 hb0 x0 y0 z0 hrd hw hok hnd hinn h1 h2 hT hg hl1' hl2'
 go_enter Tryd.func12, Tryd.ntmps12
 go_upto_region 1 with fail
 rw [HW0.out]
 obtain ⟨q0, q1, q2, p0, p1⟩ := HCL.out W0 bR
 go_wp2_with fail
 refine HHV.out.mono ?_
 rintro e w1 ⟨rfl, hb1⟩
 have hz1 := hb1.size
 have HB1 := dh hb1
 clear q0 q1 q2 p0 p1 hb1
 cases hh : heavy30 a n1 n2
 rotate_left 1
 ·have HAW1 := dh (HAW.out w1 HB1.out)
  clear hh
  go_wp2_with fail
  refine HAW1.out.mono ?_
  rintro e w2 ⟨rfl, hb2⟩
  have HB2 := dh (HB0.out.trans ((HB1.out.trans (hb2.mono hz1)).mono hq0))
  clear hb2
  go_wp2_with fail
  go_ret
  exact ⟨rfl, HB2.out⟩
 ·obtain ⟨hc1, hc2, hc3, hc4, hc5⟩ := heavy30_bd hh
  have HC5 := dh hc5
  have hnn : nn ≤ 24 := by rw [HNN.out]; exact hc1
  clear hh hc5
  have hwl : (wordA st lo).length = n1 + n2 := by rw [wordA_len, ← HL1.out, ← HL2.out]
  obtain ⟨q0, q1, q2, p0, p1⟩ := HCL.out w1 HB1.out
  by_cases hn0 : nn = 0
  ·have e0 : ((nn : Int) == 0) = true := by simp [hn0]
   have e0' : decide ((nn : Int) = 0) = true := by simp [hn0]
   clear hn0
   have HAW1 := dh (HAW.out w1 HB1.out)
   go_wp2_with fail
   refine HAW1.out.mono ?_
   rintro e w9 ⟨rfl, hb9⟩
   have HB9 := dh (HB0.out.trans ((HB1.out.trans (hb9.mono HB1.out.size)).mono hq0))
   clear hb9
   go_wp2_with fail
   go_ret
   exact ⟨rfl, HB9.out⟩
  ·have e0 : ((nn : Int) == 0) = false := by simp [hn0]
   have e0' : decide ((nn : Int) = 0) = false := by simp [hn0]
   have hTP : ∀ (b : Aut) (Di : Option Addr) (mi di : Nat) (Dn : Option Addr) (mn dn : Nat) (W' : World) (C : Nat), AutRd W' C b Di mi di Dn mn dn → C ≤ W'.1.size → b.nodes.length ≤ 24 → b.init.length ≤ 100 → (∀ x ∈ b.nodes, (x.need < 2 ^ 64 ∧ x.ban < 2 ^ 64) ∧ x.inn < 2 ^ 64 ∧ x.to.length ≤ 60) → WRd W' C A1 A2 n1 c1 n2 c2 st lo → Calls Tryd.prog 28 #[.agg #[.int .i64 b.sets, .slice Di mi di, .slice Dn mn dn], .agg #[.slice A1 n1 c1, .slice A2 n2 c2]] W' (Tru W' (tkV b n2 (wordA st lo) n1)) := by
    intro b Di mi di Dn mn dn W' C h1 hC h2 h3 h4 h5
    have hmn := h1.enn
    have hk0 : (n1 + n2) * mn ≤ 24 * 24 := Nat.mul_le_mul (by omega) (by omega)
    have hk1 : (n1 + n2) * mn * 60 ≤ 24 * 24 * 60 := Nat.mul_le_mul_right _ hk0
    exact takesP_any b Di mi di Dn mn dn A1 A2 n1 c1 n2 c2 st lo (wordA st lo) W' C h1 h5 hC (fun x hx => (h4 x hx).1) (fun x hx => (h4 x hx).2.1) 60 (fun x hx => (h4 x hx).2.2) (by omega) (by omega) hwl.symm (fun _ => wordA_atW HST.out HLO.out) (wordA_lt HST.out HLO.out) (by rw [hwl]; omega) (by rw [hwl]; omega) (by omega)
   have HTP := dh hTP
   have HA3 : Hid (∀ x ∈ a.nodes, (x.need < 2 ^ 64 ∧ x.ban < 2 ^ 64) ∧ x.inn < 2 ^ 64 ∧ x.to.length ≤ 60) := dh (fun x hx => ⟨HND.out x hx, HINN.out x hx, HC5.out x hx⟩)
   have HTA := dh (hTP a Ai ni ci An nn cn w1 w.1.size (HRD.out.below HB1.out hq0) (Nat.le_trans hq0 HB1.out.size) hc1 (by omega) HA3.out (HWD.out.below HB1.out hq0))
   obtain ⟨tv, htv⟩ := xQ (tkV a n2 (wordA st lo) n1)
   rw [htv] at HTA
   have HTV := dh htv
   clear hTP hwl htv
   go_wp2_with fail
   refine HTA.out.mono ?_
   rintro e w2 ⟨rfl, hb2⟩
   have HB2 := dh (HB1.out.trans (hb2.mono hz1))
   clear q0 q1 q2 p0 p1 hb2
   cases tv
   ·have HAW1 := dh (HAW.out w2 HB2.out)
    go_wp2_with fail
    refine HAW1.out.mono ?_
    rintro e w9 ⟨rfl, hb9⟩
    have HB9 := dh (HB0.out.trans ((HB2.out.trans (hb9.mono HB2.out.size)).mono hq0))
    clear hb9
    go_wp2_with fail
    go_ret
    exact ⟨rfl, HB9.out⟩
   ·have hmn : n % nn < nn := Nat.mod_lt _ (by omega)
    obtain ⟨m, hm⟩ := xQ (n % nn)
    rw [hm] at hmn
    have hnu : n < 256 := hnb
    have t1 : IntKind.i64.wrap (n : Int) = (n : Int) := by rw [wI]; omega
    have t2 : ((n : Int)).tmod (nn : Int) = (m : Int) := by rw [Int.tmod_eq_emod_of_nonneg (by omega)]; omega
    have t3 : IntKind.i64.wrap (m : Int) = (m : Int) := by rw [wI]; omega
    have t4 : ¬ (nn : Int) = 0 := by omega
    obtain ⟨W3, hW3⟩ := xQ (w2.alloc (.cells #[.int .i64 a.sets, .slice Ai ni ci, .slice An nn cn] 25))
    have hb3 : Below w2.1.size w2 W3 := by rw [← hW3]; exact bR.alloc lR _
    have k3 : W3.1[w2.1.size]? = some (.cells #[.int .i64 a.sets, .slice Ai ni ci, .slice An nn cn] 25 (0, 0)) := by rw [← hW3]; exact heap_alloc_new w2 _
    have z3 : W3.1.size = w2.1.size + 1 := by rw [← hW3]; simp
    have HW3 := dh hW3
    have HB3 := dh hb3
    have HK3 := dh k3
    have HCS : Hid (∀ W', Below w2.1.size w2 W' → W'.cell? ⟨w.1.size, 0, none⟩ = some (.int .i64 a.sets) ∧ W'.cell? ⟨w.1.size, 1, none⟩ = some (.slice Ai ni ci) ∧ W'.cell? ⟨w.1.size, 2, none⟩ = some (.slice An nn cn) ∧ W'.cell? ⟨w.1.size + 1, 0, none⟩ = some (.slice A1 n1 c1) ∧ W'.cell? ⟨w.1.size + 1, 1, none⟩ = some (.slice A2 n2 c2)) := dh (fun W' hb => HCL.out W' (HB2.out.trans (hb.mono HB2.out.size)))
    have hz2 := HB2.out.size
    have HRA : Hid (∀ W', Below w2.1.size w2 W' → AutRd W' w.1.size a Ai ni ci An nn cn ∧ WRd W' w.1.size A1 A2 n1 c1 n2 c2 st lo) := dh (fun W' hb => by
     have hb0 := HB2.out.trans (hb.mono HB2.out.size)
     exact ⟨HRD.out.below hb0 hq0, HWD.out.below hb0 hq0⟩)
    have hni : ni ≤ 60 := by rw [HRD.out.eni]; exact hc2
    have HM := dh hm
    clear hW3 hb3 k3 hm hnu
    obtain ⟨q0, q1, q2, p0, p1⟩ := HCS.out w2 bR
    go_upto_region 4 with fail
    show Code.wp _ _ _ _ (w2.alloc (.cells #[.int .i64 a.sets, .slice Ai ni ci, .slice An nn cn] 25))
    rw [HW3.out]
    clear q0 q1 q2 p0 p1
    obtain ⟨s0, s1, s2, s3, s4⟩ := HCS.out W3 HB3.out
    have sz3 : w2.1.size < W3.1.size := by omega
    clear z3
    go_cut [7] from 11 (fun x wF => ∃ (g c : Nat), x = .pointer (some ⟨w2.1.size, 0, none⟩) ∧ Hid (wF.1[w2.1.size]? = some (.cells #[.int .i64 a.sets, .slice (some ⟨g, 0, none⟩) (ni + 1) c, .slice An nn cn] 25 (0, 0))) ∧ Hid (wF.ownsRow W3.1.size 3 1 (.slice (some ⟨g, 0, none⟩) (ni + 1) c) (ni + 1) (icells (a.init ++ [(m : Int)]))) ∧ Hid (Below w2.1.size w2 wF))
    case first =>
     have HB3D := dh (Below.drew (Below.refl W3.1.size W3))
     refine wp_region_held_drew (S := fun w' => w'.cell? ⟨w.1.size, 0, none⟩ = some (.int .i64 a.sets) ∧ w'.cell? ⟨w.1.size, 1, none⟩ = some (.slice Ai ni ci) ∧ w'.cell? ⟨w.1.size, 2, none⟩ = some (.slice An nn cn) ∧ w'.cell? ⟨w.1.size + 1, 0, none⟩ = some (.slice A1 n1 c1) ∧ w'.cell? ⟨w.1.size + 1, 1, none⟩ = some (.slice A2 n2 c2)) (by kernel_rfl) ⟨s0, s1, s2, s3, s4⟩ (fun hS => ?_)
     refine tkH 1 ?_
     refine tkH 2 ?_
     refine tkH 4 ?_
     refine tkH 5 ?_
     refine tkH 6 ?_
     refine tkH 7 ?_
     refine tkH 8 ?_
     refine tkH 9 ?_
     refine wpAnyH_ready (rs := [0, 10]) (by kernel_rfl) (by simp) ?_
     refine (allReadyH_consD (i := 0) rfl (fun K hK => ?_) (allReadyH_consD (i := 10) rfl (fun K hK => ?_) AllReadyH.nil))
     ·skip
      refine step_empty rfl 22 rfl 3 1 8 sliceInt ?_
      intro wa va hva hoa hba' hsa
      clear hsa
      have HBA := dh (show Below W3.1.size W3 wa from below_undrew hba')
      have HOA := dh (own_base hoa (show W3.1.size ≤ _ from lR))
      clear hva hoa hba'
      refine hK.out _ _ (HCS.out _ (HB3.out.trans (HBA.out.mono HB3.out.size))) (fun hS => ?_)
      clear hK
      refine wpAnyH_ready (rs := [3, 10]) (by kernel_rfl) (by simp) ?_
      refine (allReadyH_consD (i := 3) rfl (fun K hK => ?_) (allReadyH_consD (i := 10) rfl (fun K hK => ?_) AllReadyH.nil))
      ·skip
       refine step_extend rfl (.tmp 28) (.tmp 30) 22 rfl W3.1.size 3 1 8 sliceInt va 0 [] HOA.out (by rfl) w.1.size Ai ni ci (icells a.init) (by rfl) (HRA.out _ (HB3.out.trans (HBA.out.mono HB3.out.size))).1.init (icells_one' _) (by omega) (by omega) HBA.out.size ?_
       intro vb wb hob htb hatb _
       have HBB := dh (below_tchE HBA.out HOA.out htb lR)
       have HOB : Hid (wb.ownsRow W3.1.size 3 1 vb ni (icells a.init)) := dh (by simpa using hob)
       clear hob htb hatb
       refine hK.out _ _ (HCS.out _ (HB3.out.trans (HBB.out.mono HB3.out.size))) (fun hS => ?_)
       clear hK
       refine oneH 10 (fun K hK => ?_)
       go_simp
       obtain ⟨wc, hwc⟩ := xQ (wb.alloc (.cells #[.int .i64 (m : Int)] 3))
       have HBC := dh (show Below W3.1.size W3 wc by rw [← hwc]; exact HBB.out.alloc HBB.out.size _)
       have HTB := dh (show wc.1[wb.1.size]? = some (.cells #[.int .i64 (m : Int)] 3 (0, 0)) by rw [← hwc]; exact heap_alloc_new wb _)
       have htbl : wb.1.size < wc.1.size := (aI.1 HTB.out).1
       have hbc' : Below wb.1.size wb wc := by rw [← hwc]; exact bR.alloc lR _
       have HOB := dh (own_below HOB.out hbc')
       clear hbc'
       rw [hwc]
       clear hwc
       refine hK.out _ _ (HCS.out _ (HB3.out.trans (HBC.out.mono HB3.out.size))) (fun hS => ?_)
       clear hK
       refine oneH 11 (fun K hK => ?_)
       refine step_push rfl (.tmp 31) (.tmp 38) 22 rfl W3.1.size 3 1 8 sliceInt _ _ _ HOB.out (by rfl) wb.1.size #[.int .i64 (m : Int)] (by rfl) HTB.out rfl (by simp [Value.oneCell']) (by omega) (by omega) HBC.out.size ?_
       intro vd wd hod htd _ _
       obtain ⟨gd, cd, rfl⟩ := ownsRow_succ hod
       have HBD := dh (below_tchE HBC.out HOB.out htd lR)
       have HOD := dh hod
       clear hod htd
       refine hK.out _ _ (HCS.out _ (HB3.out.trans (HBD.out.mono HB3.out.size))) (fun hS => ?_)
       clear hK
       refine tkH 12 ?_
       refine oneH 13 (fun K hK => ?_)
       have hmb := (HBD.out.block w2.1.size sz3).trans HK3.out
       obtain ⟨x0, x1, x2⟩ := box3M hmb
       have f1 := frozen_of_row wd w2.1.size 1 _ _ hmb
       have yl : w2.1.size < wd.1.size := (aI.1 hmb).1
       obtain ⟨wE, hwE⟩ := xQ (wd.setCell ⟨w2.1.size, 1, none⟩ (.slice (some ⟨gd, 0, none⟩) (ni + 1) cd))
       have HBE := dh (show Below w2.1.size w2 wE by rw [← hwE]; exact (HB3.out.trans (HBD.out.mono HB3.out.size)).setCell (p := ⟨w2.1.size, 1, none⟩) lR _)
       have HME : Hid (wE.1[w2.1.size]? = some (.cells #[.int .i64 a.sets, .slice (some ⟨gd, 0, none⟩) (ni + 1) cd, .slice An nn cn] 25 (0, 0))) := dh (by rw [← hwE, heap_setCell_same wd _ 1 _ _ _ hmb]; rfl)
       have HOE : Hid (wE.ownsRow W3.1.size 3 1 (.slice (some ⟨gd, 0, none⟩) (ni + 1) cd) (ni + 1) (icells (a.init ++ [(m : Int)]))) := dh (by
        have hq : icells (a.init ++ [(m : Int)]) = icells a.init ++ (#[Value.int .i64 (m : Int)] : Array Value).toList := by rw [icells_append]; rfl
        rw [hq, ← hwE]; exact own_tch HOD.out (tch_cell (w := wd) w2.1.size 1 _) (fun g hg e => own_ne_blk HOD.out hmb (by decide) (by rw [hg, e])))
       clear hmb
       go_simp
       try rw [hwE]
       refine hK.out _ _ (HCS.out _ HBE.out) (fun hS => ?_)
       clear hK
       refine wpAnyH_done (by kernel_rfl) ?_ _
       clear hS
       go_wp2_with fail
       go_meet
       case rel => exact ⟨_, _, rfl, HME, HOE, HBE⟩
      ·skip
       go_simp
       obtain ⟨wc, hwc⟩ := xQ (wa.alloc (.cells #[.int .i64 (m : Int)] 3))
       have HBC := dh (show Below W3.1.size W3 wc by rw [← hwc]; exact HBA.out.alloc HBA.out.size _)
       have HTB := dh (show wc.1[wa.1.size]? = some (.cells #[.int .i64 (m : Int)] 3 (0, 0)) by rw [← hwc]; exact heap_alloc_new wa _)
       have htbl : wa.1.size < wc.1.size := (aI.1 HTB.out).1
       have hbc' : Below wa.1.size wa wc := by rw [← hwc]; exact bR.alloc lR _
       have HNE : Hid (∀ g, va.ownBlock = some g → g ≠ wa.1.size) := dh (fun g hg e => by have := (HOA.out.lt g hg).2; omega)
       have HOA := dh (own_below HOA.out hbc')
       clear hbc'
       rw [hwc]
       clear hwc
       refine hK.out _ _ (HCS.out _ (HB3.out.trans (HBC.out.mono HB3.out.size))) (fun hS => ?_)
       clear hK
       refine oneH 3 (fun K hK => ?_)
       refine step_extend rfl (.tmp 28) (.tmp 30) 22 rfl W3.1.size 3 1 8 sliceInt va 0 [] HOA.out (by rfl) w.1.size Ai ni ci (icells a.init) (by rfl) (HRA.out _ (HB3.out.trans (HBC.out.mono HB3.out.size))).1.init (icells_one' _) (by omega) (by omega) HBC.out.size ?_
       intro vb wb hob htb hatb _
       have HBB := dh (below_tchE HBC.out HOA.out htb lR)
       have HOB : Hid (wb.ownsRow W3.1.size 3 1 vb ni (icells a.init)) := dh (by simpa using hob)
       have HTB := dh (htb.blk HTB.out (fun e => HNE.out _ e rfl))
       clear hob htb hatb
       refine hK.out _ _ (HCS.out _ (HB3.out.trans (HBB.out.mono HB3.out.size))) (fun hS => ?_)
       clear hK
       refine oneH 11 (fun K hK => ?_)
       refine step_push rfl (.tmp 31) (.tmp 38) 22 rfl W3.1.size 3 1 8 sliceInt _ _ _ HOB.out (by rfl) wa.1.size #[.int .i64 (m : Int)] (by rfl) HTB.out rfl (by simp [Value.oneCell']) (by omega) (by omega) HBB.out.size ?_
       intro vd wd hod htd _ _
       obtain ⟨gd, cd, rfl⟩ := ownsRow_succ hod
       have HBD := dh (below_tchE HBB.out HOB.out htd lR)
       have HOD := dh hod
       clear hod htd
       refine hK.out _ _ (HCS.out _ (HB3.out.trans (HBD.out.mono HB3.out.size))) (fun hS => ?_)
       clear hK
       refine tkH 12 ?_
       refine oneH 13 (fun K hK => ?_)
       have hmb := (HBD.out.block w2.1.size sz3).trans HK3.out
       obtain ⟨x0, x1, x2⟩ := box3M hmb
       have f1 := frozen_of_row wd w2.1.size 1 _ _ hmb
       have yl : w2.1.size < wd.1.size := (aI.1 hmb).1
       obtain ⟨wE, hwE⟩ := xQ (wd.setCell ⟨w2.1.size, 1, none⟩ (.slice (some ⟨gd, 0, none⟩) (ni + 1) cd))
       have HBE := dh (show Below w2.1.size w2 wE by rw [← hwE]; exact (HB3.out.trans (HBD.out.mono HB3.out.size)).setCell (p := ⟨w2.1.size, 1, none⟩) lR _)
       have HME : Hid (wE.1[w2.1.size]? = some (.cells #[.int .i64 a.sets, .slice (some ⟨gd, 0, none⟩) (ni + 1) cd, .slice An nn cn] 25 (0, 0))) := dh (by rw [← hwE, heap_setCell_same wd _ 1 _ _ _ hmb]; rfl)
       have HOE : Hid (wE.ownsRow W3.1.size 3 1 (.slice (some ⟨gd, 0, none⟩) (ni + 1) cd) (ni + 1) (icells (a.init ++ [(m : Int)]))) := dh (by
        have hq : icells (a.init ++ [(m : Int)]) = icells a.init ++ (#[Value.int .i64 (m : Int)] : Array Value).toList := by rw [icells_append]; rfl
        rw [hq, ← hwE]; exact own_tch HOD.out (tch_cell (w := wd) w2.1.size 1 _) (fun g hg e => own_ne_blk HOD.out hmb (by decide) (by rw [hg, e])))
       clear hmb
       go_simp
       try rw [hwE]
       refine hK.out _ _ (HCS.out _ HBE.out) (fun hS => ?_)
       clear hK
       refine wpAnyH_done (by kernel_rfl) ?_ _
       clear hS
       go_wp2_with fail
       go_meet
       case rel => exact ⟨_, _, rfl, HME, HOE, HBE⟩
     ·skip
      go_simp
      obtain ⟨wc, hwc⟩ := xQ (W3.alloc (.cells #[.int .i64 (m : Int)] 3)).drew
      have HBC := dh (show Below W3.1.size W3 wc by rw [← hwc]; exact Below.drew (bR.alloc lR _))
      have HTB := dh (show wc.1[W3.1.size]? = some (.cells #[.int .i64 (m : Int)] 3 (0, 0)) by rw [← hwc]; exact heap_alloc_new W3 _)
      have htbl : W3.1.size < wc.1.size := (aI.1 HTB.out).1
      rw [hwc]
      clear hwc
      refine hK.out _ _ (HCS.out _ (HB3.out.trans (HBC.out.mono HB3.out.size))) (fun hS => ?_)
      clear hK
      refine oneH 0 (fun K hK => ?_)
      refine step_empty rfl 22 rfl 3 1 8 sliceInt ?_
      intro wa va hva hoa hba' hsa
      clear hsa
      have HBA := dh (show Below W3.1.size W3 wa from HBC.out.trans (hba'.mono HBC.out.size))
      have HOA := dh (own_base hoa (show W3.1.size ≤ _ from HBC.out.size))
      have HTB := dh ((hba'.block W3.1.size htbl).trans HTB.out)
      have HNE : Hid (∀ g, va.ownBlock = some g → g ≠ W3.1.size) := dh (fun g hg e => by rw [hva] at hg; simp [Value.ownBlock] at hg; omega)
      clear hva hoa hba'
      refine hK.out _ _ (HCS.out _ (HB3.out.trans (HBA.out.mono HB3.out.size))) (fun hS => ?_)
      clear hK
      refine oneH 3 (fun K hK => ?_)
      refine step_extend rfl (.tmp 28) (.tmp 30) 22 rfl W3.1.size 3 1 8 sliceInt va 0 [] HOA.out (by rfl) w.1.size Ai ni ci (icells a.init) (by rfl) (HRA.out _ (HB3.out.trans (HBA.out.mono HB3.out.size))).1.init (icells_one' _) (by omega) (by omega) HBA.out.size ?_
      intro vb wb hob htb hatb _
      have HBB := dh (below_tchE HBA.out HOA.out htb lR)
      have HOB : Hid (wb.ownsRow W3.1.size 3 1 vb ni (icells a.init)) := dh (by simpa using hob)
      have HTB := dh (htb.blk HTB.out (fun e => HNE.out _ e rfl))
      clear hob htb hatb
      refine hK.out _ _ (HCS.out _ (HB3.out.trans (HBB.out.mono HB3.out.size))) (fun hS => ?_)
      clear hK
      refine oneH 11 (fun K hK => ?_)
      refine step_push rfl (.tmp 31) (.tmp 38) 22 rfl W3.1.size 3 1 8 sliceInt _ _ _ HOB.out (by rfl) W3.1.size #[.int .i64 (m : Int)] (by rfl) HTB.out rfl (by simp [Value.oneCell']) (by omega) (by omega) HBB.out.size ?_
      intro vd wd hod htd _ _
      obtain ⟨gd, cd, rfl⟩ := ownsRow_succ hod
      have HBD := dh (below_tchE HBB.out HOB.out htd lR)
      have HOD := dh hod
      clear hod htd
      refine hK.out _ _ (HCS.out _ (HB3.out.trans (HBD.out.mono HB3.out.size))) (fun hS => ?_)
      clear hK
      refine tkH 12 ?_
      refine oneH 13 (fun K hK => ?_)
      have hmb := (HBD.out.block w2.1.size sz3).trans HK3.out
      obtain ⟨x0, x1, x2⟩ := box3M hmb
      have f1 := frozen_of_row wd w2.1.size 1 _ _ hmb
      have yl : w2.1.size < wd.1.size := (aI.1 hmb).1
      obtain ⟨wE, hwE⟩ := xQ (wd.setCell ⟨w2.1.size, 1, none⟩ (.slice (some ⟨gd, 0, none⟩) (ni + 1) cd))
      have HBE := dh (show Below w2.1.size w2 wE by rw [← hwE]; exact (HB3.out.trans (HBD.out.mono HB3.out.size)).setCell (p := ⟨w2.1.size, 1, none⟩) lR _)
      have HME : Hid (wE.1[w2.1.size]? = some (.cells #[.int .i64 a.sets, .slice (some ⟨gd, 0, none⟩) (ni + 1) cd, .slice An nn cn] 25 (0, 0))) := dh (by rw [← hwE, heap_setCell_same wd _ 1 _ _ _ hmb]; rfl)
      have HOE : Hid (wE.ownsRow W3.1.size 3 1 (.slice (some ⟨gd, 0, none⟩) (ni + 1) cd) (ni + 1) (icells (a.init ++ [(m : Int)]))) := dh (by
       have hq : icells (a.init ++ [(m : Int)]) = icells a.init ++ (#[Value.int .i64 (m : Int)] : Array Value).toList := by rw [icells_append]; rfl
       rw [hq, ← hwE]; exact own_tch HOD.out (tch_cell (w := wd) w2.1.size 1 _) (fun g hg e => own_ne_blk HOD.out hmb (by decide) (by rw [hg, e])))
      clear hmb
      go_simp
      try rw [hwE]
      refine hK.out _ _ (HCS.out _ HBE.out) (fun hS => ?_)
      clear hK
      refine wpAnyH_done (by kernel_rfl) ?_ _
      clear hS
      go_wp2_with fail
      go_meet
      case rel => exact ⟨_, _, rfl, HME, HOE, HBE⟩
    case rest =>
     obtain ⟨gm, cm, rfl, HMB, HMO, HBF⟩ := hcut
     clear s0 s1 s2 s3 s4 t1 t2 t3 t4
     have hmr : ∀ W', Below wc.1.size wc W' → AutRd W' W'.1.size (moreA a m) (some ⟨gm, 0, none⟩) (ni + 1) cm An nn cn := fun W' hb => by
      have hra := (HRA.out W' (HBF.out.trans (hb.mono HBF.out.size))).1
      have hup := Nat.le_trans hq0 (Nat.le_trans hz2 (Nat.le_trans HBF.out.size hb.size))
      obtain ⟨A', c', hf, hsl⟩ := own_sl (own_below HMO.out hb)
      cases hf
      exact ⟨by rw [hra.eni]; simp [moreA], hra.enn, hsl, (hra.up hup).nodes⟩
     have HTM : Hid (∀ W', Below wc.1.size wc W' → Calls Tryd.prog 28 #[.agg #[.int .i64 a.sets, .slice (some ⟨gm, 0, none⟩) (ni + 1) cm, .slice An nn cn], .agg #[.slice A1 n1 c1, .slice A2 n2 c2]] W' (Tru W' true)) := dh (fun W' hb => by
      have hup := Nat.le_trans hq0 (Nat.le_trans hz2 (Nat.le_trans HBF.out.size hb.size))
      have h := HTP.out (moreA a m) _ _ _ _ _ _ W' W'.1.size (hmr W' hb) lR hc1 (by simp [moreA]; omega) HA3.out ((HRA.out W' (HBF.out.trans (hb.mono HBF.out.size))).2.up hup)
      rwa [more_tk HTV.out (by rw [← HNN.out]; exact hmn)] at h)
     have hzF := HBF.out.size
     have hmz : w2.1.size < wc.1.size := (aI.1 HMB.out).1
     have HMC : Hid (∀ W', Below wc.1.size wc W' → W'.cell? ⟨w2.1.size, 0, none⟩ = some (.int .i64 a.sets) ∧ W'.cell? ⟨w2.1.size, 1, none⟩ = some (.slice (some ⟨gm, 0, none⟩) (ni + 1) cm) ∧ W'.cell? ⟨w2.1.size, 2, none⟩ = some (.slice An nn cn)) := dh (fun W' hb => box3M ((hb.block w2.1.size hmz).trans HMB.out))
     have HCF : Hid (∀ W', Below wc.1.size wc W' → W'.cell? ⟨w.1.size, 0, none⟩ = some (.int .i64 a.sets) ∧ W'.cell? ⟨w.1.size, 1, none⟩ = some (.slice Ai ni ci) ∧ W'.cell? ⟨w.1.size, 2, none⟩ = some (.slice An nn cn) ∧ W'.cell? ⟨w.1.size + 1, 0, none⟩ = some (.slice A1 n1 c1) ∧ W'.cell? ⟨w.1.size + 1, 1, none⟩ = some (.slice A2 n2 c2)) := dh (fun W' hb => HCS.out W' (HBF.out.trans (hb.mono HBF.out.size)))
     obtain ⟨V, hV⟩ := xQ (wc.alloc (.cells #[.int .i64 a.sets, .slice Ai ni ci, .slice An nn cn] 25))
     have hbV : Below wc.1.size wc V := by rw [← hV]; exact bR.alloc lR _
     have kV : V.1[wc.1.size]? = some (.cells #[.int .i64 a.sets, .slice Ai ni ci, .slice An nn cn] 25 (0, 0)) := by rw [← hV]; exact heap_alloc_new wc _
     have zV : V.1.size = wc.1.size + 1 := by rw [← hV]; simp
     have HV := dh hV
     have HBV := dh hbV
     have HKV := dh kV
     clear hV hbV kV hmr
     obtain ⟨q0, q1, q2, p0, p1⟩ := HCF.out wc bR
     go_upto_region 6 with fail
     show Code.wp _ _ _ _ (wc.alloc (.cells #[.int .i64 a.sets, .slice Ai ni ci, .slice An nn cn] 25))
     rw [HV.out]
     clear q0 q1 q2 p0 p1
     obtain ⟨q0, q1, q2, p0, p1⟩ := HCF.out V HBV.out
     obtain ⟨-, hss⟩ : 0 ≤ a.sets ∧ a.sets ≤ 16 := (chk_iff.1 (tkV_iff.1 HTV.out).1).sets
     by_cases hs0 : 0 < a.sets
     ·obtain ⟨s, hs⟩ : ∃ s : Nat, a.sets = (s : Int) + 1 := ⟨(a.sets - 1).toNat, by omega⟩
      have d1 : decide (0 < a.sets) = true := by simp; omega
      have t5 : IntKind.i64.wrap (a.sets - 1) = (s : Int) := by rw [wI]; omega
      have hs16 : s < 16 := by omega
      have HS := dh hs
      obtain ⟨l0, l1, l2⟩ := box3M HKV.out
      have f0 := frozen_of_row V wc.1.size 0 _ _ HKV.out
      have f2 := frozen_of_row V wc.1.size 2 _ _ HKV.out
      have yl : wc.1.size < V.1.size := by omega
      obtain ⟨Y, hY⟩ := xQ ((V.setCell ⟨wc.1.size, 0, none⟩ (.int .i64 (s : Int))).setCell ⟨wc.1.size, 2, none⟩ (.slice none 0 0))
      have kY : Y.1[wc.1.size]? = some (.cells #[.int .i64 (s : Int), .slice Ai ni ci, .slice none 0 0] 25 (0, 0)) := by
       rw [← hY, heap_setCell_same _ _ 2 _ _ _ (heap_setCell_same V _ 0 _ _ _ HKV.out)]; rfl
      have HBY := dh (show Below wc.1.size wc Y by rw [← hY]; exact (HBV.out.setCell (p := ⟨wc.1.size, 0, none⟩) lR _).setCell (p := ⟨wc.1.size, 2, none⟩) lR _)
      have HY := dh hY
      obtain ⟨pw, hpw⟩ := xQ (2 ^ s)
      have hpl : pw < 2 ^ 64 := by rw [← hpw]; exact pow_lt64 (by omega)
      have hsh : Op.shift .shl .u64 1 .u64 (s : Int) = pure (.int .u64 (pw : Int)) := by
       rw [shift_shl .u64 .u64 1 _ (by omega) (by show (s : Int) ≤ 64; omega), tN, Int.one_mul, wrap_pow (show s < 64 by omega), hpw]
      have t6 : IntKind.u64.wrap (s : Int) = (s : Int) := by rw [IntKind.wrap_u64]; omega
      have t7 : IntKind.u64.wrap ((2 : Int) ^ s) = (pw : Int) := by
       rw [wrap_pow (show s < 64 by omega), hpw]
      have HPW := dh hpw
      have HFM : Hid (FewM w2 w.1.size a pw wc.1.size wc.1.size (.int .i64 (s : Int)) (.slice Ai ni ci) (.slice none 0 0) 0 [] Y) := dh ⟨kY, World.ownsRow_nil _ _ _ _, fun j x hj => absurd hj (Nat.not_lt_zero _)⟩
      clear hs hY kY hpw hs0
      go_upto_region 9 with fail
      rw [HY.out]
      clear l0 l1 l2 f0 f2 yl q0 q1 q2 p0 p1 d1 t5
      go_wp2_with fail
      go_loopw [9] (fun i wr' => ∃ (k : Nat) (vn : Value) (zs : List Value), k ≤ nn ∧ i = .int .i64 (k : Int) ∧ Hid (FewM w2 w.1.size a pw wc.1.size wc.1.size (.int .i64 (s : Int)) (.slice Ai ni ci) vn k zs wr') ∧ Hid (Below wc.1.size wc wr')) (fun i _ => nn - (intOf i).toNat)
      case atStart => exact ⟨0, _, _, by omega, rfl, HFM, HBY⟩
      case round =>
       obtain ⟨k, vn, zs, hk, rfl, HFr, HBr⟩ := hrel
       have hzr := HBr.out.size
       by_cases hlt : k < nn
       ·have wk : IntKind.i64.wrap ((k : Int) + 1) = (k : Int) + 1 := by rw [wI]; omega
        have hk0 : (0 : Int) ≤ (k : Int) := by omega
        have hk1 : (k : Int) < (nn : Int) := by omega
        obtain ⟨q0, q1, q2, p0, p1⟩ := HCF.out wr HBr.out
        clear q0 q1 p0 p1
        have hR0 := (HRA.out w2 bR).1
        have hcn := (Exists.choose_spec hR0.nodes).1.cap
        have hmn' := (Exists.choose_spec hR0.nodes).1.max
        unfold maxLen at hmn'
        obtain ⟨bx, ox, nd, At, ct, hAn, hbx, hnd', d0, d1, d2, d3, hst⟩ := rd_aut hR0 hlt
        have hwr : Below w2.1.size w2 wr := HBF.out.trans (HBr.out.mono HBF.out.size)
        have hbx2 : bx < w2.1.size := by omega
        have e0 := bC hwr (by omega) d0
        have e1 := bC hwr (by omega) d1
        have e2 := bC hwr (by omega) d2
        have e3 := bC hwr (by omega) d3
        have hinx : nd.inn < 2 ^ 64 := HINN.out nd (List.mem_of_getElem? hnd')
        have hor := andNot_bit hinx hpl
        obtain ⟨Av, cv, rfl, -⟩ := own_sl HFr.out.own
        obtain ⟨XA, hXA⟩ := xQ (wr.alloc (.cells #[.int .u64 (nd.need : Int), .int .u64 (nd.ban : Int), .int .u64 (nd.inn : Int), .slice At nd.to.length ct] 43))
        have hbXA : Below wr.1.size wr XA := by rw [← hXA]; exact bR.alloc lR _
        have hxA : XA.1[wr.1.size]? = some (.cells #[.int .u64 (nd.need : Int), .int .u64 (nd.ban : Int), .int .u64 (nd.inn : Int), .slice At nd.to.length ct] 43 (0, 0)) := by rw [← hXA]; exact heap_alloc_new wr _
        have zXA : XA.1.size = wr.1.size + 1 := by rw [← hXA]; simp
        have HXC := dh hxA
        have HXA := dh hXA
        have HBXA := dh hbXA
        have HST := dh hst
        have HNX := dh hnd'
        subst hAn
        clear hXA hbXA hxA hst hR0 hnd' hwr d0 d1 d2 d3
        go_upto_region 13 with fail
        rw [HXA.out]
        clear e0 e1 e2 e3 q2
        have hFA := HFr.out.below HBXA.out
        obtain ⟨s0, s1, s2, s3⟩ := box4A HXC.out
        obtain ⟨l0, l1, l2⟩ := box3M hFA.blk
        have f2 := frozen_of_row XA wr.1.size 2 _ _ HXC.out
        have yl : wr.1.size < XA.1.size := by omega
        obtain ⟨w9, hw9⟩ := xQ (XA.setCell ⟨wr.1.size, 2, none⟩ (.int .u64 ((bare64 nd.inn pw : Nat) : Int)))
        have hx9 : w9.1[wr.1.size]? = some (.cells #[.int .u64 (nd.need : Int), .int .u64 (nd.ban : Int), .int .u64 ((bare64 nd.inn pw : Nat) : Int), .slice At nd.to.length ct] 43 (0, 0)) := by
         rw [← hw9, heap_setCell_same XA wr.1.size 2 _ _ _ HXC.out]; rfl
        have hb9 : Below wr.1.size wr w9 := by rw [← hw9]; exact HBXA.out.setCell (p := ⟨wr.1.size, 2, none⟩) lR _
        have HF9 := dh (HFr.out.below hb9)
        have HX9 := dh hx9
        have HW9 := dh hw9
        have HB9 := dh (HBr.out.trans (hb9.mono hzr))
        clear hw9 hx9 hb9 hFA
        go_upto_region 14 with fail
        rw [HW9.out]
        clear s0 s1 s2 s3 l0 l1 l2 f2 yl hor
        obtain ⟨s0, s1, s2, s3⟩ := box4A HX9.out
        obtain ⟨r0, r1, r2⟩ := box3M HF9.out.blk
        clear r0 r1
        have hz9 := HB9.out.size
        have hnw := dh (heap_alloc_new w9 (.cells #[.int .u64 (nd.need : Int), .int .u64 (nd.ban : Int), .int .u64 ((bare64 nd.inn pw : Nat) : Int), .slice At nd.to.length ct] 43))
        go_wp2_with (at_builtin; refine wpList_push rfl (.tmp 71) (.tmp 73) 23 rfl wc.1.size 43 4 48 sliceANd _ _ _ (HF9.out.own.alloc _) rfl w9.1.size #[.int .u64 (nd.need : Int), .int .u64 (nd.ban : Int), .int .u64 ((bare64 nd.inn pw : Nat) : Int), .slice At nd.to.length ct] rfl hnw.out rfl (by simp [Value.oneCell']) (by omega) (by omega) (by simp; omega) ?_; intro u' wA hown3 ht3 hat3 hne3; obtain ⟨g', cap', rfl, _⟩ := own_form hown3 (by omega); have HPU := dh (HF9.out.push HNX.out HST.out hown3 ht3); have HBP := dh ((HB9.out.trans ((Tch.trans ((Tch.refl _ w9).alloc _) ht3 (fun _ _ h => h)).below hz9 (fun k hk e => by have := (HF9.out.own.lt k e).1; omega))).setCell (p := ⟨wc.1.size, 2, none⟩) lR (.slice (some ⟨g', 0, none⟩) (k + 1) cap')); have p1 := HPU.out.1.1; have p2 := HPU.out.1.2.1; have p3 := HPU.out.1.2.2)
        go_roundw
        case rel => exact ⟨k + 1, _, _, by omega, congrArg (Value.int .i64) (by omega), dh HPU.out.2, HBP⟩
        case measure => simp [intOf]; omega
       ·have hkn : k = nn := by omega
        obtain ⟨q0, q1, q2, p0, p1⟩ := HCF.out wr HBr.out
        have hfm := HFr.out
        rw [hkn, HNN.out, ← HPW.out] at hfm
        have hra := (HRA.out w2 bR).1
        obtain ⟨Bn, bn, rfl, hrd9⟩ := hfm.rd (HBF.out.trans (HBr.out.mono HBF.out.size) |>.mono (Nat.le_trans hq0 hz2)) (by omega) hra.init hra.eni
        rw [← HNN.out] at hrd9
        have HLG : Hid (wr.1[wc.1.size]? = some (.cells #[.int .i64 (s : Int), .slice Ai ni ci, .slice Bn nn bn] 25 (0, 0))) := dh (by rw [HNN.out]; exact hfm.blk)
        have HAR := dh hrd9
        have hle : ¬ (k : Int) < (nn : Int) := by omega
        have hT2 : ∀ W', Below wr.1.size wr W' → Calls Tryd.prog 28 #[.agg #[.int .i64 (s : Int), .slice Ai ni ci, .slice Bn nn bn], .agg #[.slice A1 n1 c1, .slice A2 n2 c2]] W' (Tru W' true) := fun W' hb => by
         have hb2 := HBF.out.trans ((HBr.out.trans (hb.mono hzr)).mono HBF.out.size)
         have h := HTP.out (fewA a s) _ _ _ _ _ _ W' W'.1.size ((HAR.out.below hb lR).up hb.size) lR (by simp [fewA]; exact hc1) (by simp [fewA]; omega) (fun x hx => by
          obtain ⟨y, hy, rfl⟩ := List.mem_map.1 hx
          exact ⟨(HA3.out y hy).1, bare64_lt _ (HA3.out y hy).2.1, (HA3.out y hy).2.2⟩) ((HRA.out W' hb2).2.up (Nat.le_trans hq0 (Nat.le_trans hz2 hb2.size)))
         rwa [few_tk HTV.out HS.out HINN.out] at h
        clear hfm hra hrd9 hkn q0 q1 q2 p0 p1 hpl hsh
        have HT2 := dh hT2
        obtain ⟨m0, m1, m2⟩ := HMC.out wr HBr.out
        obtain ⟨x0, x1, x2, p0, p1⟩ := HCF.out wr HBr.out
        clear x0 x1
        have HT1 := dh (HTM.out wr HBr.out)
        clear hT2
        go_wp2_with fail
        refine HT1.out.mono ?_
        rintro e wH ⟨rfl, hbH⟩
        have hlG := HLG.out
        have hzl : wc.1.size < (wr).1.size := (aI.1 hlG).1
        have HBH := dh (HBr.out.trans (hbH.mono hzr))
        obtain ⟨l0, l1, l2⟩ := box3M ((hbH.block wc.1.size hzl).trans hlG)
        clear m0 m1 m2 p0 p1 hlG
        obtain ⟨-, -, -, p0, p1⟩ := HCF.out wH HBH.out
        have HT3 := dh (HT2.out wH hbH)
        clear hbH
        go_wp2_with fail
        refine HT3.out.mono ?_
        rintro e wK ⟨rfl, hbI⟩
        have hI := HB2.out.trans ((HBF.out.trans ((HBH.out.trans (hbI.mono HBH.out.size)).mono HBF.out.size)).mono HB2.out.size)
        have HI := dh hI
        have HAI := dh (HAW.out wK hI)
        clear hI hbI l0 l1 l2 p0 p1
        go_wp2_with fail
        refine HAI.out.mono ?_
        rintro e wJ ⟨rfl, hbJ⟩
        have HBJ := dh (HB0.out.trans ((HI.out.trans (hbJ.mono HI.out.size)).mono hq0))
        clear hbJ
        go_wp2_with fail
        go_ret
        exact ⟨rfl, HBJ.out⟩
     ·have d1 : decide (0 < a.sets) = false := by simp; omega
      have HLG := HKV
      have HBr := HBV
      have hzr := HBV.out.size
      have hT2 : ∀ W', Below V.1.size V W' → Calls Tryd.prog 28 #[.agg #[.int .i64 a.sets, .slice Ai ni ci, .slice An nn cn], .agg #[.slice A1 n1 c1, .slice A2 n2 c2]] W' (Tru W' true) := fun W' hb => by
       have hb2 := HBF.out.trans ((HBr.out.trans (hb.mono hzr)).mono HBF.out.size)
       have h := HTP.out a _ _ _ _ _ _ W' w.1.size (HRA.out W' hb2).1 (Nat.le_trans hq0 (Nat.le_trans hz2 hb2.size)) hc1 (by omega) HA3.out (HRA.out W' hb2).2
       rwa [HTV.out] at h
      clear hs0 q1 q2 p0 p1
      have HT2 := dh hT2
      obtain ⟨m0, m1, m2⟩ := HMC.out V HBr.out
      obtain ⟨x0, x1, x2, p0, p1⟩ := HCF.out V HBr.out
      clear x1 x2
      have HT1 := dh (HTM.out V HBr.out)
      clear hT2
      go_wp2_with fail
      refine HT1.out.mono ?_
      rintro e wH ⟨rfl, hbH⟩
      have hlG := HLG.out
      have hzl : wc.1.size < (V).1.size := (aI.1 hlG).1
      have HBH := dh (HBr.out.trans (hbH.mono hzr))
      obtain ⟨l0, l1, l2⟩ := box3M ((hbH.block wc.1.size hzl).trans hlG)
      clear m0 m1 m2 p0 p1 hlG
      obtain ⟨-, -, -, p0, p1⟩ := HCF.out wH HBH.out
      have HT3 := dh (HT2.out wH hbH)
      clear hbH
      go_wp2_with fail
      refine HT3.out.mono ?_
      rintro e wK ⟨rfl, hbI⟩
      have hI := HB2.out.trans ((HBF.out.trans ((HBH.out.trans (hbI.mono HBH.out.size)).mono HBF.out.size)).mono HB2.out.size)
      have HI := dh hI
      have HAI := dh (HAW.out wK hI)
      clear hI hbI l0 l1 l2 p0 p1
      go_wp2_with fail
      refine HAI.out.mono ?_
      rintro e wJ ⟨rfl, hbJ⟩
      have HBJ := dh (HB0.out.trans ((HI.out.trans (hbJ.mono HI.out.size)).mono hq0))
      clear hbJ
      go_wp2_with fail
      go_ret
      exact ⟨rfl, HBJ.out⟩
theorem AutoMore_int (a : Aut) (Ai : Option Addr) (ni ci : Nat) (An : Option Addr) (nn cn : Nat) (A1 A2 : Option Addr) (n1 c1 n2 c2 : Nat) (st lo : List Int) (w : World) (hrd : AutRd w w.1.size a Ai ni ci An nn cn) (hw : WRd w w.1.size A1 A2 n1 c1 n2 c2 st lo) (hok : ∀ x ∈ a.nodes, ANdOk x) (_hsW : (Lit.int .i64 a.sets).wf = true) (hiL : a.init.length ≤ 17592186044416) (_hnL : a.nodes.length ≤ 2932031007402)
  (h1 : ∀ n ∈ st, (Lit.int .u64 n).wf = true) (h2 : ∀ n ∈ lo, (Lit.int .u64 n).wf = true) (_hl1 : st.length ≤ 17592186044416) (_hl2 : lo.length ≤ 17592186044416) (hT : TabAt 0 Lib.deBruijn64tab w) (hg : 0 < w.1.size) (x : Int) (hx : 0 ≤ x ∧ x < 256) :
  Calls Tryd.prog 12 #[.agg #[.int .i64 a.sets, .slice Ai ni ci, .slice An nn cn], .agg #[.slice A1 n1 c1, .slice A2 n2 c2], .int .u8 x] w (Tru w true) := by
 obtain ⟨n, rfl⟩ : ∃ n : Nat, x = n := ⟨x.toNat, by omega⟩
 exact AutoMore_any a Ai ni ci An nn cn A1 A2 n1 c1 n2 c2 st lo w hrd hw hok _hsW hiL _hnL h1 h2 _hl1 _hl2 hT hg n (by omega)
end Go.Proofs.YtiebpncpdbnelaaDoor
