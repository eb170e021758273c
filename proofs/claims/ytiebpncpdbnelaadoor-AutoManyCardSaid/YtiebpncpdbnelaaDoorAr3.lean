/- The walk of layer 30's reference: Same, of any two automata. -/
import Derived.Test.YtiebpncpdbnelaaDoorMk
import Derived.Test.YtiebpncpdbnelaaDoorZau
namespace Go.Proofs.YtiebpncpdbnelaaDoor
open Go.RowKit
def TwoN2 (w : World) (x y : ANd) (A c : Option Addr × Nat) (p q : Value) (wF : World) : Prop :=
 ∃ g h, p = .pointer (some ⟨g, 0, none⟩) ∧ q = .pointer (some ⟨h, 0, none⟩) ∧ wF.heap[g]? = some (.cells #[.int .u64 (x.need : Int), .int .u64 (x.ban : Int), .int .u64 (x.inn : Int), .slice A.1 x.to.length A.2] 43 (0, 0)) ∧
  wF.heap[h]? = some (.cells #[.int .u64 (y.need : Int), .int .u64 (y.ban : Int), .int .u64 (y.inn : Int), .slice c.1 y.to.length c.2] 43 (0, 0)) ∧ Below w.heap.size w wF
theorem aut_ne1 {a b : Aut} (h : a.sets ≠ b.sets) : decide (a = b) = false := decide_eq_false (fun e => h (by rw [e]))
theorem aut_ne2 {a b : Aut} (h : a.init ≠ b.init) : decide (a = b) = false := decide_eq_false (fun e => h (by rw [e]))
theorem aut_ne3 {a b : Aut} (h : a.nodes ≠ b.nodes) : decide (a = b) = false := decide_eq_false (fun e => h (by rw [e]))
theorem aut_eq3 {a b : Aut} (h1 : a.sets = b.sets) (h2 : a.init = b.init) (h3 : a.nodes = b.nodes) : decide (a = b) = true := decide_eq_true (by
 obtain ⟨s, i, n⟩ := a
 obtain ⟨s', i', n'⟩ := b
 simp only at h1 h2 h3
 rw [h1, h2, h3])
set_option maxHeartbeats 8000000 in
set_option maxRecDepth 100000 in
theorem sameRB_any (a b : Aut) (Ai : Option Addr) (ni ci : Nat) (An : Option Addr) (nn cn : Nat) (Di : Option Addr) (mi di : Nat) (Dn : Option Addr) (mn dn : Nat) (w : World) (B : Nat) (h1 : AutRd w B a Ai ni ci An nn cn) (h2 : AutRd w B b Di mi di Dn mn dn) (hB : B ≤ w.heap.size)
  (hlN : a.nodes.length ≤ 100000) (hlI : a.init.length ≤ 1000000) (hlT : ∀ x ∈ a.nodes, x.to.length ≤ 1000000) :
  Calls Tryd.prog 15 #[.agg #[.int .i64 a.sets, .slice Ai ni ci, .slice An nn cn], .agg #[.int .i64 b.sets, .slice Di mi di, .slice Dn mn dn]] w (Tru w (decide (a = b))) := by
 have e1 := h1.eni
 have e2 := h1.enn
 have e3 := h2.eni
 have e4 := h2.enn
 have hmi : ni ≤ 1000000 := by omega
 have hmn : nn ≤ 100000 := by omega
 obtain ⟨s, hs⟩ : ∃ s, a.sets = s := ⟨_, rfl⟩
 obtain ⟨s2, hs2⟩ : ∃ s, b.sets = s := ⟨_, rfl⟩
 rw [hs, hs2]
 obtain ⟨hb0, x0, y0, z0⟩ := box5 w (.cells #[.int .i64 s, .slice Ai ni ci, .slice An nn cn] 25) (.cells #[.int .i64 s2, .slice Di mi di, .slice Dn mn dn] 25)
 obtain ⟨W0, hW0⟩ : ∃ W0, (w.alloc (.cells #[.int .i64 s, .slice Ai ni ci, .slice An nn cn] 25)).alloc (.cells #[.int .i64 s2, .slice Di mi di, .slice Dn mn dn] 25) = W0 := ⟨_, rfl⟩
 rw [hW0] at hb0 x0 y0 z0
 have HW0 := Lib.hid hW0
 have HB0 := Lib.hid hb0
 have H1 := Lib.hid (h1.below hb0 hB)
 have H2 := Lib.hid (h2.below hb0 hB)
 have E2 := Lib.hid e2
 have E4 := Lib.hid e4
 have HS := Lib.hid hs
 have HS2' := Lib.hid hs2
 obtain ⟨k0, k1, k2⟩ := box3A x0
 obtain ⟨l0, l1, l2⟩ := box3A y0
 have HX0 := Lib.hid x0
 have HY0 := Lib.hid y0
 have hBW : B ≤ W0.heap.size := by omega
 have HI0 := Lib.hid ((eqI30_any Ai Di ni ci mi di a.init b.init W0 B B H1.out.init H2.out.init e1 e3 (by omega)).mono (fun _ _ h => said_truA h))
 have HLT := Lib.hid hlT
 clear hW0 h1 h2 e1 e2 e3 e4 hs hs2 x0 y0 hlT
 go_enter Tryd.func15, Tryd.ntmps15
 by_cases hse : s = s2
 rotate_left
 ·have hne1 : (s == s2) = false := by rw [beq_eq_false_iff_ne]; exact hse
  have hne2 : (s != s2) = true := by rw [bne_iff_ne]; exact hse
  have HD := Lib.hid (aut_ne1 (a := a) (b := b) (by rw [HS.out, HS2'.out]; exact hse))
  clear hse
  go_upto_region 1 with fail
  rw [HW0.out]
  go_wp2_with fail
  go_ret
  exact ⟨ret_bool HD.out.symm, HB0.out⟩
 ·subst hse
  go_upto_region 1 with fail
  rw [HW0.out]
  go_wp2_with fail
  refine Calls.mono HI0.out ?_
  by_cases hie : a.init = b.init
  rotate_left
  ·rw [decide_eq_false hie]
   have HD := Lib.hid (aut_ne2 hie)
   rintro e w1 ⟨rfl, hb1⟩
   have HB1 := Lib.hid (HB0.out.trans (hb1.mono (by omega)))
   clear hb1 hie
   go_wp2_with fail
   go_ret
   exact ⟨ret_bool HD.out.symm, HB1.out⟩
  ·rw [decide_eq_true hie]
   have HIE := Lib.hid hie
   rintro e w1 ⟨rfl, hb1⟩
   have x1 := (hb1.block w.heap.size (by omega)).trans HX0.out
   have y1 := (hb1.block (w.heap.size + 1) (by omega)).trans HY0.out
   obtain ⟨m0, m1, m2⟩ := box3A x1
   obtain ⟨n0, n1, n2⟩ := box3A y1
   have hz1 := hb1.size
   have HX1 := Lib.hid x1
   have HY1 := Lib.hid y1
   clear k0 k1 k2 l0 l1 l2 x1 y1 hie
   by_cases hle : nn = mn
   rotate_left
   ·have hne1 : ((nn : Int) == (mn : Int)) = false := by simp; omega
    have HD := Lib.hid (aut_ne3 (a := a) (b := b) (fun e => hle (by rw [E2.out, E4.out, e])))
    have HB1 := Lib.hid (HB0.out.trans (hb1.mono (by omega)))
    clear hle hb1
    go_wp2_with fail
    go_ret
    exact ⟨ret_bool HD.out.symm, HB1.out⟩
   ·subst hle
    go_wp2_with fail
    go_loopw [5] (fun v wr => ∃ i : Nat, i ≤ nn ∧ v = .int .i64 i ∧ Below (w.heap.size + 2) w1 wr ∧ Hid (a.nodes.take i = b.nodes.take i)) (fun v _ => nn - (intOf v).toNat)
    case atStart => exact ⟨0, by omega, rfl, Below.refl _ _, Lib.hid rfl⟩
    case round =>
     obtain ⟨i, hi, rfl, hbr, HQ⟩ := hrel
     have hzr := hbr.size
     have x2 := (hbr.block w.heap.size (by omega)).trans HX1.out
     have y2 := (hbr.block (w.heap.size + 1) (by omega)).trans HY1.out
     obtain ⟨p0, p1, p2⟩ := box3A x2
     obtain ⟨q0, q1, q2⟩ := box3A y2
     clear m0 m1 m2 n0 n1 n2 x2 y2
     have hbWr : Below (w.heap.size + 2) W0 wr := (hb1.mono (by omega)).trans hbr
     have hfin : Below w.heap.size w wr := HB0.out.trans (hbWr.mono (by omega))
     by_cases hlt : i < nn
     ·have hlt' : (i : Int) < (nn : Int) := by omega
      have hi0 : (0 : Int) ≤ (i : Int) := by omega
      have hil : i < a.nodes.length := by rw [← E2.out]; exact hlt
      have hil2 : i < b.nodes.length := by rw [← E4.out]; exact hlt
      obtain ⟨x, hxe⟩ : ∃ x, a.nodes[i] = x := ⟨_, rfl⟩
      obtain ⟨y, hye⟩ : ∃ x, b.nodes[i] = x := ⟨_, rfl⟩
      have hx : a.nodes[i]? = some x := by rw [List.getElem?_eq_getElem hil, hxe]
      have hy : b.nodes[i]? = some y := by rw [List.getElem?_eq_getElem hil2, hye]
      have htl : x.to.length ≤ 1000000 := HLT.out x (by rw [← hxe]; exact List.getElem_mem hil)
      obtain ⟨b1, o, A, c, rfl, hbb, c0, c1, c2, c3, hs1⟩ := rd_at (H1.out.below hbWr (by omega)) hlt hx
      obtain ⟨b', o', A', c', rfl, hbb', d0, d1, d2, d3, hs2⟩ := rd_at (H2.out.below hbWr (by omega)) hlt hy
      have wi : IntKind.i64.wrap ((i : Int) + 1) = i + 1 := by rw [IntKind.wrap_i64]; omega
      have HXY := Lib.hid (And.intro hx hy)
      have HS1 := Lib.hid hs1
      have HS2 := Lib.hid hs2
      have hbl : b1 < wr.heap.size := by omega
      have hbl' : b' < wr.heap.size := by omega
      have hwl : w.heap.size < wr.heap.size := by omega
      have hwl' : w.heap.size + 1 < wr.heap.size := by omega
      clear hxe hye hx hy hs1 hs2
      go_wp2_with fail
      go_cut [6, 7] (fun p q wF => TwoN2 wr x y (A, c) (A', c') p q wF)
      case first =>
       refine wp_region_held_drew (S := fun w' => w'.cell? ⟨w.heap.size, 2, none⟩ = some (.slice (some ⟨b1, o, none⟩) nn cn) ∧ w'.cell? ⟨w.heap.size + 1, 2, none⟩ = some (.slice (some ⟨b', o', none⟩) nn dn) ∧ w'.cell? ⟨b1, o + i * 4, none⟩ = some (.int .u64 (x.need : Int)) ∧ w'.cell? ⟨b1, o + i * 4 + 1, none⟩ = some (.int .u64 (x.ban : Int)) ∧ w'.cell? ⟨b1, o + i * 4 + 2, none⟩ = some (.int .u64 (x.inn : Int)) ∧ w'.cell? ⟨b1, o + i * 4 + 3, none⟩ = some (.slice A x.to.length c) ∧ w'.cell? ⟨b', o' + i * 4, none⟩ = some (.int .u64 (y.need : Int)) ∧ w'.cell? ⟨b', o' + i * 4 + 1, none⟩ = some (.int .u64 (y.ban : Int)) ∧ w'.cell? ⟨b', o' + i * 4 + 2, none⟩ = some (.int .u64 (y.inn : Int)) ∧ w'.cell? ⟨b', o' + i * 4 + 3, none⟩ = some (.slice A' y.to.length c')) (by kernel_rfl) ⟨p2, q2, c0, c1, c2, c3, d0, d1, d2, d3⟩ (fun hS => ?_)
       refine tkH 0 rfl hS ?_
       refine tkH 1 rfl hS ?_
       refine tkH 2 rfl hS ?_
       refine tkH 3 rfl hS ?_
       refine tkH 4 rfl hS ?_
       refine tkH 5 rfl hS ?_
       refine tkH 6 rfl hS ?_
       refine tkH 7 rfl hS ?_
       refine tkH 8 rfl hS ?_
       refine tkH 9 rfl hS ?_
       refine wpAnyH_ready (rs := [10, 11]) (by kernel_rfl) (by simp) ?_
       refine (allReadyH_consD (i := 10) rfl (fun K hK => ?_) (allReadyH_consD (i := 11) rfl (fun K hK => ?_) AllReadyH.nil))
       ·skip
        go_simp
        obtain ⟨V1, hw1⟩ : ∃ V, V = (wr.alloc (.cells #[.int .u64 0, .int .u64 0, .int .u64 0, .slice none 0 0] 43)).drew := ⟨_, rfl⟩
        have hv1 : Below wr.heap.size wr V1 := by rw [hw1]; exact ((Below.refl _ _).alloc (Nat.le_refl _) _).drew
        have hn1 : V1.heap[wr.heap.size]? = some (.cells #[.int .u64 0, .int .u64 0, .int .u64 0, .slice none 0 0] 43 (0, 0)) := by rw [hw1]; exact heap_alloc_new _ _
        have zz1 : V1.heap.size = wr.heap.size + 1 := by rw [hw1]; show (wr.alloc _).heap.size = _; simp
        rw [← hw1]
        clear hw1
        refine hK.out _ _ ⟨(hv1.cell (p := ⟨w.heap.size, 2, none⟩) hwl).trans p2, (hv1.cell (p := ⟨w.heap.size + 1, 2, none⟩) hwl').trans q2, (hv1.cell (p := ⟨b1, o + i * 4, none⟩) hbl).trans c0, (hv1.cell (p := ⟨b1, o + i * 4 + 1, none⟩) hbl).trans c1, (hv1.cell (p := ⟨b1, o + i * 4 + 2, none⟩) hbl).trans c2, (hv1.cell (p := ⟨b1, o + i * 4 + 3, none⟩) hbl).trans c3, (hv1.cell (p := ⟨b', o' + i * 4, none⟩) hbl').trans d0, (hv1.cell (p := ⟨b', o' + i * 4 + 1, none⟩) hbl').trans d1, (hv1.cell (p := ⟨b', o' + i * 4 + 2, none⟩) hbl').trans d2, (hv1.cell (p := ⟨b', o' + i * 4 + 3, none⟩) hbl').trans d3⟩ (fun hS => ?_)
        clear hK
        try simp only [Act.put, List.setIfInBounds_toArray, List.set_cons_zero, List.set_cons_succ]
        refine wpAnyH_oneD (i := 11) rfl (by kernel_rfl) (fun K hK => ?_)
        go_simp
        obtain ⟨V2, hw2⟩ : ∃ V, V = V1.alloc (.cells #[.int .u64 0, .int .u64 0, .int .u64 0, .slice none 0 0] 43) := ⟨_, rfl⟩
        have hq2 : Below V1.heap.size V1 V2 := by rw [hw2]; exact (Below.refl _ _).alloc (Nat.le_refl _) _
        have hv2 : Below wr.heap.size wr V2 := hv1.trans (hq2.mono hv1.size)
        have hn2 : V2.heap[V1.heap.size]? = some (.cells #[.int .u64 0, .int .u64 0, .int .u64 0, .slice none 0 0] 43 (0, 0)) := by rw [hw2]; exact heap_alloc_new _ _
        have hn1_2 := (hq2.block _ (heap_lt hn1)).trans hn1
        rw [← hw2]
        clear hw2
        rw [zz1] at hn2
        refine hK.out _ _ ⟨(hv2.cell (p := ⟨w.heap.size, 2, none⟩) hwl).trans p2, (hv2.cell (p := ⟨w.heap.size + 1, 2, none⟩) hwl').trans q2, (hv2.cell (p := ⟨b1, o + i * 4, none⟩) hbl).trans c0, (hv2.cell (p := ⟨b1, o + i * 4 + 1, none⟩) hbl).trans c1, (hv2.cell (p := ⟨b1, o + i * 4 + 2, none⟩) hbl).trans c2, (hv2.cell (p := ⟨b1, o + i * 4 + 3, none⟩) hbl).trans c3, (hv2.cell (p := ⟨b', o' + i * 4, none⟩) hbl').trans d0, (hv2.cell (p := ⟨b', o' + i * 4 + 1, none⟩) hbl').trans d1, (hv2.cell (p := ⟨b', o' + i * 4 + 2, none⟩) hbl').trans d2, (hv2.cell (p := ⟨b', o' + i * 4 + 3, none⟩) hbl').trans d3⟩ (fun hS => ?_)
        clear hK
        try simp only [Act.put, List.setIfInBounds_toArray, List.set_cons_zero, List.set_cons_succ]
        refine wpAnyH_oneD (i := 12) rfl (by kernel_rfl) (fun K hK => ?_)
        obtain ⟨f3_0, f3_1, f3_2, f3_3⟩ := box4A hn1_2
        have ff3_0 := frozen_of_row _ _ 0 _ _ hn1_2
        have ff3_1 := frozen_of_row _ _ 1 _ _ hn1_2
        have ff3_2 := frozen_of_row _ _ 2 _ _ hn1_2
        have ff3_3 := frozen_of_row _ _ 3 _ _ hn1_2
        go_simp
        obtain ⟨V3, hw3⟩ : ∃ V, V = (((V2.setCell ⟨wr.heap.size, 0, none⟩ (.int .u64 (x.need : Int))).setCell ⟨wr.heap.size, 1, none⟩ (.int .u64 (x.ban : Int))).setCell ⟨wr.heap.size, 2, none⟩ (.int .u64 (x.inn : Int))).setCell ⟨wr.heap.size, 3, none⟩ (.slice A x.to.length c) := ⟨_, rfl⟩
        have hs3 : V3.heap[wr.heap.size]? = some (.cells #[.int .u64 (x.need : Int), .int .u64 (x.ban : Int), .int .u64 (x.inn : Int), .slice A x.to.length c] 43 (0, 0)) := by rw [hw3]; exact set4A hn1_2 rfl
        have ht3 : Tch (fun k => k = wr.heap.size) V2 V3 := by rw [hw3]; exact tch4A _ _ _ _ _ _
        rw [← hw3]
        clear hw3 f3_0 f3_1 f3_2 f3_3 ff3_0 ff3_1 ff3_2 ff3_3
        have hv3 : Below wr.heap.size wr V3 := hv2.trans (ht3.below hv2.size (fun k hk e => by omega))
        have hn2_3 := ht3.blk hn2 (show ¬ (wr.heap.size + 1) = wr.heap.size by omega)
        refine hK.out _ _ ⟨(hv3.cell (p := ⟨w.heap.size, 2, none⟩) hwl).trans p2, (hv3.cell (p := ⟨w.heap.size + 1, 2, none⟩) hwl').trans q2, (hv3.cell (p := ⟨b1, o + i * 4, none⟩) hbl).trans c0, (hv3.cell (p := ⟨b1, o + i * 4 + 1, none⟩) hbl).trans c1, (hv3.cell (p := ⟨b1, o + i * 4 + 2, none⟩) hbl).trans c2, (hv3.cell (p := ⟨b1, o + i * 4 + 3, none⟩) hbl).trans c3, (hv3.cell (p := ⟨b', o' + i * 4, none⟩) hbl').trans d0, (hv3.cell (p := ⟨b', o' + i * 4 + 1, none⟩) hbl').trans d1, (hv3.cell (p := ⟨b', o' + i * 4 + 2, none⟩) hbl').trans d2, (hv3.cell (p := ⟨b', o' + i * 4 + 3, none⟩) hbl').trans d3⟩ (fun hS => ?_)
        clear hK
        try simp only [Act.put, List.setIfInBounds_toArray, List.set_cons_zero, List.set_cons_succ]
        refine wpAnyH_oneD (i := 13) rfl (by kernel_rfl) (fun K hK => ?_)
        obtain ⟨f4_0, f4_1, f4_2, f4_3⟩ := box4A hn2_3
        have ff4_0 := frozen_of_row _ _ 0 _ _ hn2_3
        have ff4_1 := frozen_of_row _ _ 1 _ _ hn2_3
        have ff4_2 := frozen_of_row _ _ 2 _ _ hn2_3
        have ff4_3 := frozen_of_row _ _ 3 _ _ hn2_3
        go_simp
        obtain ⟨V4, hw4⟩ : ∃ V, V = (((V3.setCell ⟨(wr.heap.size + 1), 0, none⟩ (.int .u64 (y.need : Int))).setCell ⟨(wr.heap.size + 1), 1, none⟩ (.int .u64 (y.ban : Int))).setCell ⟨(wr.heap.size + 1), 2, none⟩ (.int .u64 (y.inn : Int))).setCell ⟨(wr.heap.size + 1), 3, none⟩ (.slice A' y.to.length c') := ⟨_, rfl⟩
        have hs4 : V4.heap[(wr.heap.size + 1)]? = some (.cells #[.int .u64 (y.need : Int), .int .u64 (y.ban : Int), .int .u64 (y.inn : Int), .slice A' y.to.length c'] 43 (0, 0)) := by rw [hw4]; exact set4A hn2_3 rfl
        have ht4 : Tch (fun k => k = (wr.heap.size + 1)) V3 V4 := by rw [hw4]; exact tch4A _ _ _ _ _ _
        rw [← hw4]
        clear hw4 f4_0 f4_1 f4_2 f4_3 ff4_0 ff4_1 ff4_2 ff4_3
        have hv4 : Below wr.heap.size wr V4 := hv3.trans (ht4.below hv3.size (fun k hk e => by omega))
        have hs3_4 := ht4.blk hs3 (show ¬ wr.heap.size = (wr.heap.size + 1) by omega)
        refine hK.out _ _ ⟨(hv4.cell (p := ⟨w.heap.size, 2, none⟩) hwl).trans p2, (hv4.cell (p := ⟨w.heap.size + 1, 2, none⟩) hwl').trans q2, (hv4.cell (p := ⟨b1, o + i * 4, none⟩) hbl).trans c0, (hv4.cell (p := ⟨b1, o + i * 4 + 1, none⟩) hbl).trans c1, (hv4.cell (p := ⟨b1, o + i * 4 + 2, none⟩) hbl).trans c2, (hv4.cell (p := ⟨b1, o + i * 4 + 3, none⟩) hbl).trans c3, (hv4.cell (p := ⟨b', o' + i * 4, none⟩) hbl').trans d0, (hv4.cell (p := ⟨b', o' + i * 4 + 1, none⟩) hbl').trans d1, (hv4.cell (p := ⟨b', o' + i * 4 + 2, none⟩) hbl').trans d2, (hv4.cell (p := ⟨b', o' + i * 4 + 3, none⟩) hbl').trans d3⟩ (fun hS => ?_)
        clear hK
        try simp only [Act.put, List.setIfInBounds_toArray, List.set_cons_zero, List.set_cons_succ]
        refine wpAnyH_done (by kernel_rfl) ?_ _
        go_wp2_with fail
        go_meet
        case rel => exact ⟨_, _, rfl, rfl, hs3_4, hs4, hv4⟩
       ·skip
        go_simp
        obtain ⟨V5, hw5⟩ : ∃ V, V = (wr.alloc (.cells #[.int .u64 0, .int .u64 0, .int .u64 0, .slice none 0 0] 43)).drew := ⟨_, rfl⟩
        have hv5 : Below wr.heap.size wr V5 := by rw [hw5]; exact ((Below.refl _ _).alloc (Nat.le_refl _) _).drew
        have hn5 : V5.heap[wr.heap.size]? = some (.cells #[.int .u64 0, .int .u64 0, .int .u64 0, .slice none 0 0] 43 (0, 0)) := by rw [hw5]; exact heap_alloc_new _ _
        have zz5 : V5.heap.size = wr.heap.size + 1 := by rw [hw5]; show (wr.alloc _).heap.size = _; simp
        rw [← hw5]
        clear hw5
        refine hK.out _ _ ⟨(hv5.cell (p := ⟨w.heap.size, 2, none⟩) hwl).trans p2, (hv5.cell (p := ⟨w.heap.size + 1, 2, none⟩) hwl').trans q2, (hv5.cell (p := ⟨b1, o + i * 4, none⟩) hbl).trans c0, (hv5.cell (p := ⟨b1, o + i * 4 + 1, none⟩) hbl).trans c1, (hv5.cell (p := ⟨b1, o + i * 4 + 2, none⟩) hbl).trans c2, (hv5.cell (p := ⟨b1, o + i * 4 + 3, none⟩) hbl).trans c3, (hv5.cell (p := ⟨b', o' + i * 4, none⟩) hbl').trans d0, (hv5.cell (p := ⟨b', o' + i * 4 + 1, none⟩) hbl').trans d1, (hv5.cell (p := ⟨b', o' + i * 4 + 2, none⟩) hbl').trans d2, (hv5.cell (p := ⟨b', o' + i * 4 + 3, none⟩) hbl').trans d3⟩ (fun hS => ?_)
        clear hK
        try simp only [Act.put, List.setIfInBounds_toArray, List.set_cons_zero, List.set_cons_succ]
        refine wpAnyH_oneD (i := 10) rfl (by kernel_rfl) (fun K hK => ?_)
        go_simp
        obtain ⟨V6, hw6⟩ : ∃ V, V = V5.alloc (.cells #[.int .u64 0, .int .u64 0, .int .u64 0, .slice none 0 0] 43) := ⟨_, rfl⟩
        have hq6 : Below V5.heap.size V5 V6 := by rw [hw6]; exact (Below.refl _ _).alloc (Nat.le_refl _) _
        have hv6 : Below wr.heap.size wr V6 := hv5.trans (hq6.mono hv5.size)
        have hn6 : V6.heap[V5.heap.size]? = some (.cells #[.int .u64 0, .int .u64 0, .int .u64 0, .slice none 0 0] 43 (0, 0)) := by rw [hw6]; exact heap_alloc_new _ _
        have hn5_6 := (hq6.block _ (heap_lt hn5)).trans hn5
        rw [← hw6]
        clear hw6
        rw [zz5] at hn6
        refine hK.out _ _ ⟨(hv6.cell (p := ⟨w.heap.size, 2, none⟩) hwl).trans p2, (hv6.cell (p := ⟨w.heap.size + 1, 2, none⟩) hwl').trans q2, (hv6.cell (p := ⟨b1, o + i * 4, none⟩) hbl).trans c0, (hv6.cell (p := ⟨b1, o + i * 4 + 1, none⟩) hbl).trans c1, (hv6.cell (p := ⟨b1, o + i * 4 + 2, none⟩) hbl).trans c2, (hv6.cell (p := ⟨b1, o + i * 4 + 3, none⟩) hbl).trans c3, (hv6.cell (p := ⟨b', o' + i * 4, none⟩) hbl').trans d0, (hv6.cell (p := ⟨b', o' + i * 4 + 1, none⟩) hbl').trans d1, (hv6.cell (p := ⟨b', o' + i * 4 + 2, none⟩) hbl').trans d2, (hv6.cell (p := ⟨b', o' + i * 4 + 3, none⟩) hbl').trans d3⟩ (fun hS => ?_)
        clear hK
        try simp only [Act.put, List.setIfInBounds_toArray, List.set_cons_zero, List.set_cons_succ]
        refine wpAnyH_oneD (i := 12) rfl (by kernel_rfl) (fun K hK => ?_)
        obtain ⟨f7_0, f7_1, f7_2, f7_3⟩ := box4A hn6
        have ff7_0 := frozen_of_row _ _ 0 _ _ hn6
        have ff7_1 := frozen_of_row _ _ 1 _ _ hn6
        have ff7_2 := frozen_of_row _ _ 2 _ _ hn6
        have ff7_3 := frozen_of_row _ _ 3 _ _ hn6
        go_simp
        obtain ⟨V7, hw7⟩ : ∃ V, V = (((V6.setCell ⟨(wr.heap.size + 1), 0, none⟩ (.int .u64 (x.need : Int))).setCell ⟨(wr.heap.size + 1), 1, none⟩ (.int .u64 (x.ban : Int))).setCell ⟨(wr.heap.size + 1), 2, none⟩ (.int .u64 (x.inn : Int))).setCell ⟨(wr.heap.size + 1), 3, none⟩ (.slice A x.to.length c) := ⟨_, rfl⟩
        have hs7 : V7.heap[(wr.heap.size + 1)]? = some (.cells #[.int .u64 (x.need : Int), .int .u64 (x.ban : Int), .int .u64 (x.inn : Int), .slice A x.to.length c] 43 (0, 0)) := by rw [hw7]; exact set4A hn6 rfl
        have ht7 : Tch (fun k => k = (wr.heap.size + 1)) V6 V7 := by rw [hw7]; exact tch4A _ _ _ _ _ _
        rw [← hw7]
        clear hw7 f7_0 f7_1 f7_2 f7_3 ff7_0 ff7_1 ff7_2 ff7_3
        have hv7 : Below wr.heap.size wr V7 := hv6.trans (ht7.below hv6.size (fun k hk e => by omega))
        have hn5_6_7 := ht7.blk hn5_6 (show ¬ wr.heap.size = (wr.heap.size + 1) by omega)
        refine hK.out _ _ ⟨(hv7.cell (p := ⟨w.heap.size, 2, none⟩) hwl).trans p2, (hv7.cell (p := ⟨w.heap.size + 1, 2, none⟩) hwl').trans q2, (hv7.cell (p := ⟨b1, o + i * 4, none⟩) hbl).trans c0, (hv7.cell (p := ⟨b1, o + i * 4 + 1, none⟩) hbl).trans c1, (hv7.cell (p := ⟨b1, o + i * 4 + 2, none⟩) hbl).trans c2, (hv7.cell (p := ⟨b1, o + i * 4 + 3, none⟩) hbl).trans c3, (hv7.cell (p := ⟨b', o' + i * 4, none⟩) hbl').trans d0, (hv7.cell (p := ⟨b', o' + i * 4 + 1, none⟩) hbl').trans d1, (hv7.cell (p := ⟨b', o' + i * 4 + 2, none⟩) hbl').trans d2, (hv7.cell (p := ⟨b', o' + i * 4 + 3, none⟩) hbl').trans d3⟩ (fun hS => ?_)
        clear hK
        try simp only [Act.put, List.setIfInBounds_toArray, List.set_cons_zero, List.set_cons_succ]
        refine wpAnyH_oneD (i := 13) rfl (by kernel_rfl) (fun K hK => ?_)
        obtain ⟨f8_0, f8_1, f8_2, f8_3⟩ := box4A hn5_6_7
        have ff8_0 := frozen_of_row _ _ 0 _ _ hn5_6_7
        have ff8_1 := frozen_of_row _ _ 1 _ _ hn5_6_7
        have ff8_2 := frozen_of_row _ _ 2 _ _ hn5_6_7
        have ff8_3 := frozen_of_row _ _ 3 _ _ hn5_6_7
        go_simp
        obtain ⟨V8, hw8⟩ : ∃ V, V = (((V7.setCell ⟨wr.heap.size, 0, none⟩ (.int .u64 (y.need : Int))).setCell ⟨wr.heap.size, 1, none⟩ (.int .u64 (y.ban : Int))).setCell ⟨wr.heap.size, 2, none⟩ (.int .u64 (y.inn : Int))).setCell ⟨wr.heap.size, 3, none⟩ (.slice A' y.to.length c') := ⟨_, rfl⟩
        have hs8 : V8.heap[wr.heap.size]? = some (.cells #[.int .u64 (y.need : Int), .int .u64 (y.ban : Int), .int .u64 (y.inn : Int), .slice A' y.to.length c'] 43 (0, 0)) := by rw [hw8]; exact set4A hn5_6_7 rfl
        have ht8 : Tch (fun k => k = wr.heap.size) V7 V8 := by rw [hw8]; exact tch4A _ _ _ _ _ _
        rw [← hw8]
        clear hw8 f8_0 f8_1 f8_2 f8_3 ff8_0 ff8_1 ff8_2 ff8_3
        have hv8 : Below wr.heap.size wr V8 := hv7.trans (ht8.below hv7.size (fun k hk e => by omega))
        have hs7_8 := ht8.blk hs7 (show ¬ (wr.heap.size + 1) = wr.heap.size by omega)
        refine hK.out _ _ ⟨(hv8.cell (p := ⟨w.heap.size, 2, none⟩) hwl).trans p2, (hv8.cell (p := ⟨w.heap.size + 1, 2, none⟩) hwl').trans q2, (hv8.cell (p := ⟨b1, o + i * 4, none⟩) hbl).trans c0, (hv8.cell (p := ⟨b1, o + i * 4 + 1, none⟩) hbl).trans c1, (hv8.cell (p := ⟨b1, o + i * 4 + 2, none⟩) hbl).trans c2, (hv8.cell (p := ⟨b1, o + i * 4 + 3, none⟩) hbl).trans c3, (hv8.cell (p := ⟨b', o' + i * 4, none⟩) hbl').trans d0, (hv8.cell (p := ⟨b', o' + i * 4 + 1, none⟩) hbl').trans d1, (hv8.cell (p := ⟨b', o' + i * 4 + 2, none⟩) hbl').trans d2, (hv8.cell (p := ⟨b', o' + i * 4 + 3, none⟩) hbl').trans d3⟩ (fun hS => ?_)
        clear hK
        try simp only [Act.put, List.setIfInBounds_toArray, List.set_cons_zero, List.set_cons_succ]
        refine wpAnyH_done (by kernel_rfl) ?_ _
        go_wp2_with fail
        go_meet
        case rel => exact ⟨_, _, rfl, rfl, hs7_8, hs8, hv8⟩
      case rest =>
       obtain ⟨g, h, rfl, rfl, hg, hh, hbc⟩ := hcut
       obtain ⟨r0, r1, r2, r3⟩ := box4A hg
       obtain ⟨s0, s1, s2, s3⟩ := box4A hh
       have HT := Lib.hid ((eqI30_any A A' x.to.length c y.to.length c' x.to y.to wc B B (HS1.out.below hbc (by omega)) (HS2.out.below hbc (by omega)) rfl rfl (by omega)).mono (fun _ _ h => said_truA h))
       have HBC := Lib.hid hbc
       have HFC := Lib.hid (hfin.trans (hbc.mono (by omega)))
       clear hg hh c0 c1 c2 c3 d0 d1 d2 d3
       have HNO : x ≠ y → Hid (decide (a = b) = false) := fun hn => Lib.hid (aut_ne3 (fun e => by
        obtain ⟨hx, hy⟩ := HXY.out
        rw [e, hy] at hx
        exact hn (Option.some.inj hx).symm))
       by_cases e1 : x.need = y.need
       ·by_cases e2 : x.ban = y.ban
        ·by_cases e3 : x.inn = y.inn
         ·rw [e1] at r0
          rw [e2] at r1
          rw [e3] at r2
          have E1 := Lib.hid e1
          have E5 := Lib.hid e2
          have E6 := Lib.hid e3
          clear e1 e2 e3
          go_wp2_with fail
          refine Calls.mono HT.out ?_
          by_cases e4 : x.to = y.to
          ·have hxy : x = y := by
            have e1 := E1.out
            have e2 := E5.out
            have e3 := E6.out
            obtain ⟨xn, xb, xi, xt⟩ := x
            obtain ⟨yn, yb, yi, yt⟩ := y
            simp only at e1 e2 e3 e4
            rw [e1, e2, e3, e4]
           have HQ2 : Hid (a.nodes.take (i + 1) = b.nodes.take (i + 1)) := Lib.hid (by
            obtain ⟨hx, hy⟩ := HXY.out
            rw [List.take_add_one, List.take_add_one, HQ.out, hx, hy, hxy])
           rw [decide_eq_true e4]
           rintro e w6 ⟨rfl, hb6⟩
           clear hxy e4 HNO
           go_wp2_with fail
           go_roundw
           case rel => exact ⟨i + 1, by omega, by go_num, (hbr.trans (HBC.out.mono (by omega))).trans (hb6.mono (by have := HBC.out.size; omega)), HQ2⟩
           case measure => simp [intOf]; omega
          ·have HD := HNO (fun h => e4 (by rw [h]))
           rw [decide_eq_false e4]
           rintro e w6 ⟨rfl, hb6⟩
           have HB6 := Lib.hid (HFC.out.trans (hb6.mono (by have := HBC.out.size; omega)))
           clear e4 HNO hb6
           go_wp2_with fail
           go_ret
           exact ⟨ret_bool HD.out.symm, HB6.out⟩
         ·have HD := HNO (fun h => e3 (by rw [h]))
          have d3 : (((x.inn : Nat) : Int) == ((y.inn : Nat) : Int)) = false := by simp; omega
          have d3' : (((x.inn : Nat) : Int) != ((y.inn : Nat) : Int)) = true := by simp; omega
          have d3'' : (x.inn == y.inn) = false := by simp; omega
          have d33 : (x.inn != y.inn) = true := by simp; omega
          rw [e1] at r0
          rw [e2] at r1
          clear HNO e1 e2 e3
          go_wp2_with fail
          go_ret
          exact ⟨ret_bool HD.out.symm, HFC.out⟩
        ·have HD := HNO (fun h => e2 (by rw [h]))
         have d2 : (((x.ban : Nat) : Int) == ((y.ban : Nat) : Int)) = false := by simp; omega
         have d2' : (((x.ban : Nat) : Int) != ((y.ban : Nat) : Int)) = true := by simp; omega
         have d2'' : (x.ban == y.ban) = false := by simp; omega
         have d23 : (x.ban != y.ban) = true := by simp; omega
         rw [e1] at r0
         clear HNO e1 e2
         go_wp2_with fail
         go_ret
         exact ⟨ret_bool HD.out.symm, HFC.out⟩
       ·have HD := HNO (fun h => e1 (by rw [h]))
        have d1 : (((x.need : Nat) : Int) == ((y.need : Nat) : Int)) = false := by simp; omega
        have d1' : (((x.need : Nat) : Int) != ((y.need : Nat) : Int)) = true := by simp; omega
        have d1'' : (x.need == y.need) = false := by simp; omega
        have d13 : (x.need != y.need) = true := by simp; omega
        clear HNO e1
        go_wp2_with fail
        go_ret
        exact ⟨ret_bool HD.out.symm, HFC.out⟩
     ·have hin : i = nn := by omega
      have HD := Lib.hid (aut_eq3 (a := a) (b := b) (by rw [HS.out, HS2'.out]) HIE.out (by have := HQ.out; rw [hin] at this; rw [E2.out, List.take_length] at this; rw [this, ← E2.out, E4.out, List.take_length]))
      have HFC := Lib.hid hfin
      clear hin
      go_wp2_with fail
      go_ret
      exact ⟨ret_bool HD.out.symm, HFC.out⟩
end Go.Proofs.YtiebpncpdbnelaaDoor
