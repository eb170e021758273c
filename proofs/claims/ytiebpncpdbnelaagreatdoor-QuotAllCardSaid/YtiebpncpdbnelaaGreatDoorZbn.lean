/- Texts that stand one behind the other, in one file. -/
import Derived.Test.YtiebpncpdbnelaaGreatDoorAt10
set_option maxHeartbeats 8000000
set_option maxRecDepth 100000
namespace Go.Proofs.YtiebpncpdbnelaaGreatDoor
open Go.RowKit Go.Shelf
structure PlayOw (w : World) (base : Nat) (ai : Option Addr) (ni ci : Nat) (ae : Option Addr) (ne ce : Nat) (al : Option Addr) (nl cl : Nat) (ac : Option Addr) (nc cc : Nat) (I : List Int) (E : List (List Nd)) (L ins : List Nat) (vs : List Value) : Prop where
 i : w.ownsRow base 3 1 (.slice ai ni ci) ni (icells I)
 e : Own2 w base 83 81 2 (.slice ae ne ce) (E.map ncells) vs
 l : w.ownsRow base 34 1 (.slice al nl cl) nl (ucellsN L)
 n : w.ownsRow base 34 1 (.slice ac nc cc) nc (ucellsN ins)
section
variable {w w' : World} {base ni ci ne ce nl cl nc cc : Nat} {ai ae al ac : Option Addr} {I : List Int} {E : List (List Nd)} {L ins : List Nat} {vs : List Value} {M : Nat → Prop}
theorem PlayOw.rd (h : PlayOw w base ai ni ci ae ne ce al nl cl ac nc cc I E L ins vs) : PlayRd w w.1.size ai ni ci ae ne ce al nl cl ac nc cc I E L ins := by
 obtain ⟨A1, c1, e1, hi⟩ := own_sl h.i
 cases e1
 obtain ⟨A2, c2, e2, he⟩ := h.e.sl2
 cases e2
 obtain ⟨A3, c3, e3, hl⟩ := own_sl h.l
 cases e3
 obtain ⟨A4, c4, e4, hc⟩ := own_sl h.n
 cases e4
 refine ⟨⟨hi, he, ?_⟩, hc⟩
 have : (L.map (fun (x : Nat) => (x : Int))).map (Value.int .u64) = ucellsN L := by simp [ucellsN]
 rw [this]
 exact hl
end
end Go.Proofs.YtiebpncpdbnelaaGreatDoor
namespace Go.Proofs.YtiebpncpdbnelaaGreatDoor
theorem run_self {E : List (List Nd)} {asks : List (Nat → Bool)} {q : Nat} (ha : Arc E q q) (h : ∀ p ∈ asks, p q = true) : Runs E asks q :=
 ⟨fun _ => q, rfl, fun _ => ha, fun p hp k => ⟨k, lR, h p hp⟩⟩
end Go.Proofs.YtiebpncpdbnelaaGreatDoor
namespace Go.Proofs.YtiebpncpdbnelaaGreatDoor
open Go.RowKit
theorem sl_blkA {w : World} {b T n size : Nat} {cs : Array Value} {xs : List Value} {B : Nat} (h : w.1[b]? = some (.cells cs T (0, 0))) (hx : cs.toList = xs) (hn : xs.length = n * size) (hm : n ≤ maxLen) (hb : b < B) : Sl w B size (some ⟨b, 0, none⟩) n n xs := by
 refine ⟨hn, lR, hm, fun h => (by cases h), .inr ⟨b, 0, rfl, hb, fun j u hu => ?_⟩⟩
 rw [Nat.zero_add, cell_of_row w b j _ _ _ h]
 rw [← hx] at hu
 simpa using hu
theorem als (l : List Obj) : ∀ w : World, Below w.1.size w (l.foldl World.alloc w) ∧ (l.foldl World.alloc w).1.size = w.1.size + l.length ∧ ∀ i o, l[i]? = some o → (l.foldl World.alloc w).1[w.1.size + i]? = some o := by
 induction l with
 | nil => exact fun w => ⟨bR, rfl, fun i o h => by cases h⟩
 | cons x l ih =>
  intro w
  obtain ⟨h1, h2, h3⟩ := ih (w.alloc x)
  have hs : (w.alloc x).1.size = w.1.size + 1 := by simp
  rw [hs] at h1 h2 h3
  refine ⟨(bR.alloc lR _).trans (h1.mono (Nat.le_succ _)), by rw [List.foldl_cons, h2, List.length_cons]; omega, fun i o h => ?_⟩
  rw [List.foldl_cons]
  cases i with
  | zero =>
   rw [Nat.add_zero, h1.block _ (Nat.lt_succ_self _), heap_alloc_new w x]
   exact h
  | succ i =>
   rw [show w.1.size + (i + 1) = w.1.size + 1 + i by omega]
   exact h3 i o h
end Go.Proofs.YtiebpncpdbnelaaGreatDoor
namespace Go.Proofs.YtiebpncpdbnelaaGreatDoor
open Go.RowKit
def TwoN2 (w : World) (x y : ANd) (A c : Option Addr × Nat) (p q : Value) (wF : World) : Prop :=
 ∃ g h, p = .pointer (some ⟨g, 0, none⟩) ∧ q = .pointer (some ⟨h, 0, none⟩) ∧ wF.1[g]? = some (.cells #[.int .u64 (x.need : Int), .int .u64 (x.ban : Int), .int .u64 (x.inn : Int), .slice A.1 x.to.length A.2] 36 (0, 0)) ∧
  wF.1[h]? = some (.cells #[.int .u64 (y.need : Int), .int .u64 (y.ban : Int), .int .u64 (y.inn : Int), .slice c.1 y.to.length c.2] 36 (0, 0)) ∧ Below w.1.size w wF
theorem aut_ne1 {a b : Aut} (h : a.sets ≠ b.sets) : decide (a = b) = false := decide_eq_false (fun e => h (by rw [e]))
theorem aut_ne2 {a b : Aut} (h : a.init ≠ b.init) : decide (a = b) = false := decide_eq_false (fun e => h (by rw [e]))
theorem aut_ne3 {a b : Aut} (h : a.nodes ≠ b.nodes) : decide (a = b) = false := decide_eq_false (fun e => h (by rw [e]))
theorem aut_eq3 {a b : Aut} (h1 : a.sets = b.sets) (h2 : a.init = b.init) (h3 : a.nodes = b.nodes) : decide (a = b) = true := decide_eq_true (by
 obtain ⟨s, i, n⟩ := a
 obtain ⟨s', i', n'⟩ := b
 simp only at h1 h2 h3
 rw [h1, h2, h3])
theorem sameRB_any (a b : Aut) (Ai : Option Addr) (ni ci : Nat) (An : Option Addr) (nn cn : Nat) (Di : Option Addr) (mi di : Nat) (Dn : Option Addr) (mn dn : Nat) (w : World) (B : Nat) (h1 : AutRd w B a Ai ni ci An nn cn) (h2 : AutRd w B b Di mi di Dn mn dn) (hB : B ≤ w.1.size)
  (hlN : a.nodes.length ≤ 100000) (hlI : a.init.length ≤ 1000000) (hlT : ∀ x ∈ a.nodes, x.to.length ≤ 1000000) :
  Calls Tryz.prog 7 #[.agg #[.int .i64 a.sets, .slice Ai ni ci, .slice An nn cn], .agg #[.int .i64 b.sets, .slice Di mi di, .slice Dn mn dn]] w (Tru w (decide (a = b))) := by
 have e1 := h1.eni
 have e2 := h1.enn
 have e3 := h2.eni
 have e4 := h2.enn
 have hmi : ni ≤ 1000000 := by omega
 have hmn : nn ≤ 100000 := by omega
 obtain ⟨s, hs⟩ := xQ a.sets
 obtain ⟨s2, hs2⟩ := xQ b.sets
 rw [hs, hs2]
 obtain ⟨hb0, x0, y0, z0⟩ := box5 w (.cells #[.int .i64 s, .slice Ai ni ci, .slice An nn cn] 25) (.cells #[.int .i64 s2, .slice Di mi di, .slice Dn mn dn] 25)
 obtain ⟨W0, hW0⟩ := xQ ((w.alloc (.cells #[.int .i64 s, .slice Ai ni ci, .slice An nn cn] 25)).alloc (.cells #[.int .i64 s2, .slice Di mi di, .slice Dn mn dn] 25))
 rw [hW0] at hb0 x0 y0 z0
 have HW0 := dh hW0
 have HB0 := dh hb0
 have H1 := dh (h1.below hb0 hB)
 have H2 := dh (h2.below hb0 hB)
 have E2 := dh e2
 have E4 := dh e4
 have HS := dh hs
 have HS2' := dh hs2
 obtain ⟨k0, k1, k2⟩ := box3A x0
 obtain ⟨l0, l1, l2⟩ := box3A y0
 have HX0 := dh x0
 have HY0 := dh y0
 have hBW : B ≤ W0.1.size := by omega
 have HI0 := dh ((eqI30_any Ai Di ni ci mi di a.init b.init W0 B B H1.out.init H2.out.init e1 e3 (by omega)).mono (fun _ _ h => said_truA h))
 have HLT := dh hlT
 clear hW0 h1 h2 e1 e2 e3 e4 hs hs2 x0 y0 hlT
 go_enter Tryz.func7, Tryz.ntmps7
 by_cases hse : s = s2
 rotate_left
 ·have hne1 : (s == s2) = false := by rw [beq_eq_false_iff_ne]; exact hse
  have hne2 : (s != s2) = true := by rw [bne_iff_ne]; exact hse
  have HD := dh (aut_ne1 (a := a) (b := b) (by rw [HS.out, HS2'.out]; exact hse))
  clear hse
  go_upto_region 1 with fail
  rw [HW0.out]
  go_wp2_with fail
  go_ret
  exact ⟨ret_bool HD.out.symm, HB0.out⟩
 ·subst hse
  go_upto_region 1 with fail
  rw [HW0.out]
  go_wp2_with fail
  refine Calls.mono HI0.out ?_
  by_cases hie : a.init = b.init
  rotate_left
  ·rw [decide_eq_false hie]
   have HD := dh (aut_ne2 hie)
   rintro e w1 ⟨rfl, hb1⟩
   have HB1 := dh (HB0.out.trans (hb1.mono (by omega)))
   clear hb1 hie
   go_wp2_with fail
   go_ret
   exact ⟨ret_bool HD.out.symm, HB1.out⟩
  ·rw [decide_eq_true hie]
   have HIE := dh hie
   rintro e w1 ⟨rfl, hb1⟩
   have x1 := (hb1.block w.1.size (by omega)).trans HX0.out
   have y1 := (hb1.block (w.1.size + 1) (by omega)).trans HY0.out
   obtain ⟨m0, m1, m2⟩ := box3A x1
   obtain ⟨n0, n1, n2⟩ := box3A y1
   have hz1 := hb1.size
   have HX1 := dh x1
   have HY1 := dh y1
   clear k0 k1 k2 l0 l1 l2 x1 y1 hie
   by_cases hle : nn = mn
   rotate_left
   ·have hne1 : ((nn : Int) == (mn : Int)) = false := by simp; omega
    have HD := dh (aut_ne3 (a := a) (b := b) (fun e => hle (by rw [E2.out, E4.out, e])))
    have HB1 := dh (HB0.out.trans (hb1.mono (by omega)))
    clear hle hb1
    go_wp2_with fail
    go_ret
    exact ⟨ret_bool HD.out.symm, HB1.out⟩
   ·subst hle
    go_wp2_with fail
    go_loopw [5] (fun v wr => ∃ i : Nat, i ≤ nn ∧ v = .int .i64 i ∧ Below (w.1.size + 2) w1 wr ∧ Hid (a.nodes.take i = b.nodes.take i)) (fun v _ => nn - (intOf v).toNat)
    case atStart => exact ⟨0, by omega, rfl, bR, dh rfl⟩
    case round =>
     obtain ⟨i, hi, rfl, hbr, HQ⟩ := hrel
     have hzr := hbr.size
     have x2 := (hbr.block w.1.size (by omega)).trans HX1.out
     have y2 := (hbr.block (w.1.size + 1) (by omega)).trans HY1.out
     obtain ⟨p0, p1, p2⟩ := box3A x2
     obtain ⟨q0, q1, q2⟩ := box3A y2
     clear m0 m1 m2 n0 n1 n2 x2 y2
     have hbWr : Below (w.1.size + 2) W0 wr := (hb1.mono (by omega)).trans hbr
     have hfin : Below w.1.size w wr := HB0.out.trans (hbWr.mono (by omega))
     by_cases hlt : i < nn
     ·have hlt' : (i : Int) < (nn : Int) := by omega
      have hi0 : (0 : Int) ≤ (i : Int) := by omega
      have hil : i < a.nodes.length := by rw [← E2.out]; exact hlt
      have hil2 : i < b.nodes.length := by rw [← E4.out]; exact hlt
      obtain ⟨x, hxe⟩ := xQ (a.nodes[i])
      obtain ⟨y, hye⟩ := xQ (b.nodes[i])
      have hx : a.nodes[i]? = some x := by rw [gE hil, hxe]
      have hy : b.nodes[i]? = some y := by rw [gE hil2, hye]
      have htl : x.to.length ≤ 1000000 := HLT.out x (by rw [← hxe]; exact mM hil)
      obtain ⟨b1, o, A, c, rfl, hbb, c0, c1, c2, c3, hs1⟩ := rd_at (H1.out.below hbWr (by omega)) hlt hx
      obtain ⟨b', o', A', c', rfl, hbb', d0, d1, d2, d3, hs2⟩ := rd_at (H2.out.below hbWr (by omega)) hlt hy
      have wi : IntKind.i64.wrap ((i : Int) + 1) = i + 1 := by rw [wI]; omega
      have HXY := dh (And.intro hx hy)
      have HS1 := dh hs1
      have HS2 := dh hs2
      have hbl : b1 < wr.1.size := by omega
      have hbl' : b' < wr.1.size := by omega
      have hwl : w.1.size < wr.1.size := by omega
      have hwl' : w.1.size + 1 < wr.1.size := by omega
      clear hxe hye hx hy hs1 hs2
      go_wp2_with fail
      go_cut [6, 7] (fun p q wF => TwoN2 wr x y (A, c) (A', c') p q wF)
      case first =>
       refine wp_region_held_drew (S := fun w' => w'.cell? ⟨w.1.size, 2, none⟩ = some (.slice (some ⟨b1, o, none⟩) nn cn) ∧ w'.cell? ⟨w.1.size + 1, 2, none⟩ = some (.slice (some ⟨b', o', none⟩) nn dn) ∧ w'.cell? ⟨b1, o + i * 4, none⟩ = some (.int .u64 (x.need : Int)) ∧ w'.cell? ⟨b1, o + i * 4 + 1, none⟩ = some (.int .u64 (x.ban : Int)) ∧ w'.cell? ⟨b1, o + i * 4 + 2, none⟩ = some (.int .u64 (x.inn : Int)) ∧ w'.cell? ⟨b1, o + i * 4 + 3, none⟩ = some (.slice A x.to.length c) ∧ w'.cell? ⟨b', o' + i * 4, none⟩ = some (.int .u64 (y.need : Int)) ∧ w'.cell? ⟨b', o' + i * 4 + 1, none⟩ = some (.int .u64 (y.ban : Int)) ∧ w'.cell? ⟨b', o' + i * 4 + 2, none⟩ = some (.int .u64 (y.inn : Int)) ∧ w'.cell? ⟨b', o' + i * 4 + 3, none⟩ = some (.slice A' y.to.length c')) (by kernel_rfl) ⟨p2, q2, c0, c1, c2, c3, d0, d1, d2, d3⟩ (fun hS => ?_)
       refine tkH 0 ?_
       refine tkH 1 ?_
       refine tkH 2 ?_
       refine tkH 3 ?_
       refine tkH 4 ?_
       refine tkH 5 ?_
       refine tkH 6 ?_
       refine tkH 7 ?_
       refine tkH 8 ?_
       refine tkH 9 ?_
       refine wpAnyH_ready (rs := [10, 11]) (by kernel_rfl) (by simp) ?_
       refine (allReadyH_consD (i := 10) rfl (fun K hK => ?_) (allReadyH_consD (i := 11) rfl (fun K hK => ?_) AllReadyH.nil))
       ·skip
        go_simp
        obtain ⟨V1, hw1⟩ := xR (wr.alloc (.cells #[.int .u64 0, .int .u64 0, .int .u64 0, .slice none 0 0] 36)).drew
        have hv1 : Below wr.1.size wr V1 := by rw [hw1]; exact (bR.alloc lR _).drew
        have hn1 : V1.1[wr.1.size]? = some (.cells #[.int .u64 0, .int .u64 0, .int .u64 0, .slice none 0 0] 36 (0, 0)) := by rw [hw1]; exact heap_alloc_new _ _
        have zz1 : V1.1.size = wr.1.size + 1 := by rw [hw1]; show (wr.alloc _).1.size = _; simp
        rw [← hw1]
        clear hw1
        refine hK.out _ _ ⟨bC hv1 hwl p2, bC hv1 hwl' q2, bC hv1 hbl c0, bC hv1 hbl c1, bC hv1 hbl c2, bC hv1 hbl c3, bC hv1 hbl' d0, bC hv1 hbl' d1, bC hv1 hbl' d2, bC hv1 hbl' d3⟩ (fun hS => ?_)
        clear hK
        refine oneH 11 (fun K hK => ?_)
        go_simp
        obtain ⟨V2, hw2⟩ := xR (V1.alloc (.cells #[.int .u64 0, .int .u64 0, .int .u64 0, .slice none 0 0] 36))
        have hq2 : Below V1.1.size V1 V2 := by rw [hw2]; exact bR.alloc lR _
        have hv2 : Below wr.1.size wr V2 := hv1.trans (hq2.mono hv1.size)
        have hn2 : V2.1[V1.1.size]? = some (.cells #[.int .u64 0, .int .u64 0, .int .u64 0, .slice none 0 0] 36 (0, 0)) := by rw [hw2]; exact heap_alloc_new _ _
        have hn1_2 := (hq2.block _ (heap_lt hn1)).trans hn1
        rw [← hw2]
        clear hw2
        rw [zz1] at hn2
        refine hK.out _ _ ⟨bC hv2 hwl p2, bC hv2 hwl' q2, bC hv2 hbl c0, bC hv2 hbl c1, bC hv2 hbl c2, bC hv2 hbl c3, bC hv2 hbl' d0, bC hv2 hbl' d1, bC hv2 hbl' d2, bC hv2 hbl' d3⟩ (fun hS => ?_)
        clear hK
        refine oneH 12 (fun K hK => ?_)
        obtain ⟨f3_0, f3_1, f3_2, f3_3⟩ := box4A hn1_2
        have ff3_0 := frozen_of_row _ _ 0 _ _ hn1_2
        have ff3_1 := frozen_of_row _ _ 1 _ _ hn1_2
        have ff3_2 := frozen_of_row _ _ 2 _ _ hn1_2
        have ff3_3 := frozen_of_row _ _ 3 _ _ hn1_2
        go_simp
        obtain ⟨V3, hw3⟩ := xR ((((V2.setCell ⟨wr.1.size, 0, none⟩ (.int .u64 (x.need : Int))).setCell ⟨wr.1.size, 1, none⟩ (.int .u64 (x.ban : Int))).setCell ⟨wr.1.size, 2, none⟩ (.int .u64 (x.inn : Int))).setCell ⟨wr.1.size, 3, none⟩ (.slice A x.to.length c))
        have hs3 : V3.1[wr.1.size]? = some (.cells #[.int .u64 (x.need : Int), .int .u64 (x.ban : Int), .int .u64 (x.inn : Int), .slice A x.to.length c] 36 (0, 0)) := by rw [hw3]; exact set4A hn1_2 rfl
        have ht3 : Tch (fun k => k = wr.1.size) V2 V3 := by rw [hw3]; exact tch4A _ _ _ _ _ _
        rw [← hw3]
        clear hw3 f3_0 f3_1 f3_2 f3_3 ff3_0 ff3_1 ff3_2 ff3_3
        have hv3 : Below wr.1.size wr V3 := hv2.trans (ht3.below hv2.size (fun k hk e => by omega))
        have hn2_3 := ht3.blk hn2 (show ¬ (wr.1.size + 1) = wr.1.size by omega)
        refine hK.out _ _ ⟨bC hv3 hwl p2, bC hv3 hwl' q2, bC hv3 hbl c0, bC hv3 hbl c1, bC hv3 hbl c2, bC hv3 hbl c3, bC hv3 hbl' d0, bC hv3 hbl' d1, bC hv3 hbl' d2, bC hv3 hbl' d3⟩ (fun hS => ?_)
        clear hK
        refine oneH 13 (fun K hK => ?_)
        obtain ⟨f4_0, f4_1, f4_2, f4_3⟩ := box4A hn2_3
        have ff4_0 := frozen_of_row _ _ 0 _ _ hn2_3
        have ff4_1 := frozen_of_row _ _ 1 _ _ hn2_3
        have ff4_2 := frozen_of_row _ _ 2 _ _ hn2_3
        have ff4_3 := frozen_of_row _ _ 3 _ _ hn2_3
        go_simp
        obtain ⟨V4, hw4⟩ := xR ((((V3.setCell ⟨(wr.1.size + 1), 0, none⟩ (.int .u64 (y.need : Int))).setCell ⟨(wr.1.size + 1), 1, none⟩ (.int .u64 (y.ban : Int))).setCell ⟨(wr.1.size + 1), 2, none⟩ (.int .u64 (y.inn : Int))).setCell ⟨(wr.1.size + 1), 3, none⟩ (.slice A' y.to.length c'))
        have hs4 : V4.1[(wr.1.size + 1)]? = some (.cells #[.int .u64 (y.need : Int), .int .u64 (y.ban : Int), .int .u64 (y.inn : Int), .slice A' y.to.length c'] 36 (0, 0)) := by rw [hw4]; exact set4A hn2_3 rfl
        have ht4 : Tch (fun k => k = (wr.1.size + 1)) V3 V4 := by rw [hw4]; exact tch4A _ _ _ _ _ _
        rw [← hw4]
        clear hw4 f4_0 f4_1 f4_2 f4_3 ff4_0 ff4_1 ff4_2 ff4_3
        have hv4 : Below wr.1.size wr V4 := hv3.trans (ht4.below hv3.size (fun k hk e => by omega))
        have hs3_4 := ht4.blk hs3 (show ¬ wr.1.size = (wr.1.size + 1) by omega)
        refine hK.out _ _ ⟨bC hv4 hwl p2, bC hv4 hwl' q2, bC hv4 hbl c0, bC hv4 hbl c1, bC hv4 hbl c2, bC hv4 hbl c3, bC hv4 hbl' d0, bC hv4 hbl' d1, bC hv4 hbl' d2, bC hv4 hbl' d3⟩ (fun hS => ?_)
        clear hK
        refine wpAnyH_done (by kernel_rfl) ?_ _
        go_wp2_with fail
        go_meet
        case rel => exact ⟨_, _, rfl, rfl, hs3_4, hs4, hv4⟩
       ·skip
        go_simp
        obtain ⟨V5, hw5⟩ := xR (wr.alloc (.cells #[.int .u64 0, .int .u64 0, .int .u64 0, .slice none 0 0] 36)).drew
        have hv5 : Below wr.1.size wr V5 := by rw [hw5]; exact (bR.alloc lR _).drew
        have hn5 : V5.1[wr.1.size]? = some (.cells #[.int .u64 0, .int .u64 0, .int .u64 0, .slice none 0 0] 36 (0, 0)) := by rw [hw5]; exact heap_alloc_new _ _
        have zz5 : V5.1.size = wr.1.size + 1 := by rw [hw5]; show (wr.alloc _).1.size = _; simp
        rw [← hw5]
        clear hw5
        refine hK.out _ _ ⟨bC hv5 hwl p2, bC hv5 hwl' q2, bC hv5 hbl c0, bC hv5 hbl c1, bC hv5 hbl c2, bC hv5 hbl c3, bC hv5 hbl' d0, bC hv5 hbl' d1, bC hv5 hbl' d2, bC hv5 hbl' d3⟩ (fun hS => ?_)
        clear hK
        refine oneH 10 (fun K hK => ?_)
        go_simp
        obtain ⟨V6, hw6⟩ := xR (V5.alloc (.cells #[.int .u64 0, .int .u64 0, .int .u64 0, .slice none 0 0] 36))
        have hq6 : Below V5.1.size V5 V6 := by rw [hw6]; exact bR.alloc lR _
        have hv6 : Below wr.1.size wr V6 := hv5.trans (hq6.mono hv5.size)
        have hn6 : V6.1[V5.1.size]? = some (.cells #[.int .u64 0, .int .u64 0, .int .u64 0, .slice none 0 0] 36 (0, 0)) := by rw [hw6]; exact heap_alloc_new _ _
        have hn5_6 := (hq6.block _ (heap_lt hn5)).trans hn5
        rw [← hw6]
        clear hw6
        rw [zz5] at hn6
        refine hK.out _ _ ⟨bC hv6 hwl p2, bC hv6 hwl' q2, bC hv6 hbl c0, bC hv6 hbl c1, bC hv6 hbl c2, bC hv6 hbl c3, bC hv6 hbl' d0, bC hv6 hbl' d1, bC hv6 hbl' d2, bC hv6 hbl' d3⟩ (fun hS => ?_)
        clear hK
        refine oneH 12 (fun K hK => ?_)
        obtain ⟨f7_0, f7_1, f7_2, f7_3⟩ := box4A hn6
        have ff7_0 := frozen_of_row _ _ 0 _ _ hn6
        have ff7_1 := frozen_of_row _ _ 1 _ _ hn6
        have ff7_2 := frozen_of_row _ _ 2 _ _ hn6
        have ff7_3 := frozen_of_row _ _ 3 _ _ hn6
        go_simp
        obtain ⟨V7, hw7⟩ := xR ((((V6.setCell ⟨(wr.1.size + 1), 0, none⟩ (.int .u64 (x.need : Int))).setCell ⟨(wr.1.size + 1), 1, none⟩ (.int .u64 (x.ban : Int))).setCell ⟨(wr.1.size + 1), 2, none⟩ (.int .u64 (x.inn : Int))).setCell ⟨(wr.1.size + 1), 3, none⟩ (.slice A x.to.length c))
        have hs7 : V7.1[(wr.1.size + 1)]? = some (.cells #[.int .u64 (x.need : Int), .int .u64 (x.ban : Int), .int .u64 (x.inn : Int), .slice A x.to.length c] 36 (0, 0)) := by rw [hw7]; exact set4A hn6 rfl
        have ht7 : Tch (fun k => k = (wr.1.size + 1)) V6 V7 := by rw [hw7]; exact tch4A _ _ _ _ _ _
        rw [← hw7]
        clear hw7 f7_0 f7_1 f7_2 f7_3 ff7_0 ff7_1 ff7_2 ff7_3
        have hv7 : Below wr.1.size wr V7 := hv6.trans (ht7.below hv6.size (fun k hk e => by omega))
        have hn5_6_7 := ht7.blk hn5_6 (show ¬ wr.1.size = (wr.1.size + 1) by omega)
        refine hK.out _ _ ⟨bC hv7 hwl p2, bC hv7 hwl' q2, bC hv7 hbl c0, bC hv7 hbl c1, bC hv7 hbl c2, bC hv7 hbl c3, bC hv7 hbl' d0, bC hv7 hbl' d1, bC hv7 hbl' d2, bC hv7 hbl' d3⟩ (fun hS => ?_)
        clear hK
        refine oneH 13 (fun K hK => ?_)
        obtain ⟨f8_0, f8_1, f8_2, f8_3⟩ := box4A hn5_6_7
        have ff8_0 := frozen_of_row _ _ 0 _ _ hn5_6_7
        have ff8_1 := frozen_of_row _ _ 1 _ _ hn5_6_7
        have ff8_2 := frozen_of_row _ _ 2 _ _ hn5_6_7
        have ff8_3 := frozen_of_row _ _ 3 _ _ hn5_6_7
        go_simp
        obtain ⟨V8, hw8⟩ := xR ((((V7.setCell ⟨wr.1.size, 0, none⟩ (.int .u64 (y.need : Int))).setCell ⟨wr.1.size, 1, none⟩ (.int .u64 (y.ban : Int))).setCell ⟨wr.1.size, 2, none⟩ (.int .u64 (y.inn : Int))).setCell ⟨wr.1.size, 3, none⟩ (.slice A' y.to.length c'))
        have hs8 : V8.1[wr.1.size]? = some (.cells #[.int .u64 (y.need : Int), .int .u64 (y.ban : Int), .int .u64 (y.inn : Int), .slice A' y.to.length c'] 36 (0, 0)) := by rw [hw8]; exact set4A hn5_6_7 rfl
        have ht8 : Tch (fun k => k = wr.1.size) V7 V8 := by rw [hw8]; exact tch4A _ _ _ _ _ _
        rw [← hw8]
        clear hw8 f8_0 f8_1 f8_2 f8_3 ff8_0 ff8_1 ff8_2 ff8_3
        have hv8 : Below wr.1.size wr V8 := hv7.trans (ht8.below hv7.size (fun k hk e => by omega))
        have hs7_8 := ht8.blk hs7 (show ¬ (wr.1.size + 1) = wr.1.size by omega)
        refine hK.out _ _ ⟨bC hv8 hwl p2, bC hv8 hwl' q2, bC hv8 hbl c0, bC hv8 hbl c1, bC hv8 hbl c2, bC hv8 hbl c3, bC hv8 hbl' d0, bC hv8 hbl' d1, bC hv8 hbl' d2, bC hv8 hbl' d3⟩ (fun hS => ?_)
        clear hK
        refine wpAnyH_done (by kernel_rfl) ?_ _
        go_wp2_with fail
        go_meet
        case rel => exact ⟨_, _, rfl, rfl, hs7_8, hs8, hv8⟩
      case rest =>
       obtain ⟨g, h, rfl, rfl, hg, hh, hbc⟩ := hcut
       obtain ⟨r0, r1, r2, r3⟩ := box4A hg
       obtain ⟨s0, s1, s2, s3⟩ := box4A hh
       have HT := dh ((eqI30_any A A' x.to.length c y.to.length c' x.to y.to wc B B (HS1.out.below hbc (by omega)) (HS2.out.below hbc (by omega)) rfl rfl (by omega)).mono (fun _ _ h => said_truA h))
       have HBC := dh hbc
       have HFC := dh (hfin.trans (hbc.mono (by omega)))
       clear hg hh c0 c1 c2 c3 d0 d1 d2 d3
       have HNO : x ≠ y → Hid (decide (a = b) = false) := fun hn => dh (aut_ne3 (fun e => by
        obtain ⟨hx, hy⟩ := HXY.out
        rw [e, hy] at hx
        exact hn (Option.some.inj hx).symm))
       by_cases e1 : x.need = y.need
       ·by_cases e2 : x.ban = y.ban
        ·by_cases e3 : x.inn = y.inn
         ·rw [e1] at r0
          rw [e2] at r1
          rw [e3] at r2
          have E1 := dh e1
          have E5 := dh e2
          have E6 := dh e3
          clear e1 e2 e3
          go_wp2_with fail
          refine Calls.mono HT.out ?_
          by_cases e4 : x.to = y.to
          ·have hxy : x = y := by
            have e1 := E1.out
            have e2 := E5.out
            have e3 := E6.out
            obtain ⟨xn, xb, xi, xt⟩ := x
            obtain ⟨yn, yb, yi, yt⟩ := y
            simp only at e1 e2 e3 e4
            rw [e1, e2, e3, e4]
           have HQ2 : Hid (a.nodes.take (i + 1) = b.nodes.take (i + 1)) := dh (by
            obtain ⟨hx, hy⟩ := HXY.out
            rw [List.take_add_one, List.take_add_one, HQ.out, hx, hy, hxy])
           rw [decide_eq_true e4]
           rintro e w6 ⟨rfl, hb6⟩
           clear hxy e4 HNO
           go_wp2_with fail
           go_roundw
           case rel => exact ⟨i + 1, by omega, by go_num, (hbr.trans (HBC.out.mono (by omega))).trans (hb6.mono (by have := HBC.out.size; omega)), HQ2⟩
           case measure => simp [intOf]; omega
          ·have HD := HNO (fun h => e4 (by rw [h]))
           rw [decide_eq_false e4]
           rintro e w6 ⟨rfl, hb6⟩
           have HB6 := dh (HFC.out.trans (hb6.mono (by have := HBC.out.size; omega)))
           clear e4 HNO hb6
           go_wp2_with fail
           go_ret
           exact ⟨ret_bool HD.out.symm, HB6.out⟩
         ·have HD := HNO (fun h => e3 (by rw [h]))
          have d3 : (((x.inn : Nat) : Int) == ((y.inn : Nat) : Int)) = false := by simp; omega
          have d3' : (((x.inn : Nat) : Int) != ((y.inn : Nat) : Int)) = true := by simp; omega
          have d3'' : (x.inn == y.inn) = false := by simp; omega
          have d33 : (x.inn != y.inn) = true := by simp; omega
          rw [e1] at r0
          rw [e2] at r1
          clear HNO e1 e2 e3
          go_wp2_with fail
          go_ret
          exact ⟨ret_bool HD.out.symm, HFC.out⟩
        ·have HD := HNO (fun h => e2 (by rw [h]))
         have d2 : (((x.ban : Nat) : Int) == ((y.ban : Nat) : Int)) = false := by simp; omega
         have d2' : (((x.ban : Nat) : Int) != ((y.ban : Nat) : Int)) = true := by simp; omega
         have d2'' : (x.ban == y.ban) = false := by simp; omega
         have d23 : (x.ban != y.ban) = true := by simp; omega
         rw [e1] at r0
         clear HNO e1 e2
         go_wp2_with fail
         go_ret
         exact ⟨ret_bool HD.out.symm, HFC.out⟩
       ·have HD := HNO (fun h => e1 (by rw [h]))
        have d1 : (((x.need : Nat) : Int) == ((y.need : Nat) : Int)) = false := by simp; omega
        have d1' : (((x.need : Nat) : Int) != ((y.need : Nat) : Int)) = true := by simp; omega
        have d1'' : (x.need == y.need) = false := by simp; omega
        have d13 : (x.need != y.need) = true := by simp; omega
        clear HNO e1
        go_wp2_with fail
        go_ret
        exact ⟨ret_bool HD.out.symm, HFC.out⟩
     ·have hin : i = nn := by omega
      have HD := dh (aut_eq3 (a := a) (b := b) (by rw [HS.out, HS2'.out]) HIE.out (by have := HQ.out; rw [hin] at this; rw [E2.out, List.take_length] at this; rw [this, ← E2.out, E4.out, List.take_length]))
      have HFC := dh hfin
      clear hin
      go_wp2_with fail
      go_ret
      exact ⟨ret_bool HD.out.symm, HFC.out⟩
end Go.Proofs.YtiebpncpdbnelaaGreatDoor
