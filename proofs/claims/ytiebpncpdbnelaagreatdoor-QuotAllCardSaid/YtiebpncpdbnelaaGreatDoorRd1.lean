/- The walks of layer 32's reference: bits, can. -/
import Derived.Test.YtiebpncpdbnelaaGreatDoorZbs
set_option maxHeartbeats 8000000
set_option maxRecDepth 100000
namespace Go.Proofs.YtiebpncpdbnelaaGreatDoor
open Go.RowKit
def canD (a : Aut) (R : List (List Bool)) (i k : Nat) : Bool := aloneB (a.at i) (a.at k) a.sets.toNat && (a.at i).to.all (fun t => (a.at k).to.any (fun u => relL R t.toNat u.toNat))
theorem bits32_any (s : Nat) (w : World) (hs : s ≤ 16) : Calls Tryz.prog 81 #[.int .i64 (s : Int)] w (fun en w' => en = .returned (.int .u64 ((allB s : Nat) : Int)) ∧ w' = w) := by
 have p1 := wrap_pow (show s < 64 by omega)
 obtain ⟨p, hp⟩ := xQ (2 ^ s)
 have hp0 : 0 < p := by rw [← hp]; exact Nat.pow_pos (by omega)
 have hp1 : p < 2 ^ 64 := by rw [← hp]; exact pow_lt64 (by omega)
 rw [hp] at p1
 have p2 : IntKind.u64.wrap ((p : Int) - 1) = ((allB s : Nat) : Int) := by rw [IntKind.wrap_u64, allB, hp]; omega
 have hs0 : ¬ (s : Int) < 0 := by omega
 have hs1 : (0 : Int) ≤ (s : Int) := by omega
 have hs2 : ¬ (64 : Int) ≤ (s : Int) := by omega
 have hw : IntKind.u64.wrap (s : Int) = (s : Int) := by rw [IntKind.wrap_u64]; omega
 have hsh : Op.shift .shl .u64 1 .u64 (s : Int) = pure (.int .u64 (p : Int)) := by
  rw [shift_shl .u64 .u64 1 _ (by omega) (by show (s : Int) ≤ 64; omega), tN, Int.one_mul, p1]
 clear hp hp0 hp1
 generalize allB s = al at *
 go_enter Tryz.func81, Tryz.ntmps81
 go_wp2_with fail
 go_ret
 exact ⟨rfl, rfl⟩
theorem can32_any (a : Aut) (Ai : Option Addr) (ni ci : Nat) (An : Option Addr) (nn cn : Nat) (w : World) (B : Nat) (h : AutRd w B a Ai ni ci An nn cn) (hB : B ≤ w.1.size) (hA : a.Ok) (hs0 : 0 ≤ a.sets) (hs1 : a.sets ≤ 16) (hnd : ∀ x ∈ a.nodes, x.need < 2 ^ 64 ∧ x.ban < 2 ^ 64 ∧ x.inn < 2 ^ 64) (Ar : Option Addr) (cr : Nat) (R : List (List Bool)) (hR : Sl2 w B 1 Ar nn cr (R.map bcells)) (hRn : R.length = nn) (hq : ∀ r ∈ R, r.length = R.length) (i k : Nat) (hi : i < nn) (hk : k < nn) (hto : ∀ x ∈ a.nodes, x.to.length ≤ 1000000) :
  Calls Tryz.prog 62 #[.agg #[.int .i64 a.sets, .slice Ai ni ci, .slice An nn cn], .slice Ar nn cr, .int .i64 (i : Int), .int .i64 (k : Int)] w (Tru w (canD a R i k)) := by
 have hb0 : Below w.1.size w (w.alloc (.cells #[.int .i64 a.sets, .slice Ai ni ci, .slice An nn cn] 25)) := bR.alloc lR _
 have x0 := heap_alloc_new w (.cells #[.int .i64 a.sets, .slice Ai ni ci, .slice An nn cn] 25)
 have z0 : (w.alloc (.cells #[.int .i64 a.sets, .slice Ai ni ci, .slice An nn cn] 25)).1.size = w.1.size + 1 := by simp
 obtain ⟨wr, hW0⟩ := xQ (w.alloc (.cells #[.int .i64 a.sets, .slice Ai ni ci, .slice An nn cn] 25))
 rw [hW0] at hb0 x0 z0
 have hwl : w.1.size < wr.1.size := by omega
 have hBr : B ≤ wr.1.size := by omega
 obtain ⟨p0, p1, p2⟩ := box3A x0
 have HSZ : Hid (wr.cell? ⟨w.1.size, 0, none⟩ = some (.int .i64 a.sets)) := dh p0
 have hrd := h.below hb0 hB
 obtain ⟨b, o, x, A, c, hAn, hbb, hx, c0, c1, c2, c3, hst⟩ := rd_aut hrd hi
 obtain ⟨b2, o2, y, A', c', hA2, -, hy, d0, d1, d2, d3, hst'⟩ := rd_aut hrd hk
 rw [hAn] at hA2
 cases hA2
 have hxi : a.at i = x := by unfold Aut.at; rw [gD, hx]; rfl
 have hyi : a.at k = y := by unfold Aut.at; rw [gD, hy]; rfl
 have hxm := List.mem_of_getElem? hx
 have hym := List.mem_of_getElem? hy
 have hxt := hto x hxm
 have hyt := hto y hym
 have hnx := hnd x hxm
 have hny := hnd y hym
 have HNN := dh h.enn
 have HOX := dh (fun t ht => hA.2 x hxm t ht)
 have HOY := dh (fun t ht => hA.2 y hym t ht)
 have HRR := dh (hR.below hb0 hB)
 have HRN := dh hRn
 have HQ := dh hq
 have HST := dh hst
 have HST' := dh hst'
 have HW0 := dh hW0
 have HB0 := dh hb0
 have hcn := (Exists.choose_spec hrd.nodes).1.cap
 have hmn := (Exists.choose_spec hrd.nodes).1.max
 unfold maxLen at hmn
 have hbl : b < wr.1.size := by omega
 have i0 : (0 : Int) ≤ (i : Int) := by omega
 have i1 : (i : Int) < (nn : Int) := by omega
 have j0 : (0 : Int) ≤ (k : Int) := by omega
 have j1 : (k : Int) < (nn : Int) := by omega
 obtain ⟨s, hse⟩ : ∃ s : Nat, a.sets = (s : Int) := ⟨a.sets.toNat, by omega⟩
 have hs : s ≤ 16 := by omega
 have al1 : allB s < 2 ^ 64 := by have := pow_lt64 (show s < 64 by omega); unfold allB; omega
 obtain ⟨al, hal⟩ := xQ (allB s)
 have HBT : Hid (∀ W, Calls Tryz.prog 81 #[.int .i64 a.sets] W (fun en w' => en = .returned (.int .u64 (al : Int)) ∧ w' = W)) := dh (fun W => by have := bits32_any s W hs; rwa [hal, ← hse] at this)
 rw [hal] at al1
 have g1 := and_bit7 hny.1 hnx.1
 have g2 := and_bit7 hny.2.1 hnx.2.1
 have g3 := and_bit7 hnx.2.2 hny.2.2
 have g4 := and_bit7 (show x.inn &&& y.inn < 2 ^ 64 from Nat.lt_of_le_of_lt Nat.and_le_left hnx.2.2) al1
 have g5 := and_bit7 hnx.2.2 al1
 obtain ⟨v1, hv1⟩ := xQ (((y.need &&& x.need : Nat) : Int) != (y.need : Int))
 obtain ⟨v2, hv2⟩ := xQ (((y.ban &&& x.ban : Nat) : Int) != (y.ban : Int))
 obtain ⟨v3, hv3⟩ := xQ (((x.inn &&& y.inn &&& al : Nat) : Int) != ((x.inn &&& al : Nat) : Int))
 have nn_dec : ∀ p q : Nat, decide (p = q) = !((p : Int) != (q : Int)) := fun p q => by
  rw [Bool.eq_iff_iff]
  simp only [decide_eq_true_eq, Bool.not_eq_true', bne_eq_false_iff_eq]
  omega
 have HR : Hid (canD a R i k = (!v1 && !v2 && !v3 && x.to.all (fun t => y.to.any (fun u => relL R t.toNat u.toNat)))) := dh (by
  unfold canD aloneB
  rw [hxi, hyi, hse, tN, hal, nn_dec, nn_dec, nn_dec, hv1, hv2, hv3])
 have HSE := dh hse
 clear hW0 hb0 x0 z0 h hrd hx hy hst hst' hxi hyi hxm hym hnx hny hnd hto hA hR hRn hq nn_dec hs0 hs1 hse hs hal al1 hBr p0 p1
 generalize y.need &&& x.need = n1 at *
 generalize y.ban &&& x.ban = n2 at *
 generalize x.inn &&& y.inn &&& al = n5 at *
 generalize x.inn &&& y.inn = n3 at *
 generalize x.inn &&& al = n4 at *
 subst hAn
 go_enter Tryz.func62, Tryz.ntmps62
 go_upto_region 1 with fail
 rw [HW0.out]
 go_cut [9, 10] (fun p q wF => TwoN2 wr x y (A, c) (A', c') p q wF)
 case first =>
  refine wp_region_held_drew (S := fun w' => w'.cell? ⟨w.1.size, 2, none⟩ = some (.slice (some ⟨b, o, none⟩) nn cn) ∧ w'.cell? ⟨b, o + i * 4, none⟩ = some (.int .u64 (x.need : Int)) ∧ w'.cell? ⟨b, o + i * 4 + 1, none⟩ = some (.int .u64 (x.ban : Int)) ∧ w'.cell? ⟨b, o + i * 4 + 2, none⟩ = some (.int .u64 (x.inn : Int)) ∧ w'.cell? ⟨b, o + i * 4 + 3, none⟩ = some (.slice A x.to.length c) ∧ w'.cell? ⟨b, o + k * 4, none⟩ = some (.int .u64 (y.need : Int)) ∧ w'.cell? ⟨b, o + k * 4 + 1, none⟩ = some (.int .u64 (y.ban : Int)) ∧ w'.cell? ⟨b, o + k * 4 + 2, none⟩ = some (.int .u64 (y.inn : Int)) ∧ w'.cell? ⟨b, o + k * 4 + 3, none⟩ = some (.slice A' y.to.length c')) (by kernel_rfl) ⟨p2, c0, c1, c2, c3, d0, d1, d2, d3⟩ (fun hS => ?_)
  refine tkH 0 ?_
  refine tkH 1 ?_
  refine tkH 2 ?_
  refine tkH 3 ?_
  refine tkH 4 ?_
  refine tkH 5 ?_
  refine tkH 6 ?_
  refine tkH 7 ?_
  refine tkH 8 ?_
  refine tkH 9 ?_
  refine wpAnyH_ready (rs := [10, 11]) (by kernel_rfl) (by simp) ?_
  refine (allReadyH_consD (i := 10) rfl (fun K hK => ?_) (allReadyH_consD (i := 11) rfl (fun K hK => ?_) AllReadyH.nil))
  ·skip
   go_simp
   obtain ⟨V1, hw1⟩ := xR (wr.alloc (.cells #[.int .u64 0, .int .u64 0, .int .u64 0, .slice none 0 0] 36)).drew
   have hv1 : Below wr.1.size wr V1 := by rw [hw1]; exact (bR.alloc lR _).drew
   have hn1 : V1.1[wr.1.size]? = some (.cells #[.int .u64 0, .int .u64 0, .int .u64 0, .slice none 0 0] 36 (0, 0)) := by rw [hw1]; exact heap_alloc_new _ _
   have zz1 : V1.1.size = wr.1.size + 1 := by rw [hw1]; show (wr.alloc _).1.size = _; simp
   rw [← hw1]
   clear hw1
   refine hK.out _ _ ⟨bC hv1 hwl p2, bC hv1 hbl c0, bC hv1 hbl c1, bC hv1 hbl c2, bC hv1 hbl c3, bC hv1 hbl d0, bC hv1 hbl d1, bC hv1 hbl d2, bC hv1 hbl d3⟩ (fun hS => ?_)
   clear hK
   refine oneH 11 (fun K hK => ?_)
   go_simp
   obtain ⟨V2, hw2⟩ := xR (V1.alloc (.cells #[.int .u64 0, .int .u64 0, .int .u64 0, .slice none 0 0] 36))
   have hq2 : Below V1.1.size V1 V2 := by rw [hw2]; exact bR.alloc lR _
   have hv2 : Below wr.1.size wr V2 := hv1.trans (hq2.mono hv1.size)
   have hn2 : V2.1[V1.1.size]? = some (.cells #[.int .u64 0, .int .u64 0, .int .u64 0, .slice none 0 0] 36 (0, 0)) := by rw [hw2]; exact heap_alloc_new _ _
   have hn1_2 := (hq2.block _ (heap_lt hn1)).trans hn1
   rw [← hw2]
   clear hw2
   rw [zz1] at hn2
   refine hK.out _ _ ⟨bC hv2 hwl p2, bC hv2 hbl c0, bC hv2 hbl c1, bC hv2 hbl c2, bC hv2 hbl c3, bC hv2 hbl d0, bC hv2 hbl d1, bC hv2 hbl d2, bC hv2 hbl d3⟩ (fun hS => ?_)
   clear hK
   refine oneH 12 (fun K hK => ?_)
   obtain ⟨f3_0, f3_1, f3_2, f3_3⟩ := box4A hn1_2
   have ff3_0 := frozen_of_row _ _ 0 _ _ hn1_2
   have ff3_1 := frozen_of_row _ _ 1 _ _ hn1_2
   have ff3_2 := frozen_of_row _ _ 2 _ _ hn1_2
   have ff3_3 := frozen_of_row _ _ 3 _ _ hn1_2
   go_simp
   obtain ⟨V3, hw3⟩ := xR ((((V2.setCell ⟨wr.1.size, 0, none⟩ (.int .u64 (x.need : Int))).setCell ⟨wr.1.size, 1, none⟩ (.int .u64 (x.ban : Int))).setCell ⟨wr.1.size, 2, none⟩ (.int .u64 (x.inn : Int))).setCell ⟨wr.1.size, 3, none⟩ (.slice A x.to.length c))
   have hs3 : V3.1[wr.1.size]? = some (.cells #[.int .u64 (x.need : Int), .int .u64 (x.ban : Int), .int .u64 (x.inn : Int), .slice A x.to.length c] 36 (0, 0)) := by rw [hw3]; exact set4A hn1_2 rfl
   have ht3 : Tch (fun k => k = wr.1.size) V2 V3 := by rw [hw3]; exact tch4A _ _ _ _ _ _
   rw [← hw3]
   clear hw3 f3_0 f3_1 f3_2 f3_3 ff3_0 ff3_1 ff3_2 ff3_3
   have hv3 : Below wr.1.size wr V3 := hv2.trans (ht3.below hv2.size (fun k hk e => by omega))
   have hn2_3 := ht3.blk hn2 (show ¬ (wr.1.size + 1) = wr.1.size by omega)
   refine hK.out _ _ ⟨bC hv3 hwl p2, bC hv3 hbl c0, bC hv3 hbl c1, bC hv3 hbl c2, bC hv3 hbl c3, bC hv3 hbl d0, bC hv3 hbl d1, bC hv3 hbl d2, bC hv3 hbl d3⟩ (fun hS => ?_)
   clear hK
   refine oneH 13 (fun K hK => ?_)
   obtain ⟨f4_0, f4_1, f4_2, f4_3⟩ := box4A hn2_3
   have ff4_0 := frozen_of_row _ _ 0 _ _ hn2_3
   have ff4_1 := frozen_of_row _ _ 1 _ _ hn2_3
   have ff4_2 := frozen_of_row _ _ 2 _ _ hn2_3
   have ff4_3 := frozen_of_row _ _ 3 _ _ hn2_3
   go_simp
   obtain ⟨V4, hw4⟩ := xR ((((V3.setCell ⟨(wr.1.size + 1), 0, none⟩ (.int .u64 (y.need : Int))).setCell ⟨(wr.1.size + 1), 1, none⟩ (.int .u64 (y.ban : Int))).setCell ⟨(wr.1.size + 1), 2, none⟩ (.int .u64 (y.inn : Int))).setCell ⟨(wr.1.size + 1), 3, none⟩ (.slice A' y.to.length c'))
   have hs4 : V4.1[(wr.1.size + 1)]? = some (.cells #[.int .u64 (y.need : Int), .int .u64 (y.ban : Int), .int .u64 (y.inn : Int), .slice A' y.to.length c'] 36 (0, 0)) := by rw [hw4]; exact set4A hn2_3 rfl
   have ht4 : Tch (fun k => k = (wr.1.size + 1)) V3 V4 := by rw [hw4]; exact tch4A _ _ _ _ _ _
   rw [← hw4]
   clear hw4 f4_0 f4_1 f4_2 f4_3 ff4_0 ff4_1 ff4_2 ff4_3
   have hv4 : Below wr.1.size wr V4 := hv3.trans (ht4.below hv3.size (fun k hk e => by omega))
   have hs3_4 := ht4.blk hs3 (show ¬ wr.1.size = (wr.1.size + 1) by omega)
   refine hK.out _ _ ⟨bC hv4 hwl p2, bC hv4 hbl c0, bC hv4 hbl c1, bC hv4 hbl c2, bC hv4 hbl c3, bC hv4 hbl d0, bC hv4 hbl d1, bC hv4 hbl d2, bC hv4 hbl d3⟩ (fun hS => ?_)
   clear hK
   refine wpAnyH_done (by kernel_rfl) ?_ _
   go_wp2_with fail
   go_meet
   case rel => exact ⟨_, _, rfl, rfl, hs3_4, hs4, hv4⟩
  ·skip
   go_simp
   obtain ⟨V5, hw5⟩ := xR (wr.alloc (.cells #[.int .u64 0, .int .u64 0, .int .u64 0, .slice none 0 0] 36)).drew
   have hv5 : Below wr.1.size wr V5 := by rw [hw5]; exact (bR.alloc lR _).drew
   have hn5 : V5.1[wr.1.size]? = some (.cells #[.int .u64 0, .int .u64 0, .int .u64 0, .slice none 0 0] 36 (0, 0)) := by rw [hw5]; exact heap_alloc_new _ _
   have zz5 : V5.1.size = wr.1.size + 1 := by rw [hw5]; show (wr.alloc _).1.size = _; simp
   rw [← hw5]
   clear hw5
   refine hK.out _ _ ⟨bC hv5 hwl p2, bC hv5 hbl c0, bC hv5 hbl c1, bC hv5 hbl c2, bC hv5 hbl c3, bC hv5 hbl d0, bC hv5 hbl d1, bC hv5 hbl d2, bC hv5 hbl d3⟩ (fun hS => ?_)
   clear hK
   refine oneH 10 (fun K hK => ?_)
   go_simp
   obtain ⟨V6, hw6⟩ := xR (V5.alloc (.cells #[.int .u64 0, .int .u64 0, .int .u64 0, .slice none 0 0] 36))
   have hq6 : Below V5.1.size V5 V6 := by rw [hw6]; exact bR.alloc lR _
   have hv6 : Below wr.1.size wr V6 := hv5.trans (hq6.mono hv5.size)
   have hn6 : V6.1[V5.1.size]? = some (.cells #[.int .u64 0, .int .u64 0, .int .u64 0, .slice none 0 0] 36 (0, 0)) := by rw [hw6]; exact heap_alloc_new _ _
   have hn5_6 := (hq6.block _ (heap_lt hn5)).trans hn5
   rw [← hw6]
   clear hw6
   rw [zz5] at hn6
   refine hK.out _ _ ⟨bC hv6 hwl p2, bC hv6 hbl c0, bC hv6 hbl c1, bC hv6 hbl c2, bC hv6 hbl c3, bC hv6 hbl d0, bC hv6 hbl d1, bC hv6 hbl d2, bC hv6 hbl d3⟩ (fun hS => ?_)
   clear hK
   refine oneH 12 (fun K hK => ?_)
   obtain ⟨f7_0, f7_1, f7_2, f7_3⟩ := box4A hn6
   have ff7_0 := frozen_of_row _ _ 0 _ _ hn6
   have ff7_1 := frozen_of_row _ _ 1 _ _ hn6
   have ff7_2 := frozen_of_row _ _ 2 _ _ hn6
   have ff7_3 := frozen_of_row _ _ 3 _ _ hn6
   go_simp
   obtain ⟨V7, hw7⟩ := xR ((((V6.setCell ⟨(wr.1.size + 1), 0, none⟩ (.int .u64 (x.need : Int))).setCell ⟨(wr.1.size + 1), 1, none⟩ (.int .u64 (x.ban : Int))).setCell ⟨(wr.1.size + 1), 2, none⟩ (.int .u64 (x.inn : Int))).setCell ⟨(wr.1.size + 1), 3, none⟩ (.slice A x.to.length c))
   have hs7 : V7.1[(wr.1.size + 1)]? = some (.cells #[.int .u64 (x.need : Int), .int .u64 (x.ban : Int), .int .u64 (x.inn : Int), .slice A x.to.length c] 36 (0, 0)) := by rw [hw7]; exact set4A hn6 rfl
   have ht7 : Tch (fun k => k = (wr.1.size + 1)) V6 V7 := by rw [hw7]; exact tch4A _ _ _ _ _ _
   rw [← hw7]
   clear hw7 f7_0 f7_1 f7_2 f7_3 ff7_0 ff7_1 ff7_2 ff7_3
   have hv7 : Below wr.1.size wr V7 := hv6.trans (ht7.below hv6.size (fun k hk e => by omega))
   have hn5_6_7 := ht7.blk hn5_6 (show ¬ wr.1.size = (wr.1.size + 1) by omega)
   refine hK.out _ _ ⟨bC hv7 hwl p2, bC hv7 hbl c0, bC hv7 hbl c1, bC hv7 hbl c2, bC hv7 hbl c3, bC hv7 hbl d0, bC hv7 hbl d1, bC hv7 hbl d2, bC hv7 hbl d3⟩ (fun hS => ?_)
   clear hK
   refine oneH 13 (fun K hK => ?_)
   obtain ⟨f8_0, f8_1, f8_2, f8_3⟩ := box4A hn5_6_7
   have ff8_0 := frozen_of_row _ _ 0 _ _ hn5_6_7
   have ff8_1 := frozen_of_row _ _ 1 _ _ hn5_6_7
   have ff8_2 := frozen_of_row _ _ 2 _ _ hn5_6_7
   have ff8_3 := frozen_of_row _ _ 3 _ _ hn5_6_7
   go_simp
   obtain ⟨V8, hw8⟩ := xR ((((V7.setCell ⟨wr.1.size, 0, none⟩ (.int .u64 (y.need : Int))).setCell ⟨wr.1.size, 1, none⟩ (.int .u64 (y.ban : Int))).setCell ⟨wr.1.size, 2, none⟩ (.int .u64 (y.inn : Int))).setCell ⟨wr.1.size, 3, none⟩ (.slice A' y.to.length c'))
   have hs8 : V8.1[wr.1.size]? = some (.cells #[.int .u64 (y.need : Int), .int .u64 (y.ban : Int), .int .u64 (y.inn : Int), .slice A' y.to.length c'] 36 (0, 0)) := by rw [hw8]; exact set4A hn5_6_7 rfl
   have ht8 : Tch (fun k => k = wr.1.size) V7 V8 := by rw [hw8]; exact tch4A _ _ _ _ _ _
   rw [← hw8]
   clear hw8 f8_0 f8_1 f8_2 f8_3 ff8_0 ff8_1 ff8_2 ff8_3
   have hv8 : Below wr.1.size wr V8 := hv7.trans (ht8.below hv7.size (fun k hk e => by omega))
   have hs7_8 := ht8.blk hs7 (show ¬ (wr.1.size + 1) = wr.1.size by omega)
   refine hK.out _ _ ⟨bC hv8 hwl p2, bC hv8 hbl c0, bC hv8 hbl c1, bC hv8 hbl c2, bC hv8 hbl c3, bC hv8 hbl d0, bC hv8 hbl d1, bC hv8 hbl d2, bC hv8 hbl d3⟩ (fun hS => ?_)
   clear hK
   refine wpAnyH_done (by kernel_rfl) ?_ _
   go_wp2_with fail
   go_meet
   case rel => exact ⟨_, _, rfl, rfl, hs7_8, hs8, hv8⟩
 case rest =>
  obtain ⟨g, h, rfl, rfl, hg, hh, hbc⟩ := hcut
  obtain ⟨wF, hwF⟩ := xR wc
  rw [← hwF] at hg hh hbc ⊢
  clear hwF
  clear p2 c0 c1 c2 c3 d0 d1 d2 d3
  have HG := dh hg
  have HH := dh hh
  obtain ⟨u0, u1, u2, u3⟩ := box4A hg
  obtain ⟨t0, t1, t2, t3⟩ := box4A hh
  have HBC := dh hbc
  have HBF := dh (HB0.out.trans (hbc.mono (show w.1.size ≤ wr.1.size by omega)))
  have s0 := bC hbc hwl HSZ.out
  have hgl := lt_of_block hg
  have hhl := lt_of_block hh
  have hFz := hbc.size
  clear hg hh hbc
  cases v1
  rotate_left
  ·go_upto_region 2 with fail
   refine wp_region_held_drew (S := fun w' => w'.cell? ⟨g, 0, none⟩ = some (.int .u64 (x.need : Int)) ∧ w'.cell? ⟨g, 1, none⟩ = some (.int .u64 (x.ban : Int)) ∧ w'.cell? ⟨g, 2, none⟩ = some (.int .u64 (x.inn : Int)) ∧ w'.cell? ⟨h, 0, none⟩ = some (.int .u64 (y.need : Int)) ∧ w'.cell? ⟨h, 1, none⟩ = some (.int .u64 (y.ban : Int)) ∧ w'.cell? ⟨h, 2, none⟩ = some (.int .u64 (y.inn : Int)) ∧ w'.cell? ⟨w.1.size, 0, none⟩ = some (.int .i64 a.sets)) (by kernel_rfl) ⟨u0, u1, u2, t0, t1, t2, s0⟩ (fun hS => ?_)
   refine tkH 0 ?_
   refine tkH 1 ?_
   refine tkH 2 ?_
   refine tkH 3 ?_
   refine tkH 4 ?_
   refine tkH 5 ?_
   refine tkH 6 ?_
   refine tkH 7 ?_
   refine tkH 8 ?_
   refine skH 9 ?_
   refine skH 10 ?_
   refine skH 11 ?_
   refine skH 12 ?_
   refine skH 13 ?_
   refine skH 14 ?_
   refine skH 15 ?_
   refine skH 16 ?_
   refine tkH 17 ?_
   refine tkH 18 ?_
   refine skH 19 ?_
   refine skH 20 ?_
   refine skH 21 ?_
   refine skH 22 ?_
   refine skH 23 ?_
   refine skH 24 ?_
   refine skH 25 ?_
   refine skH 26 ?_
   refine skH 27 ?_
   refine skH 28 ?_
   refine skH 29 ?_
   refine skH 30 ?_
   refine skH 31 ?_
   refine skH 32 ?_
   refine skH 33 ?_
   refine skH 34 ?_
   refine tkH 35 ?_
   refine wpAnyH_done (by kernel_rfl) ?_ _
   go_wp2_with fail
   go_ret
   exact ⟨by rw [HR.out]; rfl, HBF.out.drew⟩
  ·cases v2
   rotate_left
   ·go_upto_region 2 with fail
    refine wp_region_held_drew (S := fun w' => w'.cell? ⟨g, 0, none⟩ = some (.int .u64 (x.need : Int)) ∧ w'.cell? ⟨g, 1, none⟩ = some (.int .u64 (x.ban : Int)) ∧ w'.cell? ⟨g, 2, none⟩ = some (.int .u64 (x.inn : Int)) ∧ w'.cell? ⟨h, 0, none⟩ = some (.int .u64 (y.need : Int)) ∧ w'.cell? ⟨h, 1, none⟩ = some (.int .u64 (y.ban : Int)) ∧ w'.cell? ⟨h, 2, none⟩ = some (.int .u64 (y.inn : Int)) ∧ w'.cell? ⟨w.1.size, 0, none⟩ = some (.int .i64 a.sets)) (by kernel_rfl) ⟨u0, u1, u2, t0, t1, t2, s0⟩ (fun hS => ?_)
    refine tkH 0 ?_
    refine tkH 1 ?_
    refine tkH 2 ?_
    refine tkH 3 ?_
    refine tkH 4 ?_
    refine tkH 5 ?_
    refine tkH 6 ?_
    refine tkH 7 ?_
    refine tkH 8 ?_
    refine tkH 9 ?_
    refine tkH 10 ?_
    refine tkH 11 ?_
    refine tkH 12 ?_
    refine tkH 13 ?_
    refine tkH 14 ?_
    refine tkH 15 ?_
    refine tkH 16 ?_
    refine tkH 17 ?_
    refine tkH 18 ?_
    refine skH 19 ?_
    refine skH 20 ?_
    refine skH 21 ?_
    refine skH 22 ?_
    refine skH 23 ?_
    refine skH 24 ?_
    refine skH 25 ?_
    refine skH 26 ?_
    refine skH 27 ?_
    refine skH 28 ?_
    refine skH 29 ?_
    refine skH 30 ?_
    refine skH 31 ?_
    refine skH 32 ?_
    refine skH 33 ?_
    refine skH 34 ?_
    refine tkH 35 ?_
    refine wpAnyH_done (by kernel_rfl) ?_ _
    go_wp2_with fail
    go_ret
    exact ⟨by rw [HR.out]; rfl, HBF.out.drew⟩
   ·go_upto_region 2 with fail
    refine wp_region_held_drew (S := fun w' => w'.cell? ⟨g, 0, none⟩ = some (.int .u64 (x.need : Int)) ∧ w'.cell? ⟨g, 1, none⟩ = some (.int .u64 (x.ban : Int)) ∧ w'.cell? ⟨g, 2, none⟩ = some (.int .u64 (x.inn : Int)) ∧ w'.cell? ⟨h, 0, none⟩ = some (.int .u64 (y.need : Int)) ∧ w'.cell? ⟨h, 1, none⟩ = some (.int .u64 (y.ban : Int)) ∧ w'.cell? ⟨h, 2, none⟩ = some (.int .u64 (y.inn : Int)) ∧ w'.cell? ⟨w.1.size, 0, none⟩ = some (.int .i64 a.sets)) (by kernel_rfl) ⟨u0, u1, u2, t0, t1, t2, s0⟩ (fun hS => ?_)
    refine tkH 0 ?_
    refine tkH 1 ?_
    refine tkH 2 ?_
    refine tkH 3 ?_
    refine tkH 4 ?_
    refine tkH 5 ?_
    refine tkH 6 ?_
    refine tkH 7 ?_
    refine tkH 8 ?_
    refine tkH 9 ?_
    refine tkH 10 ?_
    refine tkH 11 ?_
    refine tkH 12 ?_
    refine tkH 13 ?_
    refine tkH 14 ?_
    refine tkH 15 ?_
    refine tkH 16 ?_
    refine tkH 17 ?_
    refine tkH 18 ?_
    refine tkH 19 ?_
    refine tkH 20 ?_
    refine tkH 21 ?_
    refine tkH 22 ?_
    refine tkH 23 ?_
    refine tkH 24 ?_
    refine tkH 25 ?_
    refine tkH 28 ?_
    refine tkH 29 ?_
    refine tkH 30 ?_
    refine tkH 31 ?_
    refine oneH 26 (fun K hK => ?_)
    go_simp
    refine (HBT.out _).mono ?_
    rintro e _ ⟨rfl, rfl⟩
    go_wp2_with fail
    refine hK.out _ _ ⟨u0, u1, u2, t0, t1, t2, s0⟩ (fun hS => ?_)
    clear hK
    refine tkH 27 ?_
    refine oneH 32 (fun K hK => ?_)
    go_simp
    refine (HBT.out _).mono ?_
    rintro e _ ⟨rfl, rfl⟩
    go_wp2_with fail
    refine hK.out _ _ ⟨u0, u1, u2, t0, t1, t2, s0⟩ (fun hS => ?_)
    clear hK
    refine tkH 33 ?_
    refine tkH 34 ?_
    refine tkH 35 ?_
    refine wpAnyH_done (by kernel_rfl) ?_ _
    clear hS s0 g1 g2 g3 g4 g5 hv1 hv2 hv3 u0 u1 u2 t0 t1 t2
    cases v3
    rotate_left
    ·go_wp2_with fail
     go_ret
     exact ⟨by rw [HR.out]; rfl, HBF.out.drew⟩
    ·have HR2 : Hid (canD a R i k = x.to.all (fun t => y.to.any (fun u => relL R t.toNat u.toNat))) := dh (by rw [HR.out]; rfl)
     go_wp2_with fail
     go_loopw [11] (fun v wl => ∃ m : Nat, m ≤ x.to.length ∧ v = .int .i64 (m : Int) ∧ Hid (Below wF.1.size wF wl) ∧ Hid ((x.to.take m).all (fun t => y.to.any (fun u => relL R t.toNat u.toNat)) = true)) (fun v _ => x.to.length - (intOf v).toNat)
     case atStart => exact ⟨0, Nat.zero_le _, rfl, dh (Below.drew bR), dh rfl⟩
     case round =>
      obtain ⟨m, hm, rfl, HBl, HAl⟩ := hrel
      rename World => wl
      have hzl := HBl.out.size
      have u3 := bC HBl.out hgl (box4A HG.out).2.2.2
      have t3 := bC HBl.out hhl (box4A HH.out).2.2.2
      by_cases hlt : m < x.to.length
      ·have wm : IntKind.i64.wrap ((m : Int) + 1) = (m : Int) + 1 := by rw [wI]; omega
       have hm0 : (0 : Int) ≤ (m : Int) := by omega
       have hm1 : (m : Int) < (x.to.length : Int) := by omega
       obtain ⟨bt, ot, hAt, hbt, hct⟩ := (HST.out.rd.below HBC.out (show B ≤ wr.1.size by omega)).at_ (j := m) (icells_at hlt)
       subst hAt
       obtain ⟨tn, htn, htl⟩ := isNd_nat (HOX.out _ (mM hlt))
       rw [htn] at hct
       have htn' : tn < R.length := by rw [HRN.out, HNN.out]; exact htl
       have HSN : Hid ((x.to.take (m + 1)).all (fun t => y.to.any (fun u => relL R t.toNat u.toNat)) = y.to.any (fun u => relL R tn u.toNat)) := dh (by rw [take_snoc x.to m hlt, List.all_append, HAl.out, htn]; simp)
       have HFA : Hid (y.to.any (fun u => relL R tn u.toNat) = false → x.to.all (fun t => y.to.any (fun u => relL R t.toNat u.toNat)) = false) := dh (fun hf => by
        rw [List.all_eq_false]
        exact ⟨_, mM hlt, by rw [htn, tN, hf]; simp⟩)
       have hct' := dh hct
       obtain ⟨br, orr, Ar', dr, hAr, r0, hd1, hd2, hbr, bq, oq, hAq, hbq, r1⟩ := rd_relB HRR.out HQ.out htn'
       subst hAr hAq
       rw [HRN.out] at r0 hd1
       have r1' : Hid (∀ k, k < nn → wr.cell? ⟨bq, oq + k, none⟩ = some (.bool (relL R tn k))) := dh (by rw [← HRN.out]; exact r1)
       have r0' := dh r0
       have HRC := dh (And.intro HRR.out.cap HRR.out.max)
       clear htn hct r0 r1
       go_wp2_with fail
       go_loopw [12, 13] (fun b v wq => ∃ q : Nat, q ≤ y.to.length ∧ b = .bool ((y.to.take q).any (fun u => relL R tn u.toNat)) ∧ v = .int .i64 (q : Int) ∧ Hid (Below wF.1.size wF wq)) (fun _ v _ => y.to.length - (intOf v).toNat)
       case atStart => exact ⟨0, Nat.zero_le _, rfl, rfl, HBl⟩
       case round =>
        obtain ⟨q, hq, rfl, rfl, HBq⟩ := hrel
        rename World => wq
        have hzq := HBq.out.size
        have u3 := bC HBq.out hgl (box4A HG.out).2.2.2
        have t3 := bC HBq.out hhl (box4A HH.out).2.2.2
        have HBW := dh (HBC.out.trans (HBq.out.mono hFz))
        obtain ⟨an, han⟩ := xQ ((y.to.take q).any (fun u => relL R tn u.toNat))
        rw [han]
        by_cases hlq : q < y.to.length
        ·have wq1 : IntKind.i64.wrap ((q : Int) + 1) = (q : Int) + 1 := by rw [wI]; omega
         have hq0 : (0 : Int) ≤ (q : Int) := by omega
         have hq1 : (q : Int) < (y.to.length : Int) := by omega
         obtain ⟨bu, ou, hAu, hbu, hcu⟩ := (HST'.out.rd.below HBC.out (show B ≤ wr.1.size by omega)).at_ (j := q) (icells_at hlq)
         subst hAu
         obtain ⟨un, hun, hul⟩ := isNd_nat (HOY.out _ (mM hlq))
         rw [hun] at hcu
         have hun' : un < nn := by rw [HNN.out]; exact hul
         have HSQ : Hid ((y.to.take (q + 1)).any (fun u => relL R tn u.toNat) = (an || relL R tn un)) := dh (by rw [take_snoc y.to q hlq, List.any_append, han, hun]; simp)
         have HAN := dh han
         clear han hun
         cases an
         rotate_left
         ·go_upto_region 11 with fail
          refine wp_region_held_drew (S := fun w' => w'.cell? ⟨g, 3, none⟩ = some (.slice (some ⟨bt, ot, none⟩) x.to.length c)) (by kernel_rfl) (u3) (fun hS => ?_)
          refine tkH 0 ?_
          refine tkH 1 ?_
          refine skH 2 ?_
          refine skH 3 ?_
          refine skH 4 ?_
          refine skH 5 ?_
          refine skH 6 ?_
          refine skH 7 ?_
          refine skH 8 ?_
          refine skH 9 ?_
          refine skH 10 ?_
          refine skH 11 ?_
          refine skH 12 ?_
          refine skH 13 ?_
          refine skH 14 ?_
          refine skH 15 ?_
          refine skH 16 ?_
          refine tkH 17 ?_
          refine tkH 18 ?_
          refine wpAnyH_done (by kernel_rfl) ?_ _
          clear hS
          go_wp2_with fail
          go_roundw
          case rel => exact ⟨q + 1, by omega, by rw [HSQ.out]; rfl, by go_num, dh HBq.out.drew⟩
          case measure => simp [intOf]; omega
         ·have e1 := bC HBq.out (by show bt < _; omega) hct'.out
          have e2 := bC HBq.out (by show bu < _; omega) hcu
          have e3 := bC HBW.out (by show br < _; omega) r0'.out
          have e4 := bC HBW.out (by show bq < _; omega) (r1'.out un hun')
          have hun0 : (0 : Int) ≤ (un : Int) := by omega
          have hun1 : (un : Int) < (nn : Int) := by omega
          have htn0 : (0 : Int) ≤ (tn : Int) := by omega
          have htn1 : (tn : Int) < (nn : Int) := by rw [HRN.out] at htn'; omega
          obtain ⟨rv, hrv⟩ := xQ (relL R tn un)
          rw [hrv] at e4 HSQ
          clear hrv
          unfold maxLen at hd2
          obtain ⟨hdc1, hdc2⟩ := HRC.out
          unfold maxLen at hdc2
          go_upto_region 11 with fail
          refine wp_region_held_drew (S := fun w' => w'.cell? ⟨g, 3, none⟩ = some (.slice (some ⟨bt, ot, none⟩) x.to.length c) ∧ w'.cell? ⟨h, 3, none⟩ = some (.slice (some ⟨bu, ou, none⟩) y.to.length c') ∧ w'.cell? ⟨bt, ot + m, none⟩ = some (.int .i64 (tn : Int)) ∧ w'.cell? ⟨bu, ou + q, none⟩ = some (.int .i64 (un : Int)) ∧ w'.cell? ⟨br, orr + tn, none⟩ = some (.slice (some ⟨bq, oq, none⟩) nn dr) ∧ w'.cell? ⟨bq, oq + un, none⟩ = some (.bool rv)) (by kernel_rfl) ⟨u3, t3, e1, e2, e3, e4⟩ (fun hS => ?_)
          refine tkH 0 ?_
          refine tkH 1 ?_
          refine tkH 2 ?_
          refine tkH 3 ?_
          refine tkH 4 ?_
          refine tkH 5 ?_
          refine tkH 6 ?_
          refine tkH 7 ?_
          refine tkH 8 ?_
          refine tkH 9 ?_
          refine tkH 10 ?_
          refine tkH 11 ?_
          refine tkH 12 ?_
          refine tkH 13 ?_
          refine tkH 14 ?_
          refine tkH 15 ?_
          refine tkH 16 ?_
          refine tkH 17 ?_
          refine tkH 18 ?_
          refine wpAnyH_done (by kernel_rfl) ?_ _
          clear hS
          go_wp2_with fail
          go_roundw
          case rel => exact ⟨q + 1, by omega, by rw [HSQ.out]; rfl, by go_num, dh HBq.out.drew⟩
          case measure => simp [intOf]; omega
        ·have hqe : q = y.to.length := by omega
         subst hqe
         rw [List.take_length] at han
         have HAN := dh han
         clear han
         cases an
         ·go_wp2_with fail
          go_ret
          exact ⟨ret_bool (by rw [HR2.out, HFA.out HAN.out]), HBF.out.trans (HBq.out.mono HBF.out.size)⟩
         ·go_wp2_with fail
          go_roundw
          case rel => exact ⟨m + 1, by omega, by go_num, HBq, dh (by rw [HSN.out]; exact HAN.out)⟩
          case measure => simp [intOf]; omega
      ·have hme : m = x.to.length := by omega
       subst hme
       rw [List.take_length] at HAl
       go_wp2_with fail
       go_ret
       exact ⟨ret_bool (by rw [HR2.out, HAl.out]), HBF.out.trans (HBl.out.mono HBF.out.size)⟩
end Go.Proofs.YtiebpncpdbnelaaGreatDoor
