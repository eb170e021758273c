/- Texts that stand one behind the other, in one file. -/
import Derived.Test.YtiebpncpdbnelaaGreatDoorRd1
set_option maxHeartbeats 8000000
set_option maxRecDepth 100000
namespace Go.Proofs.YtiebpncpdbnelaaGreatDoor
open Go.RowKit
def rowDR (F : Nat → Nat → Bool) (i q : Nat) : List Bool := (List.range q).map (F i)
def gridDR (F : Nat → Nat → Bool) (n m : Nat) : List (List Bool) := (List.range m).map (fun i => rowDR F i n)
theorem rowF_len (F : Nat → Nat → Bool) (i q : Nat) : (rowDR F i q).length = q := by simp [rowDR]
theorem gridF_len (F : Nat → Nat → Bool) (n m : Nat) : (gridDR F n m).length = m := by simp [gridDR]
theorem rowF_snoc (F : Nat → Nat → Bool) (i q : Nat) : rowDR F i (q + 1) = rowDR F i q ++ [F i q] := by simp [rowDR, List.range_succ]
theorem gridF_snoc (F : Nat → Nat → Bool) (n m : Nat) : gridDR F n (m + 1) = gridDR F n m ++ [rowDR F m n] := by simp [gridDR, List.range_succ]
theorem gridF_rel {F : Nat → Nat → Bool} {n m i k : Nat} (hi : i < m) (hk : k < n) : relL (gridDR F n m) i k = F i k := by simp [relL, gridDR, rowDR, List.getD, hi, hk]
theorem gridF_row (F : Nat → Nat → Bool) (n : Nat) : ∀ r ∈ gridDR F n n, r.length = (gridDR F n n).length := fun r hr => by
 obtain ⟨i, _, rfl⟩ := List.mem_map.1 hr
 rw [gridF_len, rowF_len]
def nextDR (a : Aut) (R : List (List Bool)) (i k : Nat) : Bool := relL R i k && canD a R i k
structure InvR (a : Aut) (R : List (List Bool)) : Prop where
 len : R.length = a.nodes.length
 row : ∀ r ∈ R, r.length = R.length
 sim : ∀ i k, Sim a i k → relL R i k = true
theorem sim_can {a : Aut} {R : List (List Bool)} (hA : a.Ok) (h : InvR a R) {i k : Nat} (hs : Sim a i k) : canD a R i k = true := by
 obtain ⟨hi, hk⟩ := (sim_sim a).lt i k hs
 unfold canD
 rw [Bool.and_eq_true]
 refine ⟨(sim_sim a).one i k hs, List.all_eq_true.2 (fun t ht => ?_)⟩
 obtain ⟨tn, rfl, _⟩ := isNd_nat (hA.2 _ (at_mem hi) t ht)
 obtain ⟨u, hu, hr⟩ := (sim_sim a).go i k hs tn ht
 exact List.any_eq_true.2 ⟨u, hu, by rw [tN, tN]; exact h.sim _ _ hr⟩
theorem InvR.start (a : Aut) : InvR a (gridDR (fun _ _ => true) a.nodes.length a.nodes.length) :=
 ⟨gridF_len _ _ _, gridF_row _ _, fun i k hs => by obtain ⟨hi, hk⟩ := (sim_sim a).lt i k hs; rw [gridF_rel hi hk]⟩
theorem InvR.next {a : Aut} {R : List (List Bool)} (hA : a.Ok) (h : InvR a R) : InvR a (gridDR (nextDR a R) a.nodes.length a.nodes.length) :=
 ⟨gridF_len _ _ _, gridF_row _ _, fun i k hs => by
  obtain ⟨hi, hk⟩ := (sim_sim a).lt i k hs
  rw [gridF_rel hi hk, nextDR, h.sim i k hs, sim_can hA h hs]; rfl⟩
theorem rows_ext {R S : List (List Bool)} (hl : R.length = S.length) (hr : ∀ r ∈ R, r.length = R.length) (hs : ∀ r ∈ S, r.length = S.length) (h : ∀ i k, i < R.length → k < R.length → relL R i k = relL S i k) : R = S := by
 refine List.ext_getElem hl (fun i h1 h2 => ?_)
 refine List.ext_getElem (by rw [hr _ (mM h1), hs _ (mM h2), hl]) (fun k k1 k2 => ?_)
 have := h i k h1 (by rw [← hr _ (mM h1)]; exact k1)
 simpa [relL, List.getD, h1, h2, k1, k2] using this
theorem InvR.done {a : Aut} {R : List (List Bool)} (hA : a.Ok) (h : InvR a R) (hf : ∀ i k, i < a.nodes.length → k < a.nodes.length → nextDR a R i k = relL R i k) : R = simL a := by
 refine rows_ext (by rw [h.len, simL_len]) h.row (simL_row a) (fun i k hi hk => ?_)
 rw [h.len] at hi hk
 rw [Bool.eq_iff_iff, sim_rel]
 refine ⟨fun hr => ⟨fun i k => i < a.nodes.length ∧ k < a.nodes.length ∧ relL R i k = true, ⟨fun i k h => ⟨h.1, h.2.1⟩, fun i k e => ?_, fun i k e t ht => ?_⟩, hi, hk, hr⟩, fun hs => h.sim i k hs⟩
 ·have := hf i k e.1 e.2.1
  rw [nextDR, e.2.2, Bool.true_and, canD, Bool.and_eq_true] at this
  exact this.1
 ·have := hf i k e.1 e.2.1
  rw [nextDR, e.2.2, Bool.true_and, canD, Bool.and_eq_true] at this
  obtain ⟨u, hu, hru⟩ := List.any_eq_true.1 (List.all_eq_true.1 this.2 _ ht)
  obtain ⟨un, rfl, hul⟩ := isNd_nat (hA.2 _ (at_mem e.2.1) u hu)
  obtain ⟨tn, htn, htl⟩ := isNd_nat (hA.2 _ (at_mem e.1) _ ht)
  have : t = tn := by omega
  subst this
  rw [tN, tN] at hru
  exact ⟨un, hu, htl, hul, hru⟩
def cntG (n : Nat) (R : List (List Bool)) : Nat := ((List.range n).flatMap (fun i => (List.range n).map (fun k => (i, k)))).countP (fun p => relL R p.1 p.2)
theorem next_cnt {a : Aut} {R : List (List Bool)} {n : Nat} (h : ∃ j p, j < n ∧ p < n ∧ nextDR a R j p ≠ relL R j p) : cntG n (gridDR (nextDR a R) n n) < cntG n R := by
 obtain ⟨j, p, hj, hp, hne⟩ := h
 have hm : ∀ x : Nat × Nat, x ∈ (List.range n).flatMap (fun i => (List.range n).map (fun k => (i, k))) ↔ x.1 < n ∧ x.2 < n := fun x => by
  obtain ⟨x, y⟩ := x
  simp
 refine countP_less (fun x hx h => ?_) ⟨(j, p), (hm _).2 ⟨hj, hp⟩, ?_, ?_⟩
 ·obtain ⟨h1, h2⟩ := (hm x).1 hx
  rw [gridF_rel h1 h2, nextDR, Bool.and_eq_true] at h
  exact h.1
 ·cases hr : relL R j p
  ·exact absurd (by rw [nextDR, hr]; rfl) hne
  ·rfl
 ·show relL (gridDR (nextDR a R) n n) j p = false
  rw [gridF_rel hj hp]
  cases hv : nextDR a R j p
  ·rfl
  ·exfalso; rw [hv] at hne; rw [nextDR, Bool.and_eq_true] at hv; exact hne hv.1.symm
def ChB (a : Aut) (R : List (List Bool)) (n m q : Nat) (b : Bool) : Prop :=
 (b = false → ∀ j p, j < n → p < n → (j < m ∨ j = m ∧ p < q) → nextDR a R j p = relL R j p) ∧ (b = true → ∃ j p, j < n ∧ p < n ∧ nextDR a R j p ≠ relL R j p)
theorem ChB.start (a : Aut) (R : List (List Bool)) (n : Nat) : ChB a R n 0 0 false := ⟨fun _ j p _ _ h => absurd h (by omega), fun h => by cases h⟩
theorem ChB.next {a : Aut} {R : List (List Bool)} {n m q : Nat} {b : Bool} (h : ChB a R n m q b) (hm : m < n) (hq : q < n) : ChB a R n m (q + 1) (b || (nextDR a R m q != relL R m q)) := by
 refine ⟨fun e j p hj hp hc => ?_, fun e => ?_⟩
 ·rw [Bool.or_eq_false_iff] at e
  by_cases he : j = m ∧ p = q
  ·obtain ⟨rfl, rfl⟩ := he
   simpa using e.2
  ·exact h.1 e.1 j p hj hp (by omega)
 ·rw [Bool.or_eq_true] at e
  rcases e with e | e
  ·exact h.2 e
  ·exact ⟨m, q, hm, hq, by simpa using e⟩
theorem ChB.nextRow {a : Aut} {R : List (List Bool)} {n m : Nat} {b : Bool} (h : ChB a R n m n b) : ChB a R n (m + 1) 0 b := ⟨fun e j p hj hp hc => h.1 e j p hj hp (by omega), h.2⟩
theorem Grid.push1 {w w1 w2 : World} {v v' u : Value} {R : List (List Bool)} {r : List Bool} {X : Obj} (h : Grid w w1 v R) (hu : w1.ownsRow w.1.size 4 1 u r.length (bcells r)) {vs : List Value}
  (hv : w1.ownsRow w.1.size 48 1 v R.length vs) (hvs : ∀ (j : Nat) (r : List Bool), R[j]? = some r → ∃ u, vs[j]? = some u ∧ w1.ownsRow w.1.size 4 1 u r.length (bcells r))
  (hown : w2.ownsRow w.1.size 48 1 v' (R.length + 1) (vs ++ [u])) (ht : Tch (fun k => v.ownBlock = some k) (w1.alloc X) w2) : Grid w w2 v' (R ++ [r]) := by
 have hb : Below w1.1.size w1 (w1.alloc X) := bR.alloc lR _
 refine (h.below hb).push (own_below hu hb) (own_below hv hb) hown ht (fun j r hj => ?_)
 obtain ⟨u, h1, h2⟩ := hvs j r hj
 exact ⟨u, h1, own_below h2 hb⟩
theorem directR_any (a : Aut) (Ai : Option Addr) (ni ci : Nat) (An : Option Addr) (nn cn : Nat) (w : World) (B : Nat) (h : AutRd w B a Ai ni ci An nn cn) (hB : B ≤ w.1.size) (hck : chkA a = 0) (hnd : ∀ x ∈ a.nodes, x.need < 2 ^ 64 ∧ x.ban < 2 ^ 64 ∧ x.inn < 2 ^ 64) (hr : ∀ x ∈ a.nodes, x.to.length ≤ 1000000) :
  Calls Tryz.prog 39 #[.agg #[.int .i64 a.sets, .slice Ai ni ci, .slice An nn cn]] w (GridPost w (simL a)) := by
 have hb0 : Below w.1.size w (w.alloc (.cells #[.int .i64 a.sets, .slice Ai ni ci, .slice An nn cn] 25)) := bR.alloc lR _
 have x0 := heap_alloc_new w (.cells #[.int .i64 a.sets, .slice Ai ni ci, .slice An nn cn] 25)
 have z0 : (w.alloc (.cells #[.int .i64 a.sets, .slice Ai ni ci, .slice An nn cn] 25)).1.size = w.1.size + 1 := by simp
 obtain ⟨W0, hW0⟩ := xQ (w.alloc (.cells #[.int .i64 a.sets, .slice Ai ni ci, .slice An nn cn] 25))
 rw [hW0] at hb0 x0 z0
 have HR0 := dh (h.below hb0 hB)
 have HC0 := dh (chkR_any a Ai ni ci An nn cn W0 B HR0.out (by omega))
 rw [hck] at HC0
 obtain ⟨hn256, ⟨hs0, hs16⟩, hA, -⟩ := chk_iff.1 hck
 have HNN := dh h.enn
 have hnn : nn ≤ 256 := by rw [HNN.out]; exact hn256
 have HW0 := dh hW0
 have HB0 := dh hb0
 have HA := dh hA
 have hBw : B ≤ W0.1.size := by omega
 have hww : w.1.size < W0.1.size := by omega
 have HCL : Hid (∀ W', Below W0.1.size W0 W' → W'.cell? ⟨w.1.size, 0, none⟩ = some (.int .i64 a.sets) ∧ W'.cell? ⟨w.1.size, 1, none⟩ = some (.slice Ai ni ci) ∧ W'.cell? ⟨w.1.size, 2, none⟩ = some (.slice An nn cn)) := dh (fun W' hb => by
  have k0 := (hb.block w.1.size hww).trans x0
  refine ⟨?_, ?_, ?_⟩ <;> (rw [cell_of_row _ _ _ _ _ (0, 0) k0]; rfl))
 have HCN : Hid (∀ (W' : World) (Ar : Option Addr) (cr : Nat) (R : List (List Bool)) (i k : Nat), Below W0.1.size W0 W' → Sl2 W' W'.1.size 1 Ar nn cr (R.map bcells) → InvR a R → i < nn → k < nn → Calls Tryz.prog 62 #[.agg #[.int .i64 a.sets, .slice Ai ni ci, .slice An nn cn], .slice Ar nn cr, .int .i64 (i : Int), .int .i64 (k : Int)] W' (Tru W' (canD a R i k))) := dh (fun W' Ar cr R i k hb hs hv hi hk =>
  can32_any a Ai ni ci An nn cn W' W'.1.size ((HR0.out.below hb hBw).up (Nat.le_trans hBw hb.size)) lR HA.out hs0 hs16 hnd Ar cr R hs (by rw [hv.len, HNN.out]) hv.row i k hi hk hr)
 clear hW0 hb0 x0 z0 h hnd hck hr hs0 hs16 hn256 hA
 go_enter Tryz.func39, Tryz.ntmps39
 go_upto_region 1 with fail
 rw [HW0.out]
 obtain ⟨q0, q1, q2⟩ := HCL.out W0 bR
 go_wp2_with fail
 refine HC0.out.mono ?_
 rintro e w1 ⟨rfl, hb1⟩
 have HB1 := dh hb1
 have hz1 := hb1.size
 clear q0 q1 q2 hb1
 obtain ⟨q0, q1, q2⟩ := HCL.out w1 HB1.out
 go_wp2_with fail
 clear q0 q1 q2
 go_loopw [4, 5] (fun r i wr => ∃ m : Nat, m ≤ nn ∧ i = .int .i64 (m : Int) ∧ Hid (Grid w1 wr r (gridDR (fun _ _ => true) nn m))) (fun _ i _ => nn - (intOf i).toNat)
 case atStart => exact ⟨0, Nat.zero_le _, rfl, dh (Grid.nil w1)⟩
 case round =>
  obtain ⟨m, hm, rfl, HG⟩ := hrel
  have hzr := HG.out.choose_spec.2.2.size
  by_cases hlt : m < nn
  ·have wm : IntKind.i64.wrap ((m : Int) + 1) = (m : Int) + 1 := by rw [wI]; omega
   have hm1 : (m : Int) < (nn : Int) := by omega
   go_wp2_with fail
   go_loopw [6, 7] (fun o k wq => ∃ q : Nat, q ≤ nn ∧ k = .int .i64 (q : Int) ∧ Hid (wq.ownsRow wr.1.size 4 1 o q (bcells (rowDR (fun _ _ => true) m q))) ∧ Hid (Below wr.1.size wr wq)) (fun _ k _ => nn - (intOf k).toNat)
   case atStart => exact ⟨0, Nat.zero_le _, rfl, dh (World.ownsRow_nil _ _ _ _), dh bR⟩
   case round =>
    obtain ⟨q, hq, rfl, HO, HB⟩ := hrel
    rename World => wq
    have hzq := HB.out.size
    by_cases hlq : q < nn
    ·have wq1 : IntKind.i64.wrap ((q : Int) + 1) = (q : Int) + 1 := by rw [wI]; omega
     have hq1 : (q : Int) < (nn : Int) := by omega
     obtain ⟨Au, cu, rfl, -⟩ := own_sl HO.out
     have hnw := dh (heap_alloc_new wq (.cells #[.bool true] 4))
     go_wp2_with (at_builtin; refine wpList_push rfl (.tmp 30) (.tmp 31) 48 rfl wr.1.size 4 1 1 sliceBool _ _ _ (HO.out.alloc _) rfl wq.1.size #[.bool true] rfl hnw.out rfl (by simp [Value.oneCell']) (by omega) (by omega) (by simp; omega) ?_; intro u' wA hown3 ht3 hat3 hne3; obtain ⟨g', cap', rfl, _⟩ := own_form hown3 (by omega); have HOA := dh hown3; have HBA := dh (HB.out.trans ((Tch.trans ((Tch.refl _ wq).alloc _) ht3 (fun _ _ h => h)).below hzq (fun k hk e => by have := (HO.out.lt k e).1; omega))))
     exact ⟨⟨q + 1, by omega, congrArg (Value.int .i64) (by omega), dh (by rw [rowF_snoc, bcells_append]; simpa [bcells] using HOA.out), HBA⟩, by simp [intOf]; omega⟩
    ·have hqe : q = nn := by omega
     subst hqe
     obtain ⟨Au, cu, rfl, -⟩ := own_sl HO.out
     have HGq := dh (HG.out.below HB.out)
     obtain ⟨vs, hv, hvs, -⟩ := HGq.out
     have HVS := dh hvs
     have hv' := hv
     rw [gridF_len] at hv'
     obtain ⟨Ag, cg, rfl, -⟩ := own_sl hv'
     have HV := dh hv
     have HV' := dh hv'
     clear hv hvs hv'
     have hnw := dh (heap_alloc_new wq (.cells #[.slice Au q cu] 48))
     go_wp2_with (at_builtin; refine wpList_push rfl (.tmp 33) (.tmp 35) 41 rfl w1.1.size 48 1 24 sliceRows _ _ _ (HV'.out.alloc _) rfl wq.1.size #[.slice Au q cu] rfl hnw.out rfl (by simp [Value.oneCell']) (by omega) (by omega) (by simp; omega) ?_; intro u' wA hown3 ht3 hat3 hne3; obtain ⟨g', cap', rfl, _⟩ := own_form hown3 (by omega); have HGA := dh (HGq.out.push1 (r := rowDR (fun _ _ => true) m q) (by rw [rowF_len]; exact own_base HO.out hzr) HV.out HVS.out (by rw [gridF_len]; exact hown3) ht3))
     exact ⟨⟨m + 1, by omega, congrArg (Value.int .i64) (by omega), dh (by rw [gridF_snoc]; exact HGA.out)⟩, by simp [intOf]; omega⟩
  ·have hme : m = nn := by omega
   subst hme
   have HI0 : Hid (InvR a (gridDR (fun _ _ => true) m m)) := dh (by rw [HNN.out]; exact InvR.start a)
   go_wp2_with fail
   go_loopg [4] (cntG m (gridDR (fun _ _ => true) m m)) (fun gk r ws => ∃ R : List (List Bool), cntG m R ≤ gk ∧ Hid (InvR a R) ∧ Hid (Grid w1 ws r R))
   case atStart => exact ⟨_, lR, HI0, HG⟩
   case round =>
    clear HG HI0
    obtain ⟨R, hgk, HI, HG⟩ := hrel
    rename World => ws
    have hRl : R.length = m := by rw [HI.out.len, HNN.out]
    obtain ⟨Ar, cr, rfl, hS2⟩ := HG.out.sl2
    rw [hRl] at HG hS2 ⊢
    have HRL := dh hRl
    have HS2 := dh hS2
    have hbs := HG.out.choose_spec.2.2
    have HBS := dh (HB1.out.trans (hbs.mono hz1))
    have hzs := hbs.size
    have hcr := hS2.cap
    have hmr := hS2.max
    unfold maxLen at hmr
    clear hRl hS2 hbs
    go_wp2_with fail
    go_loopw [8, 9, 10] (fun nx ch i wl => ∃ (k : Nat) (b : Bool), k ≤ m ∧ ch = .bool b ∧ i = .int .i64 (k : Int) ∧ Hid (Grid ws wl nx (gridDR (nextDR a R) m k)) ∧ Hid (ChB a R m k 0 b)) (fun _ _ i _ => m - (intOf i).toNat)
    case atStart => exact ⟨0, false, Nat.zero_le _, rfl, rfl, dh (Grid.nil ws), dh (ChB.start a R m)⟩
    case round =>
     obtain ⟨k, b, hk, rfl, rfl, HN, HC⟩ := hrel
     rename World => wl
     have hbl := HN.out.choose_spec.2.2
     have HBL := dh hbl
     have hzl := hbl.size
     clear hbl
     by_cases hlk : k < m
     ·have wk : IntKind.i64.wrap ((k : Int) + 1) = (k : Int) + 1 := by rw [wI]; omega
      have hk0 : (0 : Int) ≤ (k : Int) := by omega
      have hk1 : (k : Int) < (m : Int) := by omega
      obtain ⟨br, orr, Ar', dr, hAr, r0, hd1, hd2, hbr, bq, oq, hAq, hbq, r1⟩ := rd_relB HS2.out HI.out.row (i := k) (by rw [HRL.out]; exact hlk)
      subst hAr hAq
      rw [HRL.out] at r0 hd1
      rw [HRL.out] at r1
      have R0 := dh r0
      have R1 := dh r1
      unfold maxLen at hd2
      clear r0 r1
      go_wp2_with fail
      go_loopw [9, 11, 12] (fun ch o p wq => ∃ (q : Nat) (b : Bool), q ≤ m ∧ ch = .bool b ∧ p = .int .i64 (q : Int) ∧ Hid (wq.ownsRow wl.1.size 4 1 o q (bcells (rowDR (nextDR a R) k q))) ∧ Hid (Below wl.1.size wl wq) ∧ Hid (ChB a R m k q b)) (fun _ _ p _ => m - (intOf p).toNat)
      case atStart => exact ⟨0, b, Nat.zero_le _, rfl, rfl, dh (World.ownsRow_nil _ _ _ _), dh bR, HC⟩
      case round =>
       clear HC
       obtain ⟨q, c, hq, rfl, rfl, HO, HB, HC⟩ := hrel
       rename World => wq
       have hzq := HB.out.size
       have HBq := dh (HBL.out.trans (HB.out.mono hzl))
       by_cases hlq : q < m
       ·have wq1 : IntKind.i64.wrap ((q : Int) + 1) = (q : Int) + 1 := by rw [wI]; omega
        have hq0 : (0 : Int) ≤ (q : Int) := by omega
        have hq1 : (q : Int) < (m : Int) := by omega
        have HCN1 := dh (HCN.out wq (some ⟨br, orr, none⟩) cr R k q (HBS.out.trans (HBq.out.mono (by omega))) ((HS2.out.below HBq.out lR).up HBq.out.size) HI.out hlk hlq)
        have HCC := dh (HC.out.next hlk hlq)
        have HSN := dh (rowF_snoc (nextDR a R) k q)
        obtain ⟨rv, hrv⟩ := xQ (relL R k q)
        obtain ⟨cv, hcv⟩ := xQ (canD a R k q)
        have hnx : nextDR a R k q = (rv && cv) := by rw [nextDR, hrv, hcv]
        rw [hnx, hrv] at HCC
        rw [hnx] at HSN
        rw [hcv] at HCN1
        have hR1 := R1.out q hlq
        rw [hrv] at hR1
        have HR1 := dh hR1
        obtain ⟨q0, q1, q2⟩ := HCL.out wq (HBS.out.trans (HBq.out.mono (by omega)))
        have e0 := bC HBq.out (by show br < _; omega) R0.out
        have e1 := bC HBq.out (by show bq < _; omega) HR1.out
        clear hrv hcv hnx hR1
        cases rv
        ·clear HCN1 q0 q1 q2
         obtain ⟨Au, cu, rfl, -⟩ := own_sl HO.out
         have hnw := dh (heap_alloc_new wq (.cells #[.bool false] 4))
         cases c <;> (go_wp2_with (at_builtin; refine wpList_push rfl (.tmp 73) (.tmp 75) 48 rfl wl.1.size 4 1 1 sliceBool _ _ _ (HO.out.alloc _) rfl wq.1.size #[.bool false] rfl hnw.out rfl (by simp [Value.oneCell']) (by omega) (by omega) (by simp; omega) ?_; intro u' wA hown3 ht3 hat3 hne3; obtain ⟨g', cap', rfl, _⟩ := own_form hown3 (by omega); have HOA := dh hown3; have HBA := dh (HB.out.trans ((Tch.trans ((Tch.refl _ wq).alloc _) ht3 (fun _ _ h => h)).below hzq (fun k hk e => by have := (HO.out.lt k e).1; omega))))) <;> exact ⟨⟨q + 1, _, by omega, rfl, congrArg (Value.int .i64) (by omega), dh (by rw [HSN.out, bcells_append]; simpa [bcells] using HOA.out), HBA, HCC⟩, by simp [intOf]; omega⟩
        ·go_wp2_with fail
         refine HCN1.out.mono ?_
         rintro e w5 ⟨rfl, hb5⟩
         have hz5 := hb5.size
         have f0 := bC hb5 (by show br < _; omega) e0
         have f1 := bC hb5 (by show bq < _; omega) e1
         have HO5 := dh (own_below HO.out hb5)
         have HB5 := dh (HB.out.trans (hb5.mono hzq))
         clear hb5 q0 q1 q2 e0 e1
         obtain ⟨Au, cu, rfl, -⟩ := own_sl HO5.out
         have hnw := dh (heap_alloc_new w5 (.cells #[.bool cv] 4))
         cases c <;> cases cv <;> (go_wp2_with (at_builtin; refine wpList_push rfl (.tmp 73) (.tmp 75) 48 rfl wl.1.size 4 1 1 sliceBool _ _ _ (HO5.out.alloc _) rfl w5.1.size #[.bool _] rfl hnw.out rfl (by simp [Value.oneCell']) (by omega) (by omega) (by simp; omega) ?_; intro u' wA hown3 ht3 hat3 hne3; obtain ⟨g', cap', rfl, _⟩ := own_form hown3 (by omega); have HOA := dh hown3; have HBA := dh (HB5.out.trans ((Tch.trans ((Tch.refl _ w5).alloc _) ht3 (fun _ _ h => h)).below (by omega) (fun k hk e => by have := (HO5.out.lt k e).1; omega))))) <;> exact ⟨⟨q + 1, _, by omega, rfl, congrArg (Value.int .i64) (by omega), dh (by rw [HSN.out, bcells_append]; simpa [bcells] using HOA.out), HBA, HCC⟩, by simp [intOf]; omega⟩
       ·have hqe : q = m := by omega
        subst hqe
        obtain ⟨Au, cu, rfl, -⟩ := own_sl HO.out
        have HGq := dh (HN.out.below HB.out)
        obtain ⟨vs, hv, hvs, -⟩ := HGq.out
        have HVS := dh hvs
        have hv' := hv
        rw [gridF_len] at hv'
        obtain ⟨Ag, cg, rfl, -⟩ := own_sl hv'
        have HV := dh hv
        have HV' := dh hv'
        have HCR := dh HC.out.nextRow
        clear hv hvs hv'
        have hnw := dh (heap_alloc_new wq (.cells #[.slice Au q cu] 48))
        go_wp2_with (at_builtin; refine wpList_push rfl (.tmp 77) (.tmp 79) 41 rfl ws.1.size 48 1 24 sliceRows _ _ _ (HV'.out.alloc _) rfl wq.1.size #[.slice Au q cu] rfl hnw.out rfl (by simp [Value.oneCell']) (by omega) (by omega) (by simp; omega) ?_; intro u' wA hown3 ht3 hat3 hne3; obtain ⟨g', cap', rfl, _⟩ := own_form hown3 (by omega); have HGA := dh (HGq.out.push1 (r := rowDR (nextDR a R) k q) (by rw [rowF_len]; exact own_base HO.out hzl) HV.out HVS.out (by rw [gridF_len]; exact hown3) ht3))
        exact ⟨⟨k + 1, c, by omega, rfl, congrArg (Value.int .i64) (by omega), dh (by rw [gridF_snoc]; exact HGA.out), HCR⟩, by simp [intOf]; omega⟩
     ·have hke : k = m := by omega
      subst hke
      have hbF := HG.out.below HBL.out
      cases b
      ·have he : R = simL a := InvR.done HA.out HI.out (fun i j hi hj => HC.out.1 rfl i j (by rw [HNN.out]; exact hi) (by rw [HNN.out]; exact hj) (.inl (by rw [HNN.out]; exact hi)))
       rw [he] at hbF
       have HF := dh ((hbF.base HB1.out).base HB0.out)
       clear he hbF
       go_wp2_with fail
       go_ret
       exact ⟨_, rfl, HF.out⟩
      ·have hlt := next_cnt (n := k) (HC.out.2 rfl)
       have hin : InvR a (gridDR (nextDR a R) k k) := by have := HI.out.next HA.out; rwa [← HNN.out] at this
       have HIN := dh hin
       have HGN := dh (HN.out.base HG.out.choose_spec.2.2)
       clear hin hbF
       go_wp2_with fail
       go_roundg (cntG k (gridDR (nextDR a R) k k))
       case rel => exact ⟨_, lR, HIN, HGN⟩
       case measure => omega
end Go.Proofs.YtiebpncpdbnelaaGreatDoor
namespace Go.Proofs.YtiebpncpdbnelaaGreatDoor
open Go.RowKit
theorem first33_any (l : List Int) (A : Option Addr) (n c : Nat) (w : World) (B : Nat) (hs : Sl w B 1 A n c (icells l)) (hn : n = l.length) (hln : n ≤ 100000000) (t : Int) (ht : t ∈ l) :
  Calls Tryz.prog 63 #[.slice A n c, .int .i64 t] w (fun en w' => en = .returned (.int .i64 ((firstP l t : Nat) : Int)) ∧ w' = w) := by
 subst hn
 obtain ⟨hfl, hfa⟩ := firstP_at ht
 have hcap := hs.cap
 have hmax := hs.max
 unfold maxLen at hmax
 have HS := dh hs
 have HFA := dh hfa
 obtain ⟨f, hf⟩ := xQ (firstP l t)
 rw [hf] at hfl HFA ⊢
 have HLO : Hid (∀ j, j < f → l.getD j 0 ≠ t) := dh (fun j hj => by
  have := (firstB_spec (fun i => decide (l.getD i 0 = t)) l.length).2.1 j (by rw [← hf] at hj; exact hj)
  exact of_decide_eq_false this)
 clear hs ht hfa hf
 go_enter Tryz.func63, Tryz.ntmps63
 go_wp2_with fail
 go_loopw [5] (fun i wr => ∃ m : Nat, m ≤ f ∧ i = .int .i64 (m : Int) ∧ wr = w) (fun i _ => f + 1 - (intOf i).toNat)
 case atStart => exact ⟨0, Nat.zero_le _, rfl, rfl⟩
 case round =>
  obtain ⟨m, hm, rfl, rfl⟩ := hrel
  have hlt : m < l.length := by omega
  have wm : IntKind.i64.wrap ((m : Int) + 1) = (m : Int) + 1 := by rw [wI]; omega
  have hm0 : (0 : Int) ≤ (m : Int) := by omega
  have hm1 : (m : Int) < (l.length : Int) := by omega
  obtain ⟨b, off, rfl, hbl, hcl⟩ := rd_intS HS.out hlt
  have hge : l.getD m 0 = l[m] := by rw [gD, gE hlt]; rfl
  by_cases he : m = f
  ·have hx : l[m] = t := by rw [← hge, he]; exact HFA.out
   rw [hx] at hcl
   subst he
   clear hx hge
   go_wp2_with fail
   go_ret
   exact ⟨rfl, rfl⟩
  ·have hx : (l[m] == t) = false := by rw [beq_eq_false_iff_ne, ← hge]; exact HLO.out m (by omega)
   obtain ⟨x, hxe⟩ := xQ (l[m])
   rw [hxe] at hx hcl
   clear hge hxe
   go_wp2_with fail
   go_roundw
   case rel => exact ⟨m + 1, by omega, by go_num, by trivial⟩
   case measure => simp [intOf]; omega
def condB (r : List (List Bool)) (l : List Int) (i k : Nat) : Bool := decide (l.getD k 0 ≠ l.getD i 0) && relL r (l.getD i 0).toNat (l.getD k 0).toNat && (!relL r (l.getD k 0).toNat (l.getD i 0).toNat || decide (firstP l (l.getD k 0) < i))
def staysU (r : List (List Bool)) (l : List Int) (i q : Nat) : Bool := decide (firstP l (l.getD i 0) = i) && (List.range q).all (fun k => !condB r l i k)
theorem staysU_snoc (r : List (List Bool)) (l : List Int) (i q : Nat) : staysU r l i (q + 1) = (staysU r l i q && !condB r l i q) := by
 unfold staysU
 rw [List.range_succ, List.all_append, Bool.and_assoc]
 simp
theorem staysU_end (r : List (List Bool)) (l : List Int) (i : Nat) : staysU r l i l.length = staysB r l i := rfl
theorem leftU_end (r : List (List Bool)) (l : List Int) : leftU r l l.length = leftL r l := rfl
theorem left33_any (l : List Int) (A : Option Addr) (n c : Nat) (Ar : Option Addr) (nr cr : Nat) (R : List (List Bool)) (w : World) (B : Nat) (hs : Sl w B 1 A n c (icells l)) (hR : Sl2 w B 1 Ar nr cr (R.map bcells)) (hB : B ≤ w.1.size) (hn : n = l.length) (hln : n ≤ 100000000) (hnr : nr = R.length) (hq : ∀ r ∈ R, r.length = R.length) (hl : ∀ t ∈ l, isNd R.length t = true) :
  Calls Tryz.prog 40 #[.slice A n c, .slice Ar nr cr] w (IntsPost w (leftL R l)) := by
 subst hn
 have hcap := hs.cap
 have hmax := hs.max
 unfold maxLen at hmax
 have hcr := hR.cap
 have hmr := hR.max
 unfold maxLen at hmr
 have HS := dh hs
 have HR := dh hR
 have HNR := dh hnr
 have HQ := dh hq
 have HL := dh hl
 have HFI : Hid (∀ (t : Int) (W : World), t ∈ l → Below w.1.size w W → Calls Tryz.prog 63 #[.slice A l.length c, .int .i64 t] W (fun en w' => en = .returned (.int .i64 ((firstP l t : Nat) : Int)) ∧ w' = W)) := dh (fun t W ht hb => first33_any l A l.length c W B (HS.out.below hb hB) rfl hln t ht)
 clear hs hR hnr hq hl
 go_enter Tryz.func40, Tryz.ntmps40
 go_wp2_with fail
 go_loopw [5, 6] (fun o i wr => ∃ m : Nat, m ≤ l.length ∧ i = .int .i64 (m : Int) ∧ Hid (wr.ownsRow w.1.size 3 1 o (leftU R l m).length (icells (leftU R l m))) ∧ Hid (Below w.1.size w wr)) (fun _ i _ => l.length - (intOf i).toNat)
 case atStart => exact ⟨0, Nat.zero_le _, rfl, dh (World.ownsRow_nil _ _ _ _), dh bR⟩
 case round =>
  obtain ⟨m, hm, rfl, HO, HB⟩ := hrel
  rename World => U
  have hz := HB.out.size
  by_cases hlt : m < l.length
  ·have wm : IntKind.i64.wrap ((m : Int) + 1) = (m : Int) + 1 := by rw [wI]; omega
   have hm0 : (0 : Int) ≤ (m : Int) := by omega
   have hm1 : (m : Int) < (l.length : Int) := by omega
   obtain ⟨b, off, hA, hbl, hcl⟩ := rd_intS (HS.out.below HB.out hB) hlt
   have hge : l.getD m 0 = l[m] := by rw [gD, gE hlt]; rfl
   have HMT := dh (mM hlt)
   obtain ⟨tn, htn, htl⟩ := isNd_nat (HL.out _ HMT.out)
   rw [htn] at hge hcl HMT
   have HGE := dh hge
   have HCL := dh hcl
   have HF1 := dh (HFI.out (tn : Int) U HMT.out HB.out)
   obtain ⟨f, hf⟩ := xQ (firstP l (tn : Int))
   have hst0 : ((f : Int) == (m : Int)) = staysU R l m 0 := by
    unfold staysU
    rw [HGE.out, hf, Bool.eq_iff_iff, beq_iff_eq]
    simp only [List.range_zero, List.all_nil, Bool.and_true, decide_eq_true_eq]
    omega
   rw [hf] at HF1
   obtain ⟨br, orr, Ar', dr, hAr, r0, hd1, hd2, hbr, bq, oq, hAq, hbq, r1⟩ := rd_relB HR.out HQ.out htl
   subst hA hAr hAq
   unfold maxLen at hd2
   rw [← HNR.out] at r0 hd1
   have R0 := dh r0
   have R1 := dh r1
   have htr : (tn : Int) < (nr : Int) := by rw [HNR.out]; omega
   have htn0 : (0 : Int) ≤ (tn : Int) := by omega
   clear hf htn hge r0 r1
   go_wp2_with fail
   refine HF1.out.mono ?_
   rintro e w5 ⟨rfl, hw5⟩
   rw [hw5]
   clear hw5 w5
   go_wp2_with fail
   clear hcl
   go_loopw [8, 9] (fun s k wq => ∃ q : Nat, q ≤ l.length ∧ s = .bool (staysU R l m q) ∧ k = .int .i64 (q : Int) ∧ wq = U) (fun _ k _ => l.length - (intOf k).toNat)
   case atStart => exact ⟨0, Nat.zero_le _, by first | rfl | exact congrArg Value.bool hst0, rfl, rfl⟩
   case round =>
    clear hst0
    obtain ⟨q, hq, rfl, rfl, hwq⟩ := hrel
    rw [hwq]
    clear hwq
    obtain ⟨sv, hsv⟩ := xQ (staysU R l m q)
    rw [hsv]
    by_cases hlq : q < l.length
    ·have wq1 : IntKind.i64.wrap ((q : Int) + 1) = (q : Int) + 1 := by rw [wI]; omega
     have hq0 : (0 : Int) ≤ (q : Int) := by omega
     have hq1 : (q : Int) < (l.length : Int) := by omega
     obtain ⟨b2, off2, hA2, -, hcq⟩ := rd_intS (HS.out.below HB.out hB) hlq
     cases hA2
     have hgq : l.getD q 0 = l[q] := by rw [gD, gE hlq]; rfl
     have HMU := dh (mM hlq)
     obtain ⟨un, hun, hul⟩ := isNd_nat (HL.out _ HMU.out)
     rw [hun] at hgq hcq HMU
     have hSN : staysU R l m (q + 1) = (sv && !(decide ((un : Int) ≠ (tn : Int)) && relL R tn un && (!relL R un tn || decide (firstP l (un : Int) < m)))) := by
      rw [staysU_snoc, hsv]
      unfold condB
      rw [hgq, HGE.out, tN, tN]
     have HSN := dh hSN
     have hur : (un : Int) < (nr : Int) := by rw [HNR.out]; omega
     have hun0 : (0 : Int) ≤ (un : Int) := by omega
     clear hsv hgq hun hSN
     by_cases he : un = tn
     ·subst he
      have hne : ((un : Int) != (un : Int)) = false := by simp
      have HS1 : Hid (staysU R l m (q + 1) = sv) := dh (by rw [HSN.out]; simp)
      go_wp2_with fail
      go_roundw
      case rel => exact ⟨q + 1, by omega, by rw [HS1.out], by go_num, by trivial⟩
      case measure => simp [intOf]; omega
     ·have hne : ((un : Int) != (tn : Int)) = true := by rw [bne_iff_ne]; omega
      have hne2 : decide ((un : Int) ≠ (tn : Int)) = true := decide_eq_true (by omega)
      rw [hne2, Bool.true_and] at HSN
      obtain ⟨br2, or2, Ar2, dr2, hAr2, r2, hd3, hd4, -, bk, ok, hAk, hbk, r3⟩ := rd_relB HR.out HQ.out hul
      cases hAr2
      subst hAk
      unfold maxLen at hd4
      rw [← HNR.out] at r2 hd3
      have r1u := R1.out un hul
      have r3t := r3 tn htl
      have hR0 := R0.out
      obtain ⟨c1, hc1⟩ := xQ (relL R tn un)
      obtain ⟨c2, hc2⟩ := xQ (relL R un tn)
      rw [hc1, hc2] at HSN
      rw [hc1] at r1u
      rw [hc2] at r3t
      have e0 := bC HB.out (by show br < _; omega) hR0
      have e1 := bC HB.out (by show bq < _; omega) r1u
      have e2 := bC HB.out (by show br < _; omega) r2
      have e3 := bC HB.out (by show bk < _; omega) r3t
      clear hne2 r2 r3 r1u r3t hR0 hc1 hc2 he
      cases c1
      ·have HS1 : Hid (staysU R l m (q + 1) = sv) := dh (by rw [HSN.out]; simp)
       go_wp2_with fail
       go_roundw
       case rel => exact ⟨q + 1, by omega, by rw [HS1.out], by go_num, by trivial⟩
       case measure => simp [intOf]; omega
      ·cases c2
       ·have HS1 : Hid (staysU R l m (q + 1) = false) := dh (by rw [HSN.out]; simp)
        go_wp2_with fail
        go_roundw
        case rel => exact ⟨q + 1, by omega, by rw [HS1.out], by go_num, by trivial⟩
        case measure => simp [intOf]; omega
       ·have HF2 := dh (HFI.out (un : Int) U HMU.out HB.out)
        obtain ⟨f2, hf2⟩ := xQ (firstP l (un : Int))
        rw [hf2] at HF2 HSN
        clear hf2
        go_wp2_with fail
        refine HF2.out.mono ?_
        rintro e w5 ⟨rfl, hw5⟩
        rw [hw5]
        clear hw5 w5
        by_cases hfm : f2 < m
        ·have hfi : (f2 : Int) < (m : Int) := by omega
         have HS1 : Hid (staysU R l m (q + 1) = false) := dh (by rw [HSN.out, decide_eq_true hfm]; simp)
         go_wp2_with fail
         go_roundw
         case rel => exact ⟨q + 1, by omega, by rw [HS1.out], by go_num, by trivial⟩
         case measure => simp [intOf]; omega
        ·have hfi : ¬ (f2 : Int) < (m : Int) := by omega
         have HS1 : Hid (staysU R l m (q + 1) = sv) := dh (by rw [HSN.out, decide_eq_false hfm]; simp)
         go_wp2_with fail
         go_roundw
         case rel => exact ⟨q + 1, by omega, by rw [HS1.out], by go_num, by trivial⟩
         case measure => simp [intOf]; omega
    ·have hqe : q = l.length := by omega
     subst hqe
     rw [staysU_end] at hsv
     have HSN : Hid (leftU R l (m + 1) = leftU R l m ++ (if sv = true then [(tn : Int)] else [])) := dh (by rw [leftU_snoc, hsv, HGE.out])
     have hle := leftU_le R l m
     clear hsv
     cases sv
     ·go_wp2_with fail
      go_roundw
      case rel => exact ⟨m + 1, by omega, by go_num, dh (by rw [HSN.out]; simpa using HO.out), HB⟩
      case measure => simp [intOf]; omega
     ·generalize leftU R l m = Y at *
      obtain ⟨Au, cu, rfl, -⟩ := own_sl HO.out
      have hnw := dh (heap_alloc_new U (.cells #[.int .i64 (tn : Int)] 3))
      go_wp2_with (at_builtin; refine wpList_push rfl (.tmp 66) (.tmp 68) 22 rfl w.1.size 3 1 8 sliceInt _ _ _ (HO.out.alloc _) rfl U.1.size #[.int .i64 (tn : Int)] rfl hnw.out rfl (by simp [Value.oneCell']) (by omega) (by omega) (by simp; omega) ?_; intro u' wA hown3 ht3 hat3 hne3; obtain ⟨g', cap', rfl, _⟩ := own_form hown3 (by omega); have HOA := dh hown3; have HBA := dh (HB.out.trans ((Tch.trans ((Tch.refl _ U).alloc _) ht3 (fun _ _ h => h)).below hz (fun k hk e => by have := (HO.out.lt k e).1; omega))))
      exact ⟨⟨m + 1, by omega, congrArg (Value.int .i64) (by omega), dh (by rw [HSN.out, if_pos rfl, lA, icells_append]; simpa [icells] using HOA.out), HBA⟩, by simp [intOf]; omega⟩
  ·have hme : m = l.length := by omega
   have HO2 : Hid (U.ownsRow w.1.size 3 1 u5 (leftL R l).length (icells (leftL R l))) := dh (by have := HO.out; rwa [hme, leftU_end] at this)
   clear HO hme
   go_wp2_with fail
   go_ret
   exact ⟨_, rfl, HO2.out, HB.out⟩
end Go.Proofs.YtiebpncpdbnelaaGreatDoor
