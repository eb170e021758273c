/- The walk of layer 32's reference: Direct. -/
import Derived.Test.YtiebpncpdbnelaaDoorRd1
set_option maxHeartbeats 8000000
set_option maxRecDepth 100000
namespace Go.Proofs.YtiebpncpdbnelaaDoor
open Go.RowKit
def rowDR (F : Nat → Nat → Bool) (i q : Nat) : List Bool := (List.range q).map (F i)
def gridDR (F : Nat → Nat → Bool) (n m : Nat) : List (List Bool) := (List.range m).map (fun i => rowDR F i n)
theorem rowF_len (F : Nat → Nat → Bool) (i q : Nat) : (rowDR F i q).length = q := by simp [rowDR]
theorem gridF_len (F : Nat → Nat → Bool) (n m : Nat) : (gridDR F n m).length = m := by simp [gridDR]
theorem rowF_snoc (F : Nat → Nat → Bool) (i q : Nat) : rowDR F i (q + 1) = rowDR F i q ++ [F i q] := by simp [rowDR, List.range_succ]
theorem gridF_snoc (F : Nat → Nat → Bool) (n m : Nat) : gridDR F n (m + 1) = gridDR F n m ++ [rowDR F m n] := by simp [gridDR, List.range_succ]
theorem gridF_rel {F : Nat → Nat → Bool} {n m i k : Nat} (hi : i < m) (hk : k < n) : relL (gridDR F n m) i k = F i k := by simp [relL, gridDR, rowDR, List.getD, hi, hk]
theorem gridF_row (F : Nat → Nat → Bool) (n : Nat) : ∀ r ∈ gridDR F n n, r.length = (gridDR F n n).length := fun r hr => by
 obtain ⟨i, _, rfl⟩ := List.mem_map.1 hr
 rw [gridF_len, rowF_len]
def nextDR (a : Aut) (R : List (List Bool)) (i k : Nat) : Bool := relL R i k && canD a R i k
structure InvR (a : Aut) (R : List (List Bool)) : Prop where
 len : R.length = a.nodes.length
 row : ∀ r ∈ R, r.length = R.length
 sim : ∀ i k, Sim a i k → relL R i k = true
theorem sim_can {a : Aut} {R : List (List Bool)} (hA : a.Ok) (h : InvR a R) {i k : Nat} (hs : Sim a i k) : canD a R i k = true := by
 obtain ⟨hi, hk⟩ := (sim_sim a).lt i k hs
 unfold canD
 rw [Bool.and_eq_true]
 refine ⟨(sim_sim a).one i k hs, List.all_eq_true.2 (fun t ht => ?_)⟩
 obtain ⟨tn, rfl, _⟩ := isNd_nat (hA.2 _ (at_mem hi) t ht)
 obtain ⟨u, hu, hr⟩ := (sim_sim a).go i k hs tn ht
 exact List.any_eq_true.2 ⟨u, hu, by rw [tN, tN]; exact h.sim _ _ hr⟩
theorem InvR.start (a : Aut) : InvR a (gridDR (fun _ _ => true) a.nodes.length a.nodes.length) :=
 ⟨gridF_len _ _ _, gridF_row _ _, fun i k hs => by obtain ⟨hi, hk⟩ := (sim_sim a).lt i k hs; rw [gridF_rel hi hk]⟩
theorem InvR.next {a : Aut} {R : List (List Bool)} (hA : a.Ok) (h : InvR a R) : InvR a (gridDR (nextDR a R) a.nodes.length a.nodes.length) :=
 ⟨gridF_len _ _ _, gridF_row _ _, fun i k hs => by
  obtain ⟨hi, hk⟩ := (sim_sim a).lt i k hs
  rw [gridF_rel hi hk, nextDR, h.sim i k hs, sim_can hA h hs]; rfl⟩
theorem rows_ext {R S : List (List Bool)} (hl : R.length = S.length) (hr : ∀ r ∈ R, r.length = R.length) (hs : ∀ r ∈ S, r.length = S.length) (h : ∀ i k, i < R.length → k < R.length → relL R i k = relL S i k) : R = S := by
 refine List.ext_getElem hl (fun i h1 h2 => ?_)
 refine List.ext_getElem (by rw [hr _ (mM h1), hs _ (mM h2), hl]) (fun k k1 k2 => ?_)
 have := h i k h1 (by rw [← hr _ (mM h1)]; exact k1)
 simpa [relL, List.getD, h1, h2, k1, k2] using this
theorem InvR.done {a : Aut} {R : List (List Bool)} (hA : a.Ok) (h : InvR a R) (hf : ∀ i k, i < a.nodes.length → k < a.nodes.length → nextDR a R i k = relL R i k) : R = simL a := by
 refine rows_ext (by rw [h.len, simL_len]) h.row (simL_row a) (fun i k hi hk => ?_)
 rw [h.len] at hi hk
 rw [Bool.eq_iff_iff, sim_rel]
 refine ⟨fun hr => ⟨fun i k => i < a.nodes.length ∧ k < a.nodes.length ∧ relL R i k = true, ⟨fun i k h => ⟨h.1, h.2.1⟩, fun i k e => ?_, fun i k e t ht => ?_⟩, hi, hk, hr⟩, fun hs => h.sim i k hs⟩
 ·have := hf i k e.1 e.2.1
  rw [nextDR, e.2.2, Bool.true_and, canD, Bool.and_eq_true] at this
  exact this.1
 ·have := hf i k e.1 e.2.1
  rw [nextDR, e.2.2, Bool.true_and, canD, Bool.and_eq_true] at this
  obtain ⟨u, hu, hru⟩ := List.any_eq_true.1 (List.all_eq_true.1 this.2 _ ht)
  obtain ⟨un, rfl, hul⟩ := isNd_nat (hA.2 _ (at_mem e.2.1) u hu)
  obtain ⟨tn, htn, htl⟩ := isNd_nat (hA.2 _ (at_mem e.1) _ ht)
  have : t = tn := by omega
  subst this
  rw [tN, tN] at hru
  exact ⟨un, hu, htl, hul, hru⟩
def cntG (n : Nat) (R : List (List Bool)) : Nat := ((List.range n).flatMap (fun i => (List.range n).map (fun k => (i, k)))).countP (fun p => relL R p.1 p.2)
theorem next_cnt {a : Aut} {R : List (List Bool)} {n : Nat} (h : ∃ j p, j < n ∧ p < n ∧ nextDR a R j p ≠ relL R j p) : cntG n (gridDR (nextDR a R) n n) < cntG n R := by
 obtain ⟨j, p, hj, hp, hne⟩ := h
 have hm : ∀ x : Nat × Nat, x ∈ (List.range n).flatMap (fun i => (List.range n).map (fun k => (i, k))) ↔ x.1 < n ∧ x.2 < n := fun x => by
  obtain ⟨x, y⟩ := x
  simp
 refine countP_less (fun x hx h => ?_) ⟨(j, p), (hm _).2 ⟨hj, hp⟩, ?_, ?_⟩
 ·obtain ⟨h1, h2⟩ := (hm x).1 hx
  rw [gridF_rel h1 h2, nextDR, Bool.and_eq_true] at h
  exact h.1
 ·cases hr : relL R j p
  ·exact absurd (by rw [nextDR, hr]; rfl) hne
  ·rfl
 ·show relL (gridDR (nextDR a R) n n) j p = false
  rw [gridF_rel hj hp]
  cases hv : nextDR a R j p
  ·rfl
  ·exfalso; rw [hv] at hne; rw [nextDR, Bool.and_eq_true] at hv; exact hne hv.1.symm
def ChB (a : Aut) (R : List (List Bool)) (n m q : Nat) (b : Bool) : Prop :=
 (b = false → ∀ j p, j < n → p < n → (j < m ∨ j = m ∧ p < q) → nextDR a R j p = relL R j p) ∧ (b = true → ∃ j p, j < n ∧ p < n ∧ nextDR a R j p ≠ relL R j p)
theorem ChB.start (a : Aut) (R : List (List Bool)) (n : Nat) : ChB a R n 0 0 false := ⟨fun _ j p _ _ h => absurd h (by omega), fun h => by cases h⟩
theorem ChB.next {a : Aut} {R : List (List Bool)} {n m q : Nat} {b : Bool} (h : ChB a R n m q b) (hm : m < n) (hq : q < n) : ChB a R n m (q + 1) (b || (nextDR a R m q != relL R m q)) := by
 refine ⟨fun e j p hj hp hc => ?_, fun e => ?_⟩
 ·rw [Bool.or_eq_false_iff] at e
  by_cases he : j = m ∧ p = q
  ·obtain ⟨rfl, rfl⟩ := he
   simpa using e.2
  ·exact h.1 e.1 j p hj hp (by omega)
 ·rw [Bool.or_eq_true] at e
  rcases e with e | e
  ·exact h.2 e
  ·exact ⟨m, q, hm, hq, by simpa using e⟩
theorem ChB.nextRow {a : Aut} {R : List (List Bool)} {n m : Nat} {b : Bool} (h : ChB a R n m n b) : ChB a R n (m + 1) 0 b := ⟨fun e j p hj hp hc => h.1 e j p hj hp (by omega), h.2⟩
theorem Grid.push1 {w w1 w2 : World} {v v' u : Value} {R : List (List Bool)} {r : List Bool} {X : Obj} (h : Grid w w1 v R) (hu : w1.ownsRow w.1.size 4 1 u r.length (bcells r)) {vs : List Value}
  (hv : w1.ownsRow w.1.size 54 1 v R.length vs) (hvs : ∀ (j : Nat) (r : List Bool), R[j]? = some r → ∃ u, vs[j]? = some u ∧ w1.ownsRow w.1.size 4 1 u r.length (bcells r))
  (hown : w2.ownsRow w.1.size 54 1 v' (R.length + 1) (vs ++ [u])) (ht : Tch (fun k => v.ownBlock = some k) (w1.alloc X) w2) : Grid w w2 v' (R ++ [r]) := by
 have hb : Below w1.1.size w1 (w1.alloc X) := bR.alloc lR _
 refine (h.below hb).push (own_below hu hb) (own_below hv hb) hown ht (fun j r hj => ?_)
 obtain ⟨u, h1, h2⟩ := hvs j r hj
 exact ⟨u, h1, own_below h2 hb⟩
theorem directR_any (a : Aut) (Ai : Option Addr) (ni ci : Nat) (An : Option Addr) (nn cn : Nat) (w : World) (B : Nat) (h : AutRd w B a Ai ni ci An nn cn) (hB : B ≤ w.1.size) (hck : chkA a = 0) (hnd : ∀ x ∈ a.nodes, x.need < 2 ^ 64 ∧ x.ban < 2 ^ 64 ∧ x.inn < 2 ^ 64) (hr : ∀ x ∈ a.nodes, x.to.length ≤ 1000000) :
  Calls Tryd.prog 44 #[.agg #[.int .i64 a.sets, .slice Ai ni ci, .slice An nn cn]] w (GridPost w (simL a)) := by
 have hb0 : Below w.1.size w (w.alloc (.cells #[.int .i64 a.sets, .slice Ai ni ci, .slice An nn cn] 25)) := bR.alloc lR _
 have x0 := heap_alloc_new w (.cells #[.int .i64 a.sets, .slice Ai ni ci, .slice An nn cn] 25)
 have z0 : (w.alloc (.cells #[.int .i64 a.sets, .slice Ai ni ci, .slice An nn cn] 25)).1.size = w.1.size + 1 := by simp
 obtain ⟨W0, hW0⟩ := xQ (w.alloc (.cells #[.int .i64 a.sets, .slice Ai ni ci, .slice An nn cn] 25))
 rw [hW0] at hb0 x0 z0
 have HR0 := dh (h.below hb0 hB)
 have HC0 := dh (chkR_any a Ai ni ci An nn cn W0 B HR0.out (by omega))
 rw [hck] at HC0
 obtain ⟨hn256, ⟨hs0, hs16⟩, hA, -⟩ := chk_iff.1 hck
 have HNN := dh h.enn
 have hnn : nn ≤ 256 := by rw [HNN.out]; exact hn256
 have HW0 := dh hW0
 have HB0 := dh hb0
 have HA := dh hA
 have hBw : B ≤ W0.1.size := by omega
 have hww : w.1.size < W0.1.size := by omega
 have HCL : Hid (∀ W', Below W0.1.size W0 W' → W'.cell? ⟨w.1.size, 0, none⟩ = some (.int .i64 a.sets) ∧ W'.cell? ⟨w.1.size, 1, none⟩ = some (.slice Ai ni ci) ∧ W'.cell? ⟨w.1.size, 2, none⟩ = some (.slice An nn cn)) := dh (fun W' hb => by
  have k0 := (hb.block w.1.size hww).trans x0
  refine ⟨?_, ?_, ?_⟩ <;> (rw [cell_of_row _ _ _ _ _ (0, 0) k0]; rfl))
 have HCN : Hid (∀ (W' : World) (Ar : Option Addr) (cr : Nat) (R : List (List Bool)) (i k : Nat), Below W0.1.size W0 W' → Sl2 W' W'.1.size 1 Ar nn cr (R.map bcells) → InvR a R → i < nn → k < nn → Calls Tryd.prog 73 #[.agg #[.int .i64 a.sets, .slice Ai ni ci, .slice An nn cn], .slice Ar nn cr, .int .i64 (i : Int), .int .i64 (k : Int)] W' (Tru W' (canD a R i k))) := dh (fun W' Ar cr R i k hb hs hv hi hk =>
  can32_any a Ai ni ci An nn cn W' W'.1.size ((HR0.out.below hb hBw).up (Nat.le_trans hBw hb.size)) lR HA.out hs0 hs16 hnd Ar cr R hs (by rw [hv.len, HNN.out]) hv.row i k hi hk hr)
 clear hW0 hb0 x0 z0 h hnd hck hr hs0 hs16 hn256 hA
 go_enter Tryd.func44, Tryd.ntmps44
 go_upto_region 1 with fail
 rw [HW0.out]
 obtain ⟨q0, q1, q2⟩ := HCL.out W0 bR
 go_wp2_with fail
 refine HC0.out.mono ?_
 rintro e w1 ⟨rfl, hb1⟩
 have HB1 := dh hb1
 have hz1 := hb1.size
 clear q0 q1 q2 hb1
 obtain ⟨q0, q1, q2⟩ := HCL.out w1 HB1.out
 go_wp2_with fail
 clear q0 q1 q2
 go_loopw [4, 5] (fun r i wr => ∃ m : Nat, m ≤ nn ∧ i = .int .i64 (m : Int) ∧ Hid (Grid w1 wr r (gridDR (fun _ _ => true) nn m))) (fun _ i _ => nn - (intOf i).toNat)
 case atStart => exact ⟨0, Nat.zero_le _, rfl, dh (Grid.nil w1)⟩
 case round =>
  obtain ⟨m, hm, rfl, HG⟩ := hrel
  have hzr := HG.out.choose_spec.2.2.size
  by_cases hlt : m < nn
  ·have wm : IntKind.i64.wrap ((m : Int) + 1) = (m : Int) + 1 := by rw [wI]; omega
   have hm1 : (m : Int) < (nn : Int) := by omega
   go_wp2_with fail
   go_loopw [6, 7] (fun o k wq => ∃ q : Nat, q ≤ nn ∧ k = .int .i64 (q : Int) ∧ Hid (wq.ownsRow wr.1.size 4 1 o q (bcells (rowDR (fun _ _ => true) m q))) ∧ Hid (Below wr.1.size wr wq)) (fun _ k _ => nn - (intOf k).toNat)
   case atStart => exact ⟨0, Nat.zero_le _, rfl, dh (World.ownsRow_nil _ _ _ _), dh bR⟩
   case round =>
    obtain ⟨q, hq, rfl, HO, HB⟩ := hrel
    rename World => wq
    have hzq := HB.out.size
    by_cases hlq : q < nn
    ·have wq1 : IntKind.i64.wrap ((q : Int) + 1) = (q : Int) + 1 := by rw [wI]; omega
     have hq1 : (q : Int) < (nn : Int) := by omega
     obtain ⟨Au, cu, rfl, -⟩ := own_sl HO.out
     have hnw := dh (heap_alloc_new wq (.cells #[.bool true] 4))
     go_wp2_with (at_builtin; refine wpList_push rfl (.tmp 30) (.tmp 31) 54 rfl wr.1.size 4 1 1 sliceBool _ _ _ (HO.out.alloc _) rfl wq.1.size #[.bool true] rfl hnw.out rfl (by simp [Value.oneCell']) (by omega) (by omega) (by simp; omega) ?_; intro u' wA hown3 ht3 hat3 hne3; obtain ⟨g', cap', rfl, _⟩ := own_form hown3 (by omega); have HOA := dh hown3; have HBA := dh (HB.out.trans ((Tch.trans ((Tch.refl _ wq).alloc _) ht3 (fun _ _ h => h)).below hzq (fun k hk e => by have := (HO.out.lt k e).1; omega))))
     exact ⟨⟨q + 1, by omega, congrArg (Value.int .i64) (by omega), dh (by rw [rowF_snoc, bcells_append]; simpa [bcells] using HOA.out), HBA⟩, by simp [intOf]; omega⟩
    ·have hqe : q = nn := by omega
     subst hqe
     obtain ⟨Au, cu, rfl, -⟩ := own_sl HO.out
     have HGq := dh (HG.out.below HB.out)
     obtain ⟨vs, hv, hvs, -⟩ := HGq.out
     have HVS := dh hvs
     have hv' := hv
     rw [gridF_len] at hv'
     obtain ⟨Ag, cg, rfl, -⟩ := own_sl hv'
     have HV := dh hv
     have HV' := dh hv'
     clear hv hvs hv'
     have hnw := dh (heap_alloc_new wq (.cells #[.slice Au q cu] 54))
     go_wp2_with (at_builtin; refine wpList_push rfl (.tmp 33) (.tmp 35) 48 rfl w1.1.size 54 1 24 sliceRows _ _ _ (HV'.out.alloc _) rfl wq.1.size #[.slice Au q cu] rfl hnw.out rfl (by simp [Value.oneCell']) (by omega) (by omega) (by simp; omega) ?_; intro u' wA hown3 ht3 hat3 hne3; obtain ⟨g', cap', rfl, _⟩ := own_form hown3 (by omega); have HGA := dh (HGq.out.push1 (r := rowDR (fun _ _ => true) m q) (by rw [rowF_len]; exact own_base HO.out hzr) HV.out HVS.out (by rw [gridF_len]; exact hown3) ht3))
     exact ⟨⟨m + 1, by omega, congrArg (Value.int .i64) (by omega), dh (by rw [gridF_snoc]; exact HGA.out)⟩, by simp [intOf]; omega⟩
  ·have hme : m = nn := by omega
   subst hme
   have HI0 : Hid (InvR a (gridDR (fun _ _ => true) m m)) := dh (by rw [HNN.out]; exact InvR.start a)
   go_wp2_with fail
   go_loopg [4] (cntG m (gridDR (fun _ _ => true) m m)) (fun gk r ws => ∃ R : List (List Bool), cntG m R ≤ gk ∧ Hid (InvR a R) ∧ Hid (Grid w1 ws r R))
   case atStart => exact ⟨_, lR, HI0, HG⟩
   case round =>
    clear HG HI0
    obtain ⟨R, hgk, HI, HG⟩ := hrel
    rename World => ws
    have hRl : R.length = m := by rw [HI.out.len, HNN.out]
    obtain ⟨Ar, cr, rfl, hS2⟩ := HG.out.sl2
    rw [hRl] at HG hS2 ⊢
    have HRL := dh hRl
    have HS2 := dh hS2
    have hbs := HG.out.choose_spec.2.2
    have HBS := dh (HB1.out.trans (hbs.mono hz1))
    have hzs := hbs.size
    have hcr := hS2.cap
    have hmr := hS2.max
    unfold maxLen at hmr
    clear hRl hS2 hbs
    go_wp2_with fail
    go_loopw [8, 9, 10] (fun nx ch i wl => ∃ (k : Nat) (b : Bool), k ≤ m ∧ ch = .bool b ∧ i = .int .i64 (k : Int) ∧ Hid (Grid ws wl nx (gridDR (nextDR a R) m k)) ∧ Hid (ChB a R m k 0 b)) (fun _ _ i _ => m - (intOf i).toNat)
    case atStart => exact ⟨0, false, Nat.zero_le _, rfl, rfl, dh (Grid.nil ws), dh (ChB.start a R m)⟩
    case round =>
     obtain ⟨k, b, hk, rfl, rfl, HN, HC⟩ := hrel
     rename World => wl
     have hbl := HN.out.choose_spec.2.2
     have HBL := dh hbl
     have hzl := hbl.size
     clear hbl
     by_cases hlk : k < m
     ·have wk : IntKind.i64.wrap ((k : Int) + 1) = (k : Int) + 1 := by rw [wI]; omega
      have hk0 : (0 : Int) ≤ (k : Int) := by omega
      have hk1 : (k : Int) < (m : Int) := by omega
      obtain ⟨br, orr, Ar', dr, hAr, r0, hd1, hd2, hbr, bq, oq, hAq, hbq, r1⟩ := rd_relB HS2.out HI.out.row (i := k) (by rw [HRL.out]; exact hlk)
      subst hAr hAq
      rw [HRL.out] at r0 hd1
      rw [HRL.out] at r1
      have R0 := dh r0
      have R1 := dh r1
      unfold maxLen at hd2
      clear r0 r1
      go_wp2_with fail
      go_loopw [9, 11, 12] (fun ch o p wq => ∃ (q : Nat) (b : Bool), q ≤ m ∧ ch = .bool b ∧ p = .int .i64 (q : Int) ∧ Hid (wq.ownsRow wl.1.size 4 1 o q (bcells (rowDR (nextDR a R) k q))) ∧ Hid (Below wl.1.size wl wq) ∧ Hid (ChB a R m k q b)) (fun _ _ p _ => m - (intOf p).toNat)
      case atStart => exact ⟨0, b, Nat.zero_le _, rfl, rfl, dh (World.ownsRow_nil _ _ _ _), dh bR, HC⟩
      case round =>
       clear HC
       obtain ⟨q, c, hq, rfl, rfl, HO, HB, HC⟩ := hrel
       rename World => wq
       have hzq := HB.out.size
       have HBq := dh (HBL.out.trans (HB.out.mono hzl))
       by_cases hlq : q < m
       ·have wq1 : IntKind.i64.wrap ((q : Int) + 1) = (q : Int) + 1 := by rw [wI]; omega
        have hq0 : (0 : Int) ≤ (q : Int) := by omega
        have hq1 : (q : Int) < (m : Int) := by omega
        have HCN1 := dh (HCN.out wq (some ⟨br, orr, none⟩) cr R k q (HBS.out.trans (HBq.out.mono (by omega))) ((HS2.out.below HBq.out lR).up HBq.out.size) HI.out hlk hlq)
        have HCC := dh (HC.out.next hlk hlq)
        have HSN := dh (rowF_snoc (nextDR a R) k q)
        obtain ⟨rv, hrv⟩ := xQ (relL R k q)
        obtain ⟨cv, hcv⟩ := xQ (canD a R k q)
        have hnx : nextDR a R k q = (rv && cv) := by rw [nextDR, hrv, hcv]
        rw [hnx, hrv] at HCC
        rw [hnx] at HSN
        rw [hcv] at HCN1
        have hR1 := R1.out q hlq
        rw [hrv] at hR1
        have HR1 := dh hR1
        obtain ⟨q0, q1, q2⟩ := HCL.out wq (HBS.out.trans (HBq.out.mono (by omega)))
        have e0 := bC HBq.out (by show br < _; omega) R0.out
        have e1 := bC HBq.out (by show bq < _; omega) HR1.out
        clear hrv hcv hnx hR1
        cases rv
        ·clear HCN1 q0 q1 q2
         obtain ⟨Au, cu, rfl, -⟩ := own_sl HO.out
         have hnw := dh (heap_alloc_new wq (.cells #[.bool false] 4))
         cases c <;> (go_wp2_with (at_builtin; refine wpList_push rfl (.tmp 73) (.tmp 75) 54 rfl wl.1.size 4 1 1 sliceBool _ _ _ (HO.out.alloc _) rfl wq.1.size #[.bool false] rfl hnw.out rfl (by simp [Value.oneCell']) (by omega) (by omega) (by simp; omega) ?_; intro u' wA hown3 ht3 hat3 hne3; obtain ⟨g', cap', rfl, _⟩ := own_form hown3 (by omega); have HOA := dh hown3; have HBA := dh (HB.out.trans ((Tch.trans ((Tch.refl _ wq).alloc _) ht3 (fun _ _ h => h)).below hzq (fun k hk e => by have := (HO.out.lt k e).1; omega))))) <;> exact ⟨⟨q + 1, _, by omega, rfl, congrArg (Value.int .i64) (by omega), dh (by rw [HSN.out, bcells_append]; simpa [bcells] using HOA.out), HBA, HCC⟩, by simp [intOf]; omega⟩
        ·go_wp2_with fail
         refine HCN1.out.mono ?_
         rintro e w5 ⟨rfl, hb5⟩
         have hz5 := hb5.size
         have f0 := bC hb5 (by show br < _; omega) e0
         have f1 := bC hb5 (by show bq < _; omega) e1
         have HO5 := dh (own_below HO.out hb5)
         have HB5 := dh (HB.out.trans (hb5.mono hzq))
         clear hb5 q0 q1 q2 e0 e1
         obtain ⟨Au, cu, rfl, -⟩ := own_sl HO5.out
         have hnw := dh (heap_alloc_new w5 (.cells #[.bool cv] 4))
         cases c <;> cases cv <;> (go_wp2_with (at_builtin; refine wpList_push rfl (.tmp 73) (.tmp 75) 54 rfl wl.1.size 4 1 1 sliceBool _ _ _ (HO5.out.alloc _) rfl w5.1.size #[.bool _] rfl hnw.out rfl (by simp [Value.oneCell']) (by omega) (by omega) (by simp; omega) ?_; intro u' wA hown3 ht3 hat3 hne3; obtain ⟨g', cap', rfl, _⟩ := own_form hown3 (by omega); have HOA := dh hown3; have HBA := dh (HB5.out.trans ((Tch.trans ((Tch.refl _ w5).alloc _) ht3 (fun _ _ h => h)).below (by omega) (fun k hk e => by have := (HO5.out.lt k e).1; omega))))) <;> exact ⟨⟨q + 1, _, by omega, rfl, congrArg (Value.int .i64) (by omega), dh (by rw [HSN.out, bcells_append]; simpa [bcells] using HOA.out), HBA, HCC⟩, by simp [intOf]; omega⟩
       ·have hqe : q = m := by omega
        subst hqe
        obtain ⟨Au, cu, rfl, -⟩ := own_sl HO.out
        have HGq := dh (HN.out.below HB.out)
        obtain ⟨vs, hv, hvs, -⟩ := HGq.out
        have HVS := dh hvs
        have hv' := hv
        rw [gridF_len] at hv'
        obtain ⟨Ag, cg, rfl, -⟩ := own_sl hv'
        have HV := dh hv
        have HV' := dh hv'
        have HCR := dh HC.out.nextRow
        clear hv hvs hv'
        have hnw := dh (heap_alloc_new wq (.cells #[.slice Au q cu] 54))
        go_wp2_with (at_builtin; refine wpList_push rfl (.tmp 77) (.tmp 79) 48 rfl ws.1.size 54 1 24 sliceRows _ _ _ (HV'.out.alloc _) rfl wq.1.size #[.slice Au q cu] rfl hnw.out rfl (by simp [Value.oneCell']) (by omega) (by omega) (by simp; omega) ?_; intro u' wA hown3 ht3 hat3 hne3; obtain ⟨g', cap', rfl, _⟩ := own_form hown3 (by omega); have HGA := dh (HGq.out.push1 (r := rowDR (nextDR a R) k q) (by rw [rowF_len]; exact own_base HO.out hzl) HV.out HVS.out (by rw [gridF_len]; exact hown3) ht3))
        exact ⟨⟨k + 1, c, by omega, rfl, congrArg (Value.int .i64) (by omega), dh (by rw [gridF_snoc]; exact HGA.out), HCR⟩, by simp [intOf]; omega⟩
     ·have hke : k = m := by omega
      subst hke
      have hbF := HG.out.below HBL.out
      cases b
      ·have he : R = simL a := InvR.done HA.out HI.out (fun i j hi hj => HC.out.1 rfl i j (by rw [HNN.out]; exact hi) (by rw [HNN.out]; exact hj) (.inl (by rw [HNN.out]; exact hi)))
       rw [he] at hbF
       have HF := dh ((hbF.base HB1.out).base HB0.out)
       clear he hbF
       go_wp2_with fail
       go_ret
       exact ⟨_, rfl, HF.out⟩
      ·have hlt := next_cnt (n := k) (HC.out.2 rfl)
       have hin : InvR a (gridDR (nextDR a R) k k) := by have := HI.out.next HA.out; rwa [← HNN.out] at this
       have HIN := dh hin
       have HGN := dh (HN.out.base HG.out.choose_spec.2.2)
       clear hin hbF
       go_wp2_with fail
       go_roundg (cntG k (gridDR (nextDR a R) k k))
       case rel => exact ⟨_, lR, HIN, HGN⟩
       case measure => omega
end Go.Proofs.YtiebpncpdbnelaaDoor
