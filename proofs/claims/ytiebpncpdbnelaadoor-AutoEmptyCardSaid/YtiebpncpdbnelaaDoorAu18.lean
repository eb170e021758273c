/- The walks of layer 30 (auto): Witness. -/
import Derived.Test.YtiebpncpdbnelaaDoorZbs
set_option maxHeartbeats 8000000
set_option maxRecDepth 100000
namespace Go.Proofs.YtiebpncpdbnelaaDoor
open Go.RowKit Go.Shelf
attribute [local go_sem] Oper.semAt_some
theorem witness_in (m : Nat) (hm : 8 ≤ m) (a : Aut) (Ai : Option Addr) (ni ci : Nat) (An : Option Addr) (nn cn : Nat) (w : World) (B : Nat) (h : AutRd w B a Ai ni ci An nn cn) (hB : B ≤ w.1.size) (hT : TabAt 0 Lib.deBruijn64tab w) (hg : 0 < w.1.size)
  (hnd : ∀ x ∈ a.nodes, x.need < 2 ^ 64 ∧ x.ban < 2 ^ 64) (hinn : ∀ x ∈ a.nodes, x.inn < 2 ^ 64) (KE : Nat) (hr : ∀ x ∈ a.nodes, x.to.length ≤ KE) (hri : a.init.length ≤ 100000000) (hKE : KE ≤ 1000000) :
  CallsIn Fence.wide m Tryd.prog 31 #[.agg #[.int .i64 a.sets, .slice Ai ni ci, .slice An nn cn]] w (WitPost w a) := by
 have h1m : 1 ≤ m := by omega
 obtain ⟨hb0, x0, y0, u0, z0⟩ := three_new w (.cells #[.int .i64 a.sets, .slice Ai ni ci, .slice An nn cn] 25) (.cells #[.slice none 0 0, .slice none 0 0] 29) (.cells #[.bool false] 4)
 obtain ⟨W0, hW0⟩ := xQ (((w.alloc (.cells #[.int .i64 a.sets, .slice Ai ni ci, .slice An nn cn] 25)).alloc (.cells #[.slice none 0 0, .slice none 0 0] 29)).alloc (.cells #[.bool false] 4))
 rw [hW0] at hb0 x0 y0 u0 z0
 have HR0 := dh (h.below hb0 hB)
 have HC0 := dh (autoCheck_any a Ai ni ci An nn cn W0 B HR0.out (by omega) hri (fun x hx => by have := hr x hx; omega))
 have HW0 := dh hW0
 have HB0 := dh hb0
 have HX0 := dh x0
 have HY0 := dh y0
 have HU0 := dh u0
 have HZ0 := dh z0
 have HG := dh hg
 have HTB := dh hT
 clear hW0 hb0 x0 y0 u0 z0 h hT hg
 refine callsIn_of_wp_marks Tryd.func31 rfl trivial ?_ rfl
 refine wpIn_wide.2 ?_
 simp only [Tryd.ntmps31, List.size_toArray, List.length_cons, List.length_nil, Nat.reduceAdd, Nat.reduceSub, Array.replicate_succ, Array.replicate_zero, List.push_toArray, List.append_toArray, List.nil_append, List.cons_append]
 go_upto_region 1 with fail
 rw [HW0.out]
 have q0 : W0.cell? ⟨w.1.size, 0, none⟩ = some (.int .i64 a.sets) := cR HX0.out
 have q1 : W0.cell? ⟨w.1.size, 1, none⟩ = some (.slice Ai ni ci) := cR HX0.out
 have q2 : W0.cell? ⟨w.1.size, 2, none⟩ = some (.slice An nn cn) := cR HX0.out
 go_wp2_with fail
 refine HC0.out.mono ?_
 rintro e w1 ⟨rfl, hb1⟩
 have hx1 : w1.1[w.1.size]? = some _ := (hb1.block w.1.size (by have := HZ0.out; omega)).trans HX0.out
 have hy1 : w1.1[w.1.size + 1]? = some _ := (hb1.block (w.1.size + 1) (by have := HZ0.out; omega)).trans HY0.out
 have hu1 : w1.1[w.1.size + 1 + 1]? = some _ := (hb1.block (w.1.size + 1 + 1) (by have := HZ0.out; omega)).trans HU0.out
 have hz1 := hb1.size
 have HB1 := dh hb1
 have HBB := dh (HB0.out.trans (HB1.out.mono (show w.1.size ≤ W0.1.size by have := HZ0.out; omega)))
 clear hb1 q0 q1 q2
 by_cases hck : chkA a = 0
 ·have HCK := dh hck
  obtain ⟨hn256, ⟨hs0, hs16⟩, hA, -⟩ := chk_iff.1 hck
  have HOK := dh hA
  obtain ⟨s, hss⟩ : ∃ s : Nat, a.sets = s := ⟨a.sets.toNat, by omega⟩
  have HX1 := dh hx1
  have HY1 := dh hy1
  have HU1 := dh hu1
  have hx1' := hx1
  rw [hss] at hx1'
  have q0 : w1.cell? ⟨w.1.size, 0, none⟩ = some (.int .i64 (s : Int)) := cR hx1'
  have q1 : w1.cell? ⟨w.1.size, 1, none⟩ = some (.slice Ai ni ci) := cR hx1'
  have q2 : w1.cell? ⟨w.1.size, 2, none⟩ = some (.slice An nn cn) := cR hx1'
  have HNN := dh HR0.out.enn
  have hnn : nn ≤ 256 := by rw [HNN.out]; exact hn256
  have HR1 := dh (HR0.out.below HB1.out (show B ≤ W0.1.size by have := HZ0.out; omega))
  have HOV := dh (over_any a s Ai ni ci An nn cn w1 B HR1.out (by have := HZ0.out; omega) HOK.out (by omega) hnd hri (by omega) (fun x hx => by have := hr x hx; omega))
  have HSS := dh hss
  rw [hck]
  clear hx1 hx1' hy1 hu1 hss hck hn256
  go_wp2_with fail
  refine HOV.out.mono ?_
  rintro e w3 hp
  obtain ⟨pi, qi, ri, pe, qe, re, pl, ql, rl, pc, qc, rc, vs, rfl, how, hb3⟩ := hp.owned
  have hpl := how.rd
  have HQI := dh hpl.eni
  have HQE : Hid (qe = nn) := dh (by have := hpl.ene; rw [openE_len] at this; rw [this, HNN.out])
  have HQL : Hid (ql = nn) := dh (by have := hpl.enl; rw [this, HNN.out]; simp [needsA])
  have HQC : Hid (qc = nn) := dh (by have := hpl.enc; rw [this, insA_len, HNN.out])
  have HOW3 := dh how
  have HB3 := dh hb3
  have hz3 := hb3.size
  clear hp hpl hb3 how q0 q1 q2
  obtain ⟨W3, hW3⟩ := xQ (w3.alloc (.cells #[.slice pi qi ri, .slice pe qe re, .slice pl ql rl, .slice pc qc rc, .int .u64 (allB s : Int)] 74))
  have HW3 := dh hW3
  have hbW3 : Below w3.1.size w3 W3 := by rw [← hW3]; exact bR.alloc lR _
  have hzW3 : W3.1.size = w3.1.size + 1 := by rw [← hW3]; simp
  have hp3 : W3.1[w3.1.size]? = some (.cells #[.slice pi qi ri, .slice pe qe re, .slice pl ql rl, .slice pc qc rc, .int .u64 (allB s : Int)] 74 (0, 0)) := by rw [← hW3]; exact heap_alloc_new w3 _
  have HBW3 := dh (HB3.out.trans (hbW3.mono hz3))
  obtain ⟨p0, p1, p2, p3, p4⟩ := box5A hp3
  have HPG := dh (playGood_any (.slice pi qi ri) (.slice pe qe re) (.slice pl ql rl) (.slice pc qc rc) (.int .u64 (allB s : Int)))
  obtain ⟨W4, hW4⟩ := xQ (W3.alloc (.cells #[.slice pi qi ri, .slice pe qe re, .slice pl ql rl, .slice pc qc rc, .int .u64 (allB s : Int)] 74))
  have hb4 : Below W3.1.size W3 W4 := by rw [← hW4]; exact bR.alloc lR _
  have hz4 : W4.1.size = w3.1.size + 2 := by rw [← hW4]; simp; omega
  have hq4 : W4.1[w3.1.size + 1]? = some (.cells #[.slice pi qi ri, .slice pe qe re, .slice pl ql rl, .slice pc qc rc, .int .u64 (allB s : Int)] 74 (0, 0)) := by rw [← hW4, ← hzW3]; exact heap_alloc_new W3 _
  have HP4 := dh ((hb4.block w3.1.size (by omega)).trans hp3)
  have HQ4 := dh hq4
  have HOW4 := dh (HOW3.out.tch (M := fun _ => False) (((below_tch hbW3).then_ ((below_tch hb4)))) (fun k e => e.elim))
  have HBW4 := dh (HBW3.out.trans (hb4.mono (show w1.1.size ≤ W3.1.size by omega)))
  have HY4 := dh ((HBW4.out.block (w.1.size + 1) (by have := HZ0.out; omega)).trans HY1.out)
  have HU4 := dh ((HBW4.out.block (w.1.size + 1 + 1) (by have := HZ0.out; omega)).trans HU1.out)
  have HW4 := dh hW4
  have HHZ4 := dh hz4
  clear hW3 hbW3 hp3 hW4 hb4 hq4 hz4
  go_upto_region 4 with fail
  rw [HW3.out]
  go_wp2_with fail
  refine (HPG.out _).mono ?_
  rintro e w' ⟨rfl, rfl⟩
  go_wp2_with fail
  rw [HW4.out]
  have hz4 := HHZ4.out
  have hz0 := HZ0.out
  clear p0 p1 p2 p3 p4
  have hWW : Below w.1.size w W4 := HBB.out.trans (HBW4.out.mono (show w.1.size ≤ w1.1.size by omega))
  have HWW := dh hWW
  have hM0 : ∀ k, (fun k => k = w.1.size + 1 ∨ k = w.1.size + 1 + 1) k → k < W4.1.size := fun k e => by rcases e with e | e <;> omega
  have hM1 : ∀ k, (fun k => k = w.1.size + 1 ∨ k = w.1.size + 1 + 1) k → k < w1.1.size := fun k e => by rcases e with e | e <;> omega
  have hM2 : ∀ k, (fun k => k = w.1.size + 1 ∨ k = w.1.size + 1 + 1) k → w.1.size ≤ k := fun k e => by rcases e with e | e <;> omega
  have hqe : qe ≤ 256 := by rw [HQE.out]; exact hnn
  have hqc : qc ≤ 256 := by rw [HQC.out]; exact hnn
  have hql : ql ≤ 256 := by rw [HQL.out]; exact hnn
  have HIL : Hid ((insA a).length = (openE a).length) := dh (by rw [insA_len, openE_len])
  refine (wpIn_wide (n := m)).1 ?_
  refine wpIn_rangeFunc_R rfl h1m (gf := 96) (lb := #[.pointer (some ⟨w3.1.size + 1, 0, none⟩)]) rfl trivial (enters_of Tryd.func96 (by kernel_rfl) rfl)
   (good_K (m - 1) (by omega) (openE a) (insA a) s (.slice pi qi ri) (.slice pl ql rl) pe qe re pc qc rc (w3.1.size + 1) (fun k => k = w.1.size + 1 ∨ k = w.1.size + 1 + 1) W4 hM0 (fun W' ht => have hrd := (HOW4.out.tch ht hM1).rd; ⟨hrd.g.he, hrd.i⟩) HQ4.out (fun e => by rcases e with e | e <;> omega) (open_nd HOK.out) (by omega) (fun r h => by have := open_row hr r h; omega) HIL.out (ins_lt hinn) (by have := HSS.out; omega))
   hM0 (fun x N args W hx => by obtain ⟨u, rfl, _⟩ := hx; rfl) (fun x N N' args W hN hx => hx.mono hN)
   (fun (s' : List (List Nat) × (Nat → Prop)) X => ((∀ l ∈ s'.1, (pathE (openE a) (partG (openE a).length l) (openI a)).2 = false) ∧ X.1[w.1.size + 1]? = some (.cells #[.slice none 0 0, .slice none 0 0] 29 (0, 0)) ∧ X.1[w.1.size + 1 + 1]? = some (.cells #[.bool false] 4 (0, 0))) ∧ (Rnd (fun k => k = w.1.size + 1 ∨ k = w.1.size + 1 + 1) W4 s'.2 X ∧ (s'.2 (w.1.size + 1) ∧ s'.2 (w.1.size + 1 + 1))))
   (fun c s' X => c = .ret ∧ WSt w a w1.1.size (w.1.size + 1) (w.1.size + 1 + 1) X)
   (OwnFrom.and (OwnFrom.and (ownFrom_pure _ _) (OwnFrom.and (cells_own _ _ _ _ _) (cells_own _ _ _ _ _))) (OwnFrom.and (ownFrom_rnd lR (fun s' : List (List Nat) × (Nat → Prop) => s'.2)) (ownFrom_pure _ _)))
   (fun c => OwnFrom.and (ownFrom_pure _ _) (wst_own w a _ _ _ _ hWW.size))
   ⟨⟨fun l hl => (by cases hl), HY4.out, HU4.out⟩, Rnd.refl hM0, .inl rfl, .inr rfl⟩
   (fun (x : List Nat) a' V => ∃ Au cu, a' = { tmps := #[.agg #[.int .i64 a.sets, .slice Ai ni ci, .slice An nn cn], .pointer (some ⟨w.1.size, 0, none⟩), .pointer (some ⟨w.1.size + 1, 0, none⟩), .pointer (some ⟨w.1.size + 1 + 1, 0, none⟩), .pointer (some ⟨w3.1.size, 0, none⟩), .slice Au x.length cu, undef, undef, undef, undef, undef, undef, undef, undef, undef, undef, .agg #[.int .i64 a.sets, .slice Ai ni ci, .slice An nn cn], .int .i64 0, .bool false, undef, .agg #[.int .i64 (s : Int), .slice Ai ni ci, .slice An nn cn], .agg #[.slice pi qi ri, .slice pe qe re, .slice pl ql rl, .slice pc qc rc, .int .u64 (allB s : Int)], .agg #[.slice pi qi ri, .slice pe qe re, .slice pl ql rl, .slice pc qc rc, .int .u64 (allB s : Int)], .func (.func 96) #[] #[.pointer (some ⟨w3.1.size + 1, 0, none⟩)], .slice Au x.length cu, undef, undef, undef, undef, undef, undef, undef, undef, undef, undef, undef, undef, undef, undef, undef, undef, undef, undef, undef, undef, undef, undef, undef, undef, undef, undef, undef, undef, undef, undef, undef, undef, undef, undef, undef, undef, undef, undef, undef, undef, undef, undef, undef, undef, undef, undef, undef, undef, undef, undef, undef, undef, undef, undef, undef, undef, undef, undef, undef, undef, undef, undef, undef, undef, undef, undef, undef, undef, undef, undef, undef, undef, undef, undef, undef, undef], defers := [] } ∧ V.ownsRow 0 3 1 (.slice Au x.length cu) x.length (icells (natI x)) ∧ ∀ g, (Value.slice Au x.length cu).ownBlock = some g → ¬ (g = w.1.size + 1 ∨ g = w.1.size + 1 + 1))
   (fun x a' s X Y row hx hg hrr => by
    obtain ⟨Au, cu, h1, h2, h3⟩ := hx
    exact ⟨Au, cu, h1, row_own _ _ _ _ _ _ _ () X Y row h2 hg hrr, h3⟩) ?assign ?body ?done ?stop
  case assign =>
   intro l2 pre x N1 args V K hi hx hlen hK
   obtain ⟨u, rfl, hu, hNu⟩ := hx
   obtain ⟨Au, cu, rfl, -⟩ := own_sl hu
   gi_wp2
   exact hK _ _ (Tch.refl _ _) hi ⟨Au, cu, rfl, hu, fun g hg e => hNu g hg (e.elim (fun e => e ▸ hi.2.2.1) (fun e => e ▸ hi.2.2.2))⟩
  case body =>
   rintro l2 pre x N1 a2 X hl2 _ _ hNX ⟨⟨hno, hy, hu⟩, hrnd, hN1, hN2⟩ ⟨Au, cu, rfl, hox, hxM⟩ hlen
   dsimp only at hno hrnd hN1 hN2
   have hzX := hrnd.tch.size
   have hxm : x ∈ goodL (openE a) (insA a) s := by
    obtain ⟨t, ht⟩ := hlen
    rw [← ht]; simp
   obtain ⟨⟨mm, hmm, hxl⟩, hxn, hcy, hmet⟩ := good_facts hxm
   have hpo := HOW4.out.tch hrnd.tch hM1
   have hrd := hpo.rd
   have hpX : X.1[w3.1.size]? = some (.cells #[.slice pi qi ri, .slice pe qe re, .slice pl ql rl, .slice pc qc rc, .int .u64 (allB s : Int)] 74 (0, 0)) := (hrnd.tch.block w3.1.size (by omega) (fun e => by rcases e with e | e <;> omega)).trans HP4.out
   have hbwX := HWW.out.trans (rnd_below hrnd (show w.1.size ≤ W4.1.size by omega) hM2)
   obtain ⟨np, hnp⟩ := xQ x.length
   have HNP := dh hnp
   rw [hnp] at hox ⊢
   have HXL := dh hxl
   have HXN := dh hxn
   have HCY := dh hcy
   have HMET := dh hmet
   have HXM := dh hxm
   have HNO := dh hno
   have HY := dh hy
   have HU := dh hu
   have HRND := dh hrnd
   have HNX := dh hNX
   have HOX := dh hox
   have HPO := dh hpo
   have HRD := dh hrd
   have HPX := dh hpX
   have HBWX := dh hbwX
   have c3 : X.cell? ⟨w3.1.size, 3, none⟩ = some (.slice pc qc rc) := cR hpX
   have hmk := run_make_row' (P := Tryd.prog) 54 4 (.bool false) 1 Tryd.underlying54 infoB8 rfl .i64 .i64 qc (by omega) (by omega)
   have HQCE : Hid (qc = (openE a).length) := dh (by rw [openE_len, HQC.out, HNN.out])
   have HQEE : Hid (qe = (openE a).length) := dh (by rw [openE_len, HQE.out, HNN.out])
   clear hnp hxl hxn hcy hmet hxm hno hy hu hrnd hNX hox hpo hrd hpX hbwX hlen
   gi_wp2
   obtain ⟨X1, hX1⟩ := xQ (X.alloc (.cells (madeCells #[.bool false] qc) 4))
   have hb1 : Below X.1.size X X1 := by rw [← hX1]; exact bR.alloc lR _
   have hzX1 : X1.1.size = X.1.size + 1 := by rw [← hX1]; simp
   have hrow1 : X1.ownsRow X.1.size 4 1 (.slice (some ⟨X.1.size, 0, none⟩) qc qc) qc (bcells (List.replicate qc false)) := by
    have h1 := own_made (w := X) (base := X.1.size) (e := 4) (v := .bool false) (n := qc) lR (by unfold maxLen; omega)
    rw [hX1] at h1
    have e : bcells (List.replicate qc false) = List.replicate qc (.bool false) := by simp [bcells]
    rw [e]
    exact h1
   have HROW1 := dh hrow1
   have HBX1 := dh hb1
   rw [hX1]
   clear hX1 hmk hrow1 hb1
   gi_loopw [31] (fun i V' => ∃ q : Nat, q ≤ np ∧ i = .int .i64 (q : Int) ∧ Hid (V'.ownsRow X.1.size 4 1 (.slice (some ⟨X.1.size, 0, none⟩) qc qc) qc (bcells ((x.take q).foldl (fun r y => r.set y true) (List.replicate qc false)))) ∧ Hid (Tch (fun k => k = X.1.size) X1 V')) (fun i _ => np - (intOf i).toNat)
   case atStart => exact ⟨0, by omega, rfl, HROW1, dh (Tch.refl _ _)⟩
   case round =>
    obtain ⟨q, hq, rfl, HRQ, HTQ⟩ := hrel
    have hzV := HTQ.out.size
    have HBQ := dh (HBX1.out.trans (HTQ.out.below (B := X.1.size) (by omega) (fun k hk e => by have e : k = X.1.size := e; omega)))
    by_cases hql' : q < np
    ·have hq0 : (0 : Int) ≤ (q : Int) := by omega
     have hq1 : (q : Int) < (np : Int) := by omega
     have hqP : q < x.length := by rw [HNP.out]; exact hql'
     obtain ⟨A', c', hf, hsu⟩ := own_sl (own_below HOX.out HBQ.out)
     cases hf
     obtain ⟨b1, o1, hA1, hb1, hcl⟩ := hsu.rd.at_ (nat_at hqP)
     have hcu := hsu.cap
     have hmu := hsu.max
     unfold maxLen at hmu
     have wq : IntKind.i64.wrap ((q : Int) + 1) = (q : Int) + 1 := by rw [wI]; omega
     subst hA1
     obtain ⟨y, hy⟩ := xQ (x.getD q 0)
     have hye : x[q] = y := by rw [← hy, gD, gE hqP]; rfl
     have hyN : y < qc := by have := ((HXL.out y).1 (by rw [← hye]; exact mM hqP)).1; have := HQCE.out; omega
     have hy0 : (0 : Int) ≤ (y : Int) := by omega
     have hy1 : (y : Int) < (qc : Int) := by omega
     have HSN : Hid ((x.take (q + 1)).foldl (fun r y => r.set y true) (List.replicate qc false) = ((x.take q).foldl (fun r y => r.set y true) (List.replicate qc false)).set y true) := dh (by rw [take_snoc x q hqP, hye, List.foldl_append]; rfl)
     have hgb := own_getB HRQ.out hyN
     have hf0 := hgb.1
     have hf1 := hgb.2.1
     have hgl := hgb.2.2.1
     rw [hy] at hcl
     clear hy hye hsu hgb
     gi_wp2
     go_roundw
     case rel => exact ⟨q + 1, by omega, congrArg (Value.int .i64) (by omega), dh (by rw [HSN.out]; exact own_setB HRQ.out), dh (HTQ.out.setCell (p := ⟨X.1.size, y, none⟩) (fun _ => rfl) _)⟩
     case measure => simp [intOf]; omega
    ·have hqe' : q = np := by omega
     subst hqe'
     obtain ⟨V1, rfl⟩ := xR wr
     obtain ⟨gl, hgl⟩ := xQ (partG (openE a).length x)
     have hrq := HRQ.out
     rw [tL (show x.length ≤ q by rw [HNP.out]; exact lR), HQCE.out] at hrq
     have hrq : V1.ownsRow X.1.size 4 1 (.slice (some ⟨X.1.size, 0, none⟩) qc qc) qc (bcells gl) := by rw [← hgl, HQCE.out]; exact hrq
     have hglL : gl.length = qc := by rw [← hgl, partG_len, HQCE.out]
     obtain ⟨pp, hpp⟩ := xQ (pathE (openE a) gl (openI a))
     have hrd1 := HRD.out.below HBQ.out lR
     obtain ⟨A8, c8, hf8, hs8⟩ := own_sl hrq
     cases hf8
     have hpa := pathP_any pi pe pl qi ri qe re ql rl ⟨openI a, openE a, (needsA a).map (fun (x : Nat) => (x : Int))⟩ (openI a) gl pi qi ri (some ⟨X.1.size, 0, none⟩) qc qc V1 V1.1.size (hrd1.g.up HBQ.out.size) ((hrd1.g.hi).up HBQ.out.size) HQI.out hs8 hglL.symm lR (by have := HQI.out; have h2 := List.length_filter_le (fun i => canB (a.at i.toNat)) a.init; have h3 : (openI a).length ≤ a.init.length := List.length_filter_le _ _; omega) (by omega) (by omega) (by have := HQI.out; have h3 : (openI a).length ≤ a.init.length := List.length_filter_le _ _; omega) (by omega) KE (open_row hr) (by have : qe * KE ≤ 256 * KE := Nat.mul_le_mul_right _ hqe; omega) (by omega)
     have hpe : pathG qe (farG qe (turnE (openE a)) (goalsG qe gl)) (openE a) (openI a) = pp := by rw [← hpp, HQEE.out]; rfl
     dsimp only at hpa
     rw [hpe] at hpa
     have HPA := dh hpa
     have HGL := dh hgl
     have HPP := dh hpp
     have hp1 : V1.1[w3.1.size]? = some (.cells #[.slice pi qi ri, .slice pe qe re, .slice pl ql rl, .slice pc qc rc, .int .u64 (allB s : Int)] 74 (0, 0)) := (HBQ.out.block w3.1.size (by omega)).trans HPX.out
     obtain ⟨k0, k1, k2, k3, k4⟩ := box5A hp1
     have HRQ2 := dh hrq
     clear hrq hgl hglL hpp hrd1 hs8 hpa hpe hp1 k3 k4 c3 HPG HPO
     gi_wp2
     refine ⟨trivial, (fun h => by cases h), (CallsIn.inRound l2 (callsIn_wide.2 HPA.out)).mono ?_⟩
     rintro e w5 ⟨v5, rfl, ho5, hb5⟩
     obtain ⟨A5, c5, rfl, -⟩ := own_sl ho5
     have HO5 := dh ho5
     have HB5 := dh (HBQ.out.trans (hb5.mono HBQ.out.size))
     clear ho5 hb5 k0 k1 k2
     obtain ⟨p1, p2⟩ := pp
     dsimp only at *
     cases p2
     ·have hno' : (pathE (openE a) (partG (openE a).length x) (openI a)).2 = false := by rw [HGL.out, HPP.out]
      have HNO' := dh hno'
      clear hno'
      gi_wp2
      have htc : Tch N1 X w5 := below_tch HB5.out
      refine postT_ok (Rnd.of_tch htc HNX.out) ⟨⟨fun l hl => ?_, (HB5.out.block _ (by omega)).trans HY.out, (HB5.out.block _ (by omega)).trans HU.out⟩, HRND.out.tch_right htc, hN1, hN2⟩
      rcases List.mem_append.1 hl with hl | hl
      ·exact HNO.out l hl
      ·rw [mS.1 hl]; exact HNO'.out
     ·have hp2 : (pathE (openE a) (partG (openE a).length x) (openI a)).2 = true := by rw [HGL.out, HPP.out]
      obtain ⟨x0, v, p, e1, hw, hx0, hvx, hpl⟩ := part_way (fun z hz => ((HXL.out z).1 hz).1) hp2
      have e2 : p1 = natI (p ++ [v]) := by
       have := HPP.out
       rw [HGL.out] at e1
       rw [e1] at this
       exact (congrArg Prod.fst this).symm
      obtain ⟨n1, hn1⟩ := xQ p.length
      obtain ⟨n2, hn2⟩ := xQ p1.length
      have hnn2 : n2 = n1 + 1 := by rw [← hn2, e2, natI_len, lA, hn1]; rfl
      have hn1l : n1 < 256 := by have := openE_len a; have := HNN.out; omega
      have hn1a : n1 < a.nodes.length := by have := openE_len a; omega
      rw [hn2] at HO5 ⊢
      have wn : IntKind.i64.wrap ((n2 : Int) - 1) = (n1 : Int) := by rw [wI]; omega
      have ho5 := HO5.out
      rw [e2] at ho5
      obtain ⟨A', c', hf, hs5⟩ := own_sl ho5
      cases hf
      have hc5 := hs5.cap
      have hm5 := hs5.max
      unfold maxLen at hm5
      have hi0 : (0 : Int) ≤ (n1 : Int) := by omega
      have hi1 : (n1 : Int) ≤ (c5 : Int) := by omega
      have hi2 : n1 ≤ c5 := by omega
      obtain ⟨V0, hV0⟩ := xQ (w5.alloc (.cells #[.slice none 0 0, .slice none 0 0] 29))
      have hb0' : Below w5.1.size w5 V0 := by rw [← hV0]; exact bR.alloc lR _
      have hzV0 : V0.1.size = w5.1.size + 1 := by rw [← hV0]; simp
      have hwb : V0.1[w5.1.size]? = some (.cells #[.slice none 0 0, .slice none 0 0] 29 (0, 0)) := by rw [← hV0]; exact heap_alloc_new w5 _
      have hz5 := HB5.out.size
      have HBV0 := dh (HB5.out.trans (hb0'.mono hz5))
      have HS5 := dh (hs5.below hb0' lR)
      have HV0 := dh hV0
      have HWB := dh hwb
      have HE1 := dh e1
      have HE2 := dh e2
      have HWY := dh hw
      have HX0 := dh hx0
      have HVX := dh hvx
      have HN1 := dh hn1
      have HN2 := dh hn2
      have HNN2 := dh hnn2
      have HP2 := dh hp2
      have hn2b : n2 ≤ 256 := by omega
      have hn12 : n1 < n2 := by omega
      clear ho5 hs5 hV0 hb0' hwb e1 e2 hw hx0 hvx hn1 hn2 hnn2 hp2 hpl
      gi_wp2
      rw [HV0.out]
      gi_loopw [57] (fun i V' => ∃ k : Nat, k ≤ n1 ∧ i = .int .i64 (k : Int) ∧ ∃ A c, Hid (V'.1[w5.1.size]? = some (.cells #[.slice A k c, .slice none 0 0] 29 (0, 0))) ∧ Hid (V'.ownsRow V0.1.size 41 1 (.slice A k c) k (ucellsN ((p.take k).map (fun q => (a.at q).need)))) ∧ Hid (Tch (fun j => j = w5.1.size) V0 V')) (fun i _ => n1 - (intOf i).toNat)
      case atStart => exact ⟨0, by omega, rfl, none, 0, HWB, dh (World.ownsRow_nil _ _ _ _), dh (Tch.refl _ _)⟩
      case round =>
       obtain ⟨k, hk, rfl, A, c, HWBr, HRr, HTr⟩ := hrel
       have hzr := HTr.out.size
       have HBr := dh (HBV0.out.trans (HTr.out.below (B := X.1.size) (by omega) (fun j hj e => by have e : j = w5.1.size := e; omega)))
       by_cases hkl : k < n1
       ·have wk : IntKind.i64.wrap ((k : Int) + 1) = (k : Int) + 1 := by rw [wI]; omega
        have hk0 : (0 : Int) ≤ (k : Int) := by omega
        have hk1 : (k : Int) < (n1 : Int) := by omega
        have hkp : k < p.length := by rw [HN1.out]; exact hkl
        obtain ⟨y, hy⟩ := xQ (p.getD k 0)
        have hye : p[k] = y := by rw [← hy, gD, gE hkp]; rfl
        have hyE : y < (openE a).length := arc_ends HWY.out y (by rw [← hye]; exact mM hkp)
        have hyn : y < a.nodes.length := by rw [openE_len] at hyE; exact hyE
        have hyq : y < ql := by have := HQL.out; have := HNN.out; omega
        have hs5 := HS5.out.below (HTr.out.below (B := w5.1.size) (by omega) (fun j hj e => by have e : j = w5.1.size := e; omega)) lR
        have hat5 : (icells (natI (p ++ [v])))[k]? = some (.int .i64 (y : Int)) := by
         rw [nat_at (show k < (p ++ [v]).length by rw [lA]; omega), gD, gC hkp, ← gD, hy]
        obtain ⟨b5, o5, hA5, hb5l, hc5'⟩ := hs5.rd.at_ hat5
        subst hA5
        have hrd := HRD.out.below HBr.out lR
        have hat6 : ((needsA a).map (fun (x : Nat) => (x : Int))).map (Value.int .u64) = ucellsN (needsA a) := by simp [ucellsN]
        have hgl := hrd.g.hl
        dsimp only at hgl
        rw [hat6] at hgl
        obtain ⟨yn, hyn'⟩ := xQ (a.at y).need
        have hnat := needs_at hyn
        obtain ⟨bl, ol, hAl, hbll, hcl⟩ := hgl.rd.at_ (show (ucellsN (needsA a))[y]? = some (.int .u64 (yn : Int)) by unfold ucellsN; rw [List.getElem?_map, hnat, hyn']; rfl)
        have hcl1 := hgl.cap
        have hcl2 := hgl.max
        unfold maxLen at hcl2
        subst hAl
        have hy0 : (0 : Int) ≤ (y : Int) := by omega
        have hy1 : (y : Int) < (ql : Int) := by omega
        have hpr : wr.1[w3.1.size]? = some _ := (HBr.out.block w3.1.size (by omega)).trans HPX.out
        have s0 : wr.cell? ⟨w5.1.size, 0, none⟩ = some (.slice A k c) := cR HWBr.out
        have s1 : wr.cell? ⟨w3.1.size, 2, none⟩ = some (.slice (some ⟨bl, ol, none⟩) ql rl) := cR hpr
        have HNX1 : Hid ((p.take (k + 1)).map (fun q => (a.at q).need) = (p.take k).map (fun q => (a.at q).need) ++ [yn]) := dh (by rw [take_snoc p k hkp, List.map_append, hye, ← hyn']; rfl)
        clear hy hye hat5 hat6 hs5 hrd hgl hnat hyn' hpr
        gi_wp2
        refine wpIn_norm ?_
        refine wpIn_region_U (S := fun w' => w'.cell? ⟨w5.1.size, 0, none⟩ = some (.slice A k c) ∧ w'.cell? ⟨w3.1.size, 2, none⟩ = some (.slice (some ⟨bl, ol, none⟩) ql rl) ∧ w'.cell? ⟨bl, ol + y, none⟩ = some (.int .u64 (yn : Int))) 11 (by kernel_rfl) (by kernel_rfl) lets_none ⟨s0, s1, hcl⟩ (fun hS => ?_)
        refine tkU 0 [] ?_
        refine tkU 1 [] ?_
        refine tkU 2 [] ?_
        refine tkU 3 [] ?_
        refine tkU 4 [] ?_
        refine tkU 5 [] ?_
        refine tkU 6 [] ?_
        refine tkU 7 [] ?_
        refine wpAnyU_oneD (i := 8) rfl (by kernel_rfl) (fun K hK => ?_)
        go_simp
        have tb0 := heap_alloc_new wr (.cells #[.int .u64 (yn : Int)] 41)
        obtain ⟨wY, hwY⟩ := xQ (wr.alloc (.cells #[.int .u64 (yn : Int)] 41)).drew
        have hbY : Below wr.1.size wr wY := by rw [← hwY]; exact Below.drew (bR.alloc lR _)
        have hzY : wY.1.size = wr.1.size + 1 := by rw [← hwY]; simp
        have tb : wY.1[wr.1.size]? = some (.cells #[.int .u64 (yn : Int)] 41 (0, 0)) := by rw [← hwY]; exact tb0
        rw [hwY]
        clear hwY tb0
        refine hK.out _ _ ⟨bC hbY (by omega) s0, bC hbY (by omega) s1, bC hbY (by omega) hcl⟩ (fun hS => ?_)
        clear hK
        refine wpAnyU_oneD (i := 9) rfl (by kernel_rfl) (fun K hK => ?_)
        refine step_push rfl (.tmp 62) (.tmp 69) 27 rfl V0.1.size 41 1 8 sliceU64 _ _ _ (own_below HRr.out hbY) (by rfl) wr.1.size #[.int .u64 (yn : Int)] (by rfl) tb rfl (by simp [Value.oneCell']) (by omega) (by omega) (by omega) ?_
        intro uZ wZ hownZ htZ hatZ _
        obtain ⟨gZ, cZ, rfl⟩ := ownsRow_succ hownZ
        have htZ2 : Tch (fun z9 => (Value.slice A k c).ownBlock = some z9) wr wZ := (below_tch hbY).then_ htZ
        have hrl := HRr.out.lt
        have hwbZ : wZ.1[w5.1.size]? = some (.cells #[.slice A k c, .slice none 0 0] 29 (0, 0)) := htZ2.blk HWBr.out (fun e => own_ne_blk HRr.out HWBr.out (by decide) e)
        have s0Z : wZ.cell? ⟨w5.1.size, 0, none⟩ = some (.slice A k c) := cR hwbZ
        have f0Z : wZ.frozen? ⟨w5.1.size, 0, none⟩ = false := frozen_of_row wZ w5.1.size 0 _ _ hwbZ
        have l0Z : w5.1.size < wZ.1.size := (aI.1 hwbZ).1
        have s1Z := bD htZ2 (by omega) (fun e => by have h9 := (hrl _ e).1; have h9 : V0.1.size ≤ w3.1.size := h9; omega) s1
        have hclZ := bD htZ2 (by omega) (fun e => by have h9 := (hrl _ e).1; have h9 : V0.1.size ≤ bl := h9; omega) hcl
        have HOZ := dh hownZ
        have HTZ := dh htZ2
        have HATZ := dh hatZ
        have HWBZ := dh hwbZ
        have HRL := dh hrl
        clear hownZ htZ htZ2 hatZ hwbZ hrl
        refine hK.out _ _ ⟨s0Z, s1Z, hclZ⟩ (fun hS => ?_)
        clear hK
        refine tkU 10 [] ?_
        refine wpAnyU_lastD (i := 11) rfl (by kernel_rfl) (by kernel_rfl) (fun K hK => ?_)
        go_simp
        refine hK.out _ _ ?_
        clear hK
        refine wpAnyU_done (by kernel_rfl) ?_
        clear hS
        have hq8 : ucellsN ((p.take k).map (fun q => (a.at q).need)) ++ (#[Value.int .u64 (yn : Int)] : Array Value).toList = ucellsN ((p.take (k + 1)).map (fun q => (a.at q).need)) := by rw [HNX1.out]; simp [ucellsN]
        have hfin : Hid ((wZ.setCell ⟨w5.1.size, 0, none⟩ (.slice (some ⟨gZ, 0, none⟩) (k + 1) cZ)).1[w5.1.size]? = some (.cells #[.slice (some ⟨gZ, 0, none⟩) (k + 1) cZ, .slice none 0 0] 29 (0, 0))) := dh (by rw [heap_setCell_same wZ w5.1.size 0 _ _ _ HWBZ.out]; rfl)
        have hown9 : Hid ((wZ.setCell ⟨w5.1.size, 0, none⟩ (.slice (some ⟨gZ, 0, none⟩) (k + 1) cZ)).ownsRow V0.1.size 41 1 (.slice (some ⟨gZ, 0, none⟩) (k + 1) cZ) (k + 1) (ucellsN ((p.take (k + 1)).map (fun q => (a.at q).need)))) := dh (by
         have hoz := HOZ.out
         rw [hq8] at hoz
         exact own_tch hoz (tch_cell (w := wZ) w5.1.size 0 _) (fun g hg e => by have e : g = w5.1.size := e; exact own_ne_blk hoz HWBZ.out (by decide) (by rw [hg, e])))
        have htch9 : Hid (Tch (fun j => j = w5.1.size) V0 (wZ.setCell ⟨w5.1.size, 0, none⟩ (.slice (some ⟨gZ, 0, none⟩) (k + 1) cZ))) := dh ((HTr.out.trans HTZ.out (fun j hj e => absurd hj (by have := (HRL.out j e).1; omega))).then_ (tch_cell (w := wZ) w5.1.size 0 _))
        clear s0Z f0Z l0Z s1Z hclZ hq8
        gi_wp2
        go_roundw
        case rel => exact ⟨k + 1, by omega, congrArg (Value.int .i64) (by omega), _, _, hfin, hown9, htch9⟩
        case measure => simp [intOf]; omega
       ·have hke : k = n1 := by omega
        subst hke
        obtain ⟨V2, rfl⟩ := xR wr
        have htk : p.take k = p := tL (by rw [HN1.out]; exact lR)
        have hrs := HRr.out
        rw [htk] at hrs
        have hs5 := HS5.out.below (HTr.out.below (B := w5.1.size) (by omega) (fun j hj e => by have e : j = w5.1.size := e; omega)) lR
        have hat5 : (icells (natI (p ++ [v])))[k]? = some (.int .i64 (v : Int)) := by
         have hkp := HN1.out
         rw [← hkp]
         simp [icells, natI]
        obtain ⟨b5, o5, hA5, hb5l, hcv⟩ := hs5.rd.at_ hat5
        subst hA5
        have hpr : V2.1[w3.1.size]? = some (.cells #[.slice pi qi ri, .slice pe qe re, .slice pl ql rl, .slice pc qc rc, .int .u64 (allB s : Int)] 74 (0, 0)) := (HBr.out.block w3.1.size (by omega)).trans HPX.out
        obtain ⟨s0, s1, s2, s3, s4⟩ := box5A hpr
        have hrd := HRD.out.below HBr.out lR
        obtain ⟨A', c', hf, hsx⟩ := own_sl (own_below HOX.out HBr.out)
        cases hf
        have hHBW := HBWX.out.trans (HBr.out.mono HBWX.out.size)
        have hTV : TabAt 0 Lib.deBruijn64tab V2.drew := fun z hz => bC (Below.drew hHBW) HG.out (HTB.out z hz)
        have hq1 : q ≤ 256 := by
         have h1 := HXM.out
         have h2 := part_len (List.mem_filter.1 h1).1
         have := HNP.out
         have := openE_len a
         have := HNN.out
         omega
        have hro := (callsIn_wide (n := 5)).1 (round_in 5 lR pi pe pl pc qi ri qe re ql rl qc rc (openI a) (openE a) (needsA a) (insA a) (allB s) x Au cu v mm V2.drew V2.1.size ((hrd.below (Below.drew (Below.refl X.1.size V2)) lR).up (by have := HBr.out.size; omega)) (by rw [HNP.out]; exact hsx.drew) HXN.out HXL.out HVX.out lR (by omega) HIL.out (by unfold allB; have : 2 ^ s ≤ 2 ^ 16 := Nat.pow_le_pow_right (by omega) (by have := HSS.out; omega); omega) KE (open_row hr) (open_nd HOK.out) (by have : qe * KE ≤ 256 * KE := Nat.mul_le_mul_right _ hqe; omega) (by omega) hTV (by have := HG.out; have := hHBW.size; show _ < V2.1.size; omega) (ins_lt hinn) HCY.out HMET.out)
        rw [HNP.out] at hro
        have HRO := dh hro
        have HRS := dh hrs
        have HHBW := dh hHBW
        have wk2 : IntKind.i64.wrap ((n2 : Int) - 1) = (k : Int) := wn
        clear htk hrs hs5 hat5 hrd hsx hHBW hTV hro hpr
        gi_wp2
        refine wpIn_norm ?_
        refine wpIn_region_U (S := fun w' => w'.cell? ⟨w3.1.size, 0, none⟩ = some (.slice pi qi ri) ∧ w'.cell? ⟨w3.1.size, 1, none⟩ = some (.slice pe qe re) ∧ w'.cell? ⟨w3.1.size, 2, none⟩ = some (.slice pl ql rl) ∧ w'.cell? ⟨w3.1.size, 3, none⟩ = some (.slice pc qc rc) ∧ w'.cell? ⟨w3.1.size, 4, none⟩ = some (.int .u64 (allB s : Int)) ∧ w'.cell? ⟨b5, o5 + k, none⟩ = some (.int .i64 (v : Int))) 8 (by kernel_rfl) (by kernel_rfl) lets_none ⟨s0, s1, s2, s3, s4, hcv⟩ (fun hS => ?_)
        refine tkU 0 [] ?_
        refine tkU 1 [] ?_
        refine tkU 2 [7, 6] ?_
        refine tkU 3 [7, 6, 5, 4] ?_
        refine tkU 4 [7, 6, 5] ?_
        refine tkU 5 [7, 6] ?_
        refine tkU 6 [7] ?_
        refine tkU 7 [] ?_
        refine tkW 10 ?_
        refine wpAnyU_lastD (i := 8) rfl (by kernel_rfl) (by kernel_rfl) (fun K hK => ?_)
        go_simp
        refine HRO.out.mono ?_
        rintro e w7 ⟨R, Ar, cr, rfl, hsr, hbr', hRne, hRlen, hRw, hRm⟩
        have hbr : Below V2.1.size V2 w7 := below_undrew hbr'
        obtain ⟨nr, hnr⟩ := xQ R.length
        have HNR := dh hnr
        rw [hnr] at hsr hRlen ⊢
        have hz7 := hbr.size
        obtain ⟨A8, c8, hf8, hs8⟩ := own_sl hsr
        cases hf8
        have HSR := dh hsr
        have HBR7 := dh hbr
        have HB7 := dh (HBr.out.trans (hbr.mono HBr.out.size))
        have HRNE := dh hRne
        have HRW := dh hRw
        have HRM := dh hRm
        have hbl := all_bits (show s ≤ 16 by have := HSS.out; omega)
        have hRl2 : nr ≤ 1 + 17 * (a.nodes.length - 1) := Nat.le_trans hRlen (Nat.add_le_add_left (Nat.le_trans (Nat.mul_le_mul_right _ (show (bitsL (allB s)).length + 1 ≤ 17 by omega)) (Nat.mul_le_mul_left _ (by rw [openE_len]; exact lR))) _)
        have hRl3 : nr ≤ 5000 := by have := HNN.out; omega
        clear hRlen hbl
        have HWB7 := dh ((hbr.block w5.1.size (by omega)).trans HWBr.out)
        have HRS7 := dh (own_below HRS.out hbr)
        have hcr := hs8.cap
        have hmr := hs8.max
        unfold maxLen at hmr
        clear hs8 hsr hbr hbr' hRne hRw hRm hnr
        dsimp only
        refine hK.out _ _ ?_
        clear hK
        refine tkB 9 ?_
        refine wpAnyU_done (by kernel_rfl) ?_
        clear hS s0 s1 s2 s3 s4 hcv
        gi_wp2
        gi_loopw [83] (fun i V' => ∃ j : Nat, j ≤ nr ∧ i = .int .i64 (j : Int) ∧ ∃ A2 c2, Hid (V'.1[w5.1.size]? = some (.cells #[.slice A k c, .slice A2 j c2] 29 (0, 0))) ∧ Hid (V'.ownsRow w7.1.size 41 1 (.slice A2 j c2) j (ucellsN ((R.take j).map (fun q => (a.at q).need)))) ∧ Hid (Tch (fun j => j = w5.1.size) w7 V')) (fun i _ => nr - (intOf i).toNat)
        case atStart => exact ⟨0, by omega, rfl, none, 0, HWB7, dh (World.ownsRow_nil _ _ _ _), dh (Tch.refl _ _)⟩
        case round =>
         obtain ⟨j, hj, rfl, A2, c2, HWBr2, HRr2, HTr2⟩ := hrel
         have hzr2 := HTr2.out.size
         have HBr2 := dh (HB7.out.trans (HTr2.out.below (B := X.1.size) (by omega) (fun j hj e => by have e : j = w5.1.size := e; omega)))
         by_cases hjl : j < nr
         ·have wj : IntKind.i64.wrap ((j : Int) + 1) = (j : Int) + 1 := by rw [wI]; omega
          have hj0 : (0 : Int) ≤ (j : Int) := by omega
          have hj1 : (j : Int) < (nr : Int) := by omega
          have hjp : j < R.length := by rw [HNR.out]; exact hjl
          obtain ⟨y, hy⟩ := xQ (R.getD j 0)
          have hye : R[j] = y := by rw [← hy, gD, gE hjp]; rfl
          have hyE : y < (openE a).length := by
           have := arc_ends HRW.out y (by rw [← hye]; exact mM hjp)
           rwa [innerE_len] at this
          have hyn : y < a.nodes.length := by rw [openE_len] at hyE; exact hyE
          have hyq : y < ql := by have := HQL.out; have := HNN.out; omega
          obtain ⟨A8, c8, hf8, hs7⟩ := own_sl (own_tch HSR.out HTr2.out (fun g hg e => by have e : g = w5.1.size := e; exact own_ne_blk HSR.out HWB7.out (by decide) (by rw [hg, e])))
          cases hf8
          obtain ⟨b7, o7, hA7, hb7l, hc7⟩ := hs7.rd.at_ (nat_at hjp)
          rw [hy] at hc7
          subst hA7
          have hrd := HRD.out.below HBr2.out lR
          have hat6 : ((needsA a).map (fun (x : Nat) => (x : Int))).map (Value.int .u64) = ucellsN (needsA a) := by simp [ucellsN]
          have hgl := hrd.g.hl
          dsimp only at hgl
          rw [hat6] at hgl
          obtain ⟨yn, hyn'⟩ := xQ (a.at y).need
          have hnat := needs_at hyn
          obtain ⟨bl, ol, hAl, hbll, hcl⟩ := hgl.rd.at_ (show (ucellsN (needsA a))[y]? = some (.int .u64 (yn : Int)) by unfold ucellsN; rw [List.getElem?_map, hnat, hyn']; rfl)
          have hcl1 := hgl.cap
          have hcl2 := hgl.max
          unfold maxLen at hcl2
          subst hAl
          have hy0 : (0 : Int) ≤ (y : Int) := by omega
          have hy1 : (y : Int) < (ql : Int) := by omega
          have hpr : wr.1[w3.1.size]? = some _ := (HBr2.out.block w3.1.size (by omega)).trans HPX.out
          have s0 : wr.cell? ⟨w5.1.size, 1, none⟩ = some (.slice A2 j c2) := cR HWBr2.out
          have s1 : wr.cell? ⟨w3.1.size, 2, none⟩ = some (.slice (some ⟨bl, ol, none⟩) ql rl) := cR hpr
          have HNX1 : Hid ((R.take (j + 1)).map (fun q => (a.at q).need) = (R.take j).map (fun q => (a.at q).need) ++ [yn]) := dh (by rw [take_snoc R j hjp, List.map_append, hye, ← hyn']; rfl)
          clear hy hye hat6 hs7 hrd hgl hnat hyn' hpr
          gi_wp2
          refine wpIn_norm ?_
          refine wpIn_region_U (S := fun w' => w'.cell? ⟨w5.1.size, 1, none⟩ = some (.slice A2 j c2) ∧ w'.cell? ⟨w3.1.size, 2, none⟩ = some (.slice (some ⟨bl, ol, none⟩) ql rl) ∧ w'.cell? ⟨bl, ol + y, none⟩ = some (.int .u64 (yn : Int))) 11 (by kernel_rfl) (by kernel_rfl) lets_none ⟨s0, s1, hcl⟩ (fun hS => ?_)
          refine tkU 0 [] ?_
          refine tkU 1 [] ?_
          refine tkU 2 [] ?_
          refine tkU 3 [] ?_
          refine tkU 4 [] ?_
          refine tkU 5 [] ?_
          refine tkU 6 [] ?_
          refine tkU 7 [] ?_
          refine wpAnyU_oneD (i := 8) rfl (by kernel_rfl) (fun K hK => ?_)
          go_simp
          have tb0 := heap_alloc_new wr (.cells #[.int .u64 (yn : Int)] 41)
          obtain ⟨wY, hwY⟩ := xQ (wr.alloc (.cells #[.int .u64 (yn : Int)] 41)).drew
          have hbY : Below wr.1.size wr wY := by rw [← hwY]; exact Below.drew (bR.alloc lR _)
          have hzY : wY.1.size = wr.1.size + 1 := by rw [← hwY]; simp
          have tb : wY.1[wr.1.size]? = some (.cells #[.int .u64 (yn : Int)] 41 (0, 0)) := by rw [← hwY]; exact tb0
          rw [hwY]
          clear hwY tb0
          refine hK.out _ _ ⟨bC hbY (by omega) s0, bC hbY (by omega) s1, bC hbY (by omega) hcl⟩ (fun hS => ?_)
          clear hK
          refine wpAnyU_oneD (i := 9) rfl (by kernel_rfl) (fun K hK => ?_)
          refine step_push rfl (.tmp 88) (.tmp 95) 27 rfl w7.1.size 41 1 8 sliceU64 _ _ _ (own_below HRr2.out hbY) (by rfl) wr.1.size #[.int .u64 (yn : Int)] (by rfl) tb rfl (by simp [Value.oneCell']) (by omega) (by omega) (by omega) ?_
          intro uZ wZ hownZ htZ hatZ _
          obtain ⟨gZ, cZ, rfl⟩ := ownsRow_succ hownZ
          have htZ2 : Tch (fun z9 => (Value.slice A2 j c2).ownBlock = some z9) wr wZ := (below_tch hbY).then_ htZ
          have hrl := HRr2.out.lt
          have hwbZ : wZ.1[w5.1.size]? = some (.cells #[.slice A k c, .slice A2 j c2] 29 (0, 0)) := htZ2.blk HWBr2.out (fun e => own_ne_blk HRr2.out HWBr2.out (by decide) e)
          have s0Z : wZ.cell? ⟨w5.1.size, 1, none⟩ = some (.slice A2 j c2) := cR hwbZ
          have f0Z : wZ.frozen? ⟨w5.1.size, 1, none⟩ = false := frozen_of_row wZ w5.1.size 1 _ _ hwbZ
          have l0Z : w5.1.size < wZ.1.size := (aI.1 hwbZ).1
          have s1Z := bD htZ2 (by omega) (fun e => by have h9 := (hrl _ e).1; have h9 : w7.1.size ≤ w3.1.size := h9; omega) s1
          have hclZ := bD htZ2 (by omega) (fun e => by have h9 := (hrl _ e).1; have h9 : w7.1.size ≤ bl := h9; omega) hcl
          have HOZ := dh hownZ
          have HTZ := dh htZ2
          have HATZ := dh hatZ
          have HWBZ := dh hwbZ
          have HRL := dh hrl
          clear hownZ htZ htZ2 hatZ hwbZ hrl
          refine hK.out _ _ ⟨s0Z, s1Z, hclZ⟩ (fun hS => ?_)
          clear hK
          refine tkU 10 [] ?_
          refine wpAnyU_lastD (i := 11) rfl (by kernel_rfl) (by kernel_rfl) (fun K hK => ?_)
          go_simp
          refine hK.out _ _ ?_
          clear hK
          refine wpAnyU_done (by kernel_rfl) ?_
          clear hS
          have hq8 : ucellsN ((R.take j).map (fun q => (a.at q).need)) ++ (#[Value.int .u64 (yn : Int)] : Array Value).toList = ucellsN ((R.take (j + 1)).map (fun q => (a.at q).need)) := by rw [HNX1.out]; simp [ucellsN]
          have hfin : Hid ((wZ.setCell ⟨w5.1.size, 1, none⟩ (.slice (some ⟨gZ, 0, none⟩) (j + 1) cZ)).1[w5.1.size]? = some (.cells #[.slice A k c, .slice (some ⟨gZ, 0, none⟩) (j + 1) cZ] 29 (0, 0))) := dh (by rw [heap_setCell_same wZ w5.1.size 1 _ _ _ HWBZ.out]; rfl)
          have hown9 : Hid ((wZ.setCell ⟨w5.1.size, 1, none⟩ (.slice (some ⟨gZ, 0, none⟩) (j + 1) cZ)).ownsRow w7.1.size 41 1 (.slice (some ⟨gZ, 0, none⟩) (j + 1) cZ) (j + 1) (ucellsN ((R.take (j + 1)).map (fun q => (a.at q).need)))) := dh (by
           have hoz := HOZ.out
           rw [hq8] at hoz
           exact own_tch hoz (tch_cell (w := wZ) w5.1.size 1 _) (fun g hg e => by have e : g = w5.1.size := e; exact own_ne_blk hoz HWBZ.out (by decide) (by rw [hg, e])))
          have htch9 : Hid (Tch (fun z => z = w5.1.size) w7 (wZ.setCell ⟨w5.1.size, 1, none⟩ (.slice (some ⟨gZ, 0, none⟩) (j + 1) cZ))) := dh ((HTr2.out.trans HTZ.out (fun j hj e => absurd hj (by have := (HRL.out j e).1; omega))).then_ (tch_cell (w := wZ) w5.1.size 1 _))
          clear s0Z f0Z l0Z s1Z hclZ hq8
          gi_wp2
          go_roundw
          case rel => exact ⟨j + 1, by omega, congrArg (Value.int .i64) (by omega), _, _, hfin, hown9, htch9⟩
          case measure => simp [intOf]; omega
         ·have hje : j = nr := by omega
          subst hje
          obtain ⟨V3, rfl⟩ := xR wr
          have htk : R.take j = R := tL (by rw [HNR.out]; exact lR)
          have hrl := HRr2.out
          rw [htk] at hrl
          have hwx : w.1.size + 1 + 1 < X.1.size := by omega
          have hy3 := (HBr2.out.block (w.1.size + 1) (by omega)).trans HY.out
          have hu3 := (HBr2.out.block (w.1.size + 1 + 1) (by omega)).trans HU.out
          have hrs3 := own_tch HRS7.out HTr2.out (fun g hg e => by have e : g = w5.1.size := e; exact own_ne_blk HRS7.out HWB7.out (by decide) (by rw [hg, e]))
          have s0 : V3.cell? ⟨w5.1.size, 0, none⟩ = some (.slice A k c) := cR HWBr2.out
          have s1 : V3.cell? ⟨w5.1.size, 1, none⟩ = some (.slice A2 j c2) := cR HWBr2.out
          have y0 : V3.cell? ⟨w.1.size + 1, 0, none⟩ = some (.slice none 0 0) := cR hy3
          have y1 : V3.cell? ⟨w.1.size + 1, 1, none⟩ = some (.slice none 0 0) := cR hy3
          have u0 : V3.cell? ⟨w.1.size + 1 + 1, 0, none⟩ = some (.bool false) := cR hu3
          have f0 : V3.frozen? ⟨w.1.size + 1, 0, none⟩ = false := frozen_of_row V3 _ 0 _ _ hy3
          have f1 : V3.frozen? ⟨w.1.size + 1, 1, none⟩ = false := frozen_of_row V3 _ 1 _ _ hy3
          have f2 : V3.frozen? ⟨w.1.size + 1 + 1, 0, none⟩ = false := frozen_of_row V3 _ 0 _ _ hu3
          have yl : w.1.size + 1 < V3.1.size := (aI.1 hy3).1
          have ul : w.1.size + 1 + 1 < V3.1.size := (aI.1 hu3).1
          have HY3 := dh hy3
          have HU3 := dh hu3
          have HRL3 := dh hrl
          have HRS3 := dh hrs3
          clear htk hrl hy3 hu3 hrs3
          gi_wp2
          obtain ⟨g1', g2', g3'⟩ := set3W (a := .slice A k c) (b := .slice A2 j c2) (c := .bool true) HY3.out rfl HU3.out rfl (by omega)
          obtain ⟨Y, hY⟩ := xQ (((V3.setCell ⟨w.1.size + 1, 0, none⟩ (.slice A k c)).setCell ⟨w.1.size + 1, 1, none⟩ (.slice A2 j c2)).setCell ⟨w.1.size + 1 + 1, 0, none⟩ (.bool true))
          rw [hY] at g1' g2' g3' ⊢
          clear hY y0 y1 u0 f0 f1 f2
          have hV0s : w5.1.size < V0.1.size := by omega
          have ho1 := own_tch HRS3.out g3' (fun g hg e => by have h9 := (HRS3.out.lt g hg).1; have e : g = w.1.size + 1 ∨ g = w.1.size + 1 + 1 := e; omega)
          have ho2 := own_tch HRL3.out g3' (fun g hg e => by have h9 := (HRL3.out.lt g hg).1; have e : g = w.1.size + 1 ∨ g = w.1.size + 1 + 1 := e; omega)
          have htc : Tch N1 X Y := (below_tch HBr2.out).then_ (g3'.wide (fun z e => by rcases e with e | e <;> rw [e] <;> assumption))
          have hwi : WitIs a (p.map (fun q => (a.at q).need)) (R.map (fun q => (a.at q).need)) := by
           refine ⟨HCK.out, wit_some HOK.out (by have := HSS.out; omega) HXM.out HP2.out, ?_, ?_, ?_, ?_, ?_, ?_⟩
           ·rw [List.length_map]; exact List.length_pos_iff.2 HRNE.out
           ·rw [List.length_map, HN1.out]; exact hn1a
           ·rw [List.length_map, HNR.out]; exact hRl2
           ·have hac := wit_word HOK.out (s := s) (by have := HSS.out; omega) (by have := HSS.out; omega) HWY.out HX0.out HRW.out HRNE.out HRM.out
            rw [List.map_append] at hac
            rw [List.length_map]
            exact hac
           ·intro z hz
            obtain ⟨q, -, rfl⟩ := List.mem_map.1 hz
            exact at_need hnd q
           ·intro z hz
            obtain ⟨q, -, rfl⟩ := List.mem_map.1 hz
            exact at_need hnd q
          refine ⟨N1, Rnd.of_tch htc HNX.out, rfl, A, k, c, A2, j, c2, _, _, g1', g2', ?_, ?_, hwi, ?_⟩
          ·rw [ucellsN_nat]; exact own_base ho1 (by omega)
          ·rw [ucellsN_nat]; exact own_base ho2 (by omega)
          ·exact (HBWX.out.trans (HBr2.out.mono HBWX.out.size)).trans (g3'.below (by omega) (fun z hz e => by have e : z = w.1.size + 1 ∨ z = w.1.size + 1 + 1 := e; omega))
  case done =>
   rintro D N1 X hD hDN ⟨⟨hno, hy, hu⟩, hrnd, hN1, hN2⟩ hDv
   dsimp only at hno hrnd hN1 hN2
   have hzX := hrnd.tch.size
   have hDl : D < X.1.size := (aI.1 hDv).1
   have HNO := dh (wit_none HOK.out (s := s) (by have := HSS.out; omega) hno)
   have HBX := dh (HWW.out.trans (rnd_below hrnd (show w.1.size ≤ W4.1.size by omega) hM2))
   have y0 : X.cell? ⟨w.1.size + 1, 0, none⟩ = some (.slice none 0 0) := cR hy
   have y1 : X.cell? ⟨w.1.size + 1, 1, none⟩ = some (.slice none 0 0) := cR hy
   have u0 : X.cell? ⟨w.1.size + 1 + 1, 0, none⟩ = some (.bool false) := cR hu
   have f0 : X.frozen? ⟨w.1.size + 1, 0, none⟩ = false := frozen_of_row X _ 0 _ _ hy
   have f1 : X.frozen? ⟨w.1.size + 1, 1, none⟩ = false := frozen_of_row X _ 1 _ _ hy
   have f2 : X.frozen? ⟨w.1.size + 1 + 1, 0, none⟩ = false := frozen_of_row X _ 0 _ _ hu
   have yl : w.1.size + 1 < X.1.size := (aI.1 hy).1
   have ul : w.1.size + 1 + 1 < X.1.size := (aI.1 hu).1
   have HY := dh hy
   have HU := dh hu
   have HDV := dh hDv
   clear hno hy hu hrnd hDv
   go_wp2_with fail
   obtain ⟨g1', g2', g3'⟩ := set3W (a := .slice none 0 0) (b := .slice none 0 0) (c := .bool false) HY.out rfl HU.out rfl (by omega)
   obtain ⟨Y, hY⟩ := xQ (((X.setCell ⟨w.1.size + 1, 0, none⟩ (.slice none 0 0)).setCell ⟨w.1.size + 1, 1, none⟩ (.slice none 0 0)).setCell ⟨w.1.size + 1 + 1, 0, none⟩ (.bool false))
   rw [hY] at g1' g2' g3' ⊢
   clear hY y0 y1 u0 f0 f1 f2
   have hDY : Y.1[D]? = some (.deferred (some [])) := (g3'.block D hDl (fun e => by have e : D = w.1.size + 1 ∨ D = w.1.size + 1 + 1 := e; omega)).trans HDV.out
   have hbY : Below w.1.size w Y := HBX.out.trans (g3'.below (show w.1.size ≤ X.1.size by omega) (fun y hy e => by have e : y = w.1.size + 1 ∨ y = w.1.size + 1 + 1 := e; omega))
   obtain ⟨Z, hZ⟩ := xQ (Y.putObj D (.deferred none))
   have hbZ : Below w.1.size w Z := by rw [← hZ]; exact hbY.trans (belowK_b (w := w) lR Y D _ _ (by omega) hDY rfl rfl)
   have hzr : Z.1[w.1.size + 1]? = some (.cells #[.slice none 0 0, .slice none 0 0] 29 (0, 0)) := by rw [← hZ]; exact (World.putObj_heap_other (by omega)).trans g1'
   have hzk : Z.1[w.1.size + 1 + 1]? = some (.cells #[.bool false] 4 (0, 0)) := by rw [← hZ]; exact (World.putObj_heap_other (by omega)).trans g2'
   have g0 : Z.cell? ⟨w.1.size + 1, 0, none⟩ = some (.slice none 0 0) := cR hzr
   have g1 : Z.cell? ⟨w.1.size + 1, 1, none⟩ = some (.slice none 0 0) := cR hzr
   have g2 : Z.cell? ⟨w.1.size + 1 + 1, 0, none⟩ = some (.bool false) := cR hzk
   refine ⟨by simp, .inl ⟨_, _, rfl, run_takeDeferred hDY, ?_⟩⟩
   rw [hZ]
   have hfin : WitPost w a (.returned (.tuple #[.agg #[.slice none 0 0, .slice none 0 0], .bool false])) Z := by
    refine ⟨none, 0, 0, none, 0, 0, [], [], false, rfl, ⟨Sl.none_ _ _ _, Sl.none_ _ _ _, rfl, rfl⟩, hbZ, (fun h => by cases h), fun _ => ⟨?_, rfl, rfl⟩⟩
    unfold trimF
    rw [if_pos HCK.out]
    exact HNO.out
   refine ⟨_, ?_, hfin⟩
   simp [results, Tryd.results31, go_sem, g0, g1, g2]
  case stop =>
   rintro D c pre N1 X hD hDN hpre ⟨rfl, A1, n1, c1, A2, n2, c2, st, lo, hy, hu, ho1, ho2, hwi, hbX⟩ hDv
   gi_wp2
   refine ⟨by simp, .inl ⟨_, _, rfl, run_takeDeferred hDv, ?_⟩⟩
   have hD1 : w.1.size + 3 ≤ D := by omega
   have hoz1 := ownsRow_putObj ho1 (.deferred none) hDv rfl
   have hoz2 := ownsRow_putObj ho2 (.deferred none) hDv rfl
   obtain ⟨Z, hZ⟩ := xQ (X.putObj D (.deferred none))
   have hbZ : Below w.1.size w Z := by rw [← hZ]; exact hbX.trans (belowK_b (w := w) lR X D _ _ (by omega) hDv rfl rfl)
   have hzr : Z.1[w.1.size + 1]? = some (.cells #[.slice A1 n1 c1, .slice A2 n2 c2] 29 (0, 0)) := by rw [← hZ]; exact (World.putObj_heap_other (by omega)).trans hy
   have hzk : Z.1[w.1.size + 1 + 1]? = some (.cells #[.bool true] 4 (0, 0)) := by rw [← hZ]; exact (World.putObj_heap_other (by omega)).trans hu
   have g0 : Z.cell? ⟨w.1.size + 1, 0, none⟩ = some (.slice A1 n1 c1) := cR hzr
   have g1 : Z.cell? ⟨w.1.size + 1, 1, none⟩ = some (.slice A2 n2 c2) := cR hzr
   have g2 : Z.cell? ⟨w.1.size + 1 + 1, 0, none⟩ = some (.bool true) := cR hzk
   rw [hZ] at hoz1 hoz2 ⊢
   obtain ⟨A8, c8, e8, hs8⟩ := own_sl hoz1
   cases e8
   obtain ⟨A9, c9, e9, hs9⟩ := own_sl hoz2
   cases e9
   have hl1 : n1 = (natI st).length := by have := hs8.len; rw [ucells_len] at this; omega
   have hl2 : n2 = (natI lo).length := by have := hs9.len; rw [ucells_len] at this; omega
   have hfin : WitPost w a (.returned (.tuple #[.agg #[.slice A1 n1 c1, .slice A2 n2 c2], .bool true])) Z :=
    ⟨A1, n1, c1, A2, n2, c2, st, lo, true, rfl, ⟨hs8, hs9, hl1, hl2⟩, hbZ, fun _ => hwi, fun h => by cases h⟩
   refine ⟨_, ?_, hfin⟩
   simp [results, Tryd.results31, go_sem, g0, g1, g2]
 ·have hne : ((chkA a) == 0) = false := by rw [beq_eq_false_iff_ne]; exact hck
  have hne2 : ((chkA a) != 0) = true := by rw [bne_iff_ne]; exact hck
  have hne3 : decide (chkA a = 0) = false := decide_eq_false hck
  have HTF : Hid ((trimF a).init = []) := dh (by unfold trimF; rw [if_neg hck]; rfl)
  have y0 : w1.cell? ⟨w.1.size + 1, 0, none⟩ = some (.slice none 0 0) := cR hy1
  have y1 : w1.cell? ⟨w.1.size + 1, 1, none⟩ = some (.slice none 0 0) := cR hy1
  have u0 : w1.cell? ⟨w.1.size + 1 + 1, 0, none⟩ = some (.bool false) := cR hu1
  have f0 : w1.frozen? ⟨w.1.size + 1, 0, none⟩ = false := frozen_of_row w1 _ 0 _ _ hy1
  have f1 : w1.frozen? ⟨w.1.size + 1, 1, none⟩ = false := frozen_of_row w1 _ 1 _ _ hy1
  have f2 : w1.frozen? ⟨w.1.size + 1 + 1, 0, none⟩ = false := frozen_of_row w1 _ 0 _ _ hu1
  have yl : w.1.size + 1 < w1.1.size := (aI.1 hy1).1
  have ul : w.1.size + 1 + 1 < w1.1.size := (aI.1 hu1).1
  have HY := dh hy1
  have HU := dh hu1
  clear hck hx1 hy1 hu1
  go_wp2_with fail
  obtain ⟨g1', g2', g3'⟩ := set3W (a := .slice none 0 0) (b := .slice none 0 0) (c := .bool false) HY.out rfl HU.out rfl (by omega)
  obtain ⟨Y, hY⟩ := xQ (((w1.setCell ⟨w.1.size + 1, 0, none⟩ (.slice none 0 0)).setCell ⟨w.1.size + 1, 1, none⟩ (.slice none 0 0)).setCell ⟨w.1.size + 1 + 1, 0, none⟩ (.bool false))
  rw [hY] at g1' g2' g3' ⊢
  have hbY : Below w.1.size w Y := HBB.out.trans (g3'.below (show w.1.size ≤ w1.1.size by omega) (fun y hy e => by have e : y = w.1.size + 1 ∨ y = w.1.size + 1 + 1 := e; omega))
  have g0 : Y.cell? ⟨w.1.size + 1, 0, none⟩ = some (.slice none 0 0) := cR g1'
  have g1 : Y.cell? ⟨w.1.size + 1, 1, none⟩ = some (.slice none 0 0) := cR g1'
  have g2 : Y.cell? ⟨w.1.size + 1 + 1, 0, none⟩ = some (.bool false) := cR g2'
  have hfin : WitPost w a (.returned (.tuple #[.agg #[.slice none 0 0, .slice none 0 0], .bool false])) Y :=
   ⟨none, 0, 0, none, 0, 0, [], [], false, rfl, ⟨Sl.none_ _ _ _, Sl.none_ _ _ _, rfl, rfl⟩, hbY, (fun h => by cases h), fun _ => ⟨HTF.out, rfl, rfl⟩⟩
  refine ⟨_, ?_, hfin⟩
  simp [results, Tryd.results31, go_sem, g0, g1, g2]
end Go.Proofs.YtiebpncpdbnelaaDoor
